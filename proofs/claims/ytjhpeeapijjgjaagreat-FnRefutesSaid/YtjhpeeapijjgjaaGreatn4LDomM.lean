/-
  Plain laws: numbers in a row, lists that hold a number, sets, domains (several small texts in one). Condition: no list is longer than 2 to the 40.
-/
import Derived.Test.YtjhpeeapijjgjaaGreatn4LSetM
import Derived.Test.YtjhpeeapijjgjaaGreatn4LProjM
namespace Go.Proofs.YtjhpeeapijjgjaaGreat
open Go.Abs
set_option linter.unusedVariables false
set_option linter.unusedSimpArgs false

theorem proj_mode_count {p : D_Project} (h : projB p = true) : p.2.1.length ≤ 6 ∧ ∀ i (hi : i < p.2.1.length), 1 ≤ p.2.1[i].2.2.1.length ∧ p.2.1[i].2.2.1.length ≤ 3 := by
 unfold projB at h
 simp only [Bool.and_eq_true] at h
 refine ⟨?_, fun i hi => ?_⟩
 ·have := inB_iff.1 h.1.1.1.1.1.1.1.2
  rw [lenI_eq] at this
  omega
 ·have h1 := h.1.1.1.2
  rw [List.all_eq_true] at h1
  have h2 := h1 i (by simpa using hi)
  unfold actI at h2
  rw [List.getElem?_eq_getElem hi] at h2
  simp only [Bool.and_eq_true] at h2
  have h3 := h2.1
  unfold actB at h3
  simp only [Bool.and_eq_true] at h3
  have := inB_iff.1 h3.2.2
  omega
theorem len_eqB {α β : Type} {x : List α} {y : List β} (h : eqZ (lenI x) (lenI y) = true) : x.length = y.length := by
 rw [eqZ_dec, decide_eq_true_eq] at h
 exact Int.ofNat.inj h
def domI (p : D_Project) (b : D_Domain) (i : Nat) : Bool := match p.2.1[i]?, b.1[i]?, b.2.1[i]?, b.2.2.1[i]? with
 | some a, some x, some y, some m => inB x (-2) 62 && inB y (-2) 62 && setB m && subB m (iotaI a.2.2.1.length)
 | _, _, _, _ => true
def domB (p : D_Project) (b : D_Domain) : Bool := projB p && eqZ (lenI b.1) (lenI p.2.1) && eqZ (lenI b.2.1) (lenI p.2.1) && eqZ (lenI b.2.2.1) (lenI p.2.1) && (List.range p.2.1.length).all (domI p b)
theorem isStart_eq (x : Int) (u : Unit) : impl_isStart (x, u) () = some (inB x (-2) 62, ()) := by
 unfold impl_isStart
 simp only [within_eq, some_bind']
theorem dom_loop_i (p : D_Project) (b : D_Domain) (hp : Sm_Project 1099511627776 p) (hb : Sm_Domain 1099511627776 b) (h : projB p = true) (e1 : b.1.length = p.2.1.length) (e2 : b.2.1.length = p.2.1.length) (e3 : b.2.2.1.length = p.2.1.length) :
  ∀ A : Type, loopN (A := A) big impl_DomainForm_L0 (0, (p.2.1.length : Int), b.2.2.1, b, p, ()) = some (if (List.range p.2.1.length).all (domI p b) = true then .exit (Sum.inl (false, (p.2.1.length : Int), (p.2.1.length : Int), b.2.2.1, b, p, ())) else .ret (false, ())) := by
 have ha := hp.2.1.1
 obtain ⟨-, hm⟩ := proj_mode_count h
 have hmod : ∀ i (hi : i < b.2.2.1.length), b.2.2.1[i].length ≤ 1099511627776 := fun i hi => (hb.2.2.1.2 _ (List.getElem_mem hi)).1
 intro A
 refine allIS (A := A) (F := impl_DomainForm_L0) (fun i => ((i : Int), (p.2.1.length : Int), b.2.2.1, b, p, ())) (0, (p.2.1.length : Int), b.2.2.1, b, p, ()) p.2.1.length (domI p b) (Sum.inl (false, (p.2.1.length : Int), (p.2.1.length : Int), b.2.2.1, b, p, ())) (false, ()) rfl ha
  (fun i hi => ?_) (by unfold impl_DomainForm_L0; simp only [lt_no, Bool.false_eq_true, if_false])
 have h1 : i < b.1.length := by omega
 have h2 : i < b.2.1.length := by omega
 have h3 : i < b.2.2.1.length := by omega
 have hio : (iotaI p.2.1[i].2.2.1.length).length ≤ 1099511627776 := by rw [iotaI_length]; have := (hm i hi).2; omega
 unfold impl_DomainForm_L0 domI
 rw [List.getElem?_eq_getElem hi, List.getElem?_eq_getElem h1, List.getElem?_eq_getElem h2, List.getElem?_eq_getElem h3]
 have k1 := fun u => isStart_eq b.1[i] u
 have k2 := fun u => isStart_eq b.2.1[i] u
 have k3 := fun u => SetOk_impl b.2.2.1[i] u (hmod i h3)
 have k4 := fun u => SetSubset_impl b.2.2.1[i] (iotaI p.2.1[i].2.2.1.length) u (hmod i h3) hio
 have k5 := fun u => ModeIndexes_i p.2.1[i] u (by have := (hm i hi).2; omega)
 simp only [lt_yes hi, if_true, getI_lt h3, getI_lt h1, some_bind', k1, idxN hi ha (Nat.le_refl _)]
 rcases tf (inB b.1[i] (-2) 62) with q1 | q1
 ·simp [q1, notB]
 rcases tf (inB b.2.1[i] (-2) 62) with q2 | q2
 ·simp [q1, q2, k2, notB, getI_lt h2]
 rcases tf (setB b.2.2.1[i]) with q3 | q3
 ·simp [q1, q2, q3, k2, k3, notB, getI_lt h2]
 rcases tf (subB b.2.2.1[i] (iotaI p.2.1[i].2.2.1.length)) with q4 | q4
 ·simp [q1, q2, q3, q4, k2, k3, k4, k5, notB, getI_lt h2, getI_lt hi]
 ·simp [-Int.natCast_add, q1, q2, q3, q4, k2, k3, k4, k5, notB, getI_lt h2, getI_lt hi, idxN hi ha (Nat.le_refl _)]
theorem DomainForm_impl (p : D_Project) (b : D_Domain) (u : Unit) (hp : Sm_Project 1099511627776 p) (hb : Sm_Domain 1099511627776 b) : impl_DomainForm (p, b, u) () = some (domB p b, ()) := by
 unfold impl_DomainForm domB
 simp only [ProjectOk_impl _ _ hp, some_bind']
 rcases tf (projB p) with h | h
 ·simp [h, notB]
 rcases tf (eqZ (lenI b.1) (lenI p.2.1)) with h1 | h1
 ·simp [h, h1, notB]
 rcases tf (eqZ (lenI b.2.1) (lenI p.2.1)) with h2 | h2
 ·simp [h, h1, h2, notB]
 rcases tf (eqZ (lenI b.2.2.1) (lenI p.2.1)) with h3 | h3
 ·simp [h, h1, h2, h3, notB]
 have l0 := dom_loop_i p b hp hb h (len_eqB h1) (len_eqB h2) (len_eqB h3)
 simp only [h, h1, h2, h3, notB_true, Bool.false_eq_true, if_false, some_bind', Bool.and_self, Bool.true_and]
 simp only [lenI_eq, len_eqB h3, l0]
 cases (List.range p.2.1.length).all (domI p b) <;> rfl
/-- no start is left for the activity -/
def badI (b : D_Domain) (i : Nat) : Bool := match b.1[i]?, b.2.1[i]? with
 | some n, some m => ltZ m n
 | _, _ => false
def emptyB (b : D_Domain) : Bool := if (List.range b.1.length).all (fun i => notB (badI b i)) = true then b.2.2.1.any (fun l => eqZ (lenI l) 0) else true
theorem empty_L0 (b : D_Domain) (hb : Sm_Domain 1099511627776 b) (A : Type) : loopN (A := A) big spec_DomainEmpty_L0 (0, (b.1.length : Int), b.1, b, ()) = some (if (List.range b.1.length).all (fun i => notB (badI b i)) = true then .exit (Sum.inl (false, (b.1.length : Int), (b.1.length : Int), b.1, b, ())) else .ret (true, ())) := by
 have hl := hb.1.1
 refine allIS (A := A) (F := spec_DomainEmpty_L0) (fun i => ((i : Int), (b.1.length : Int), b.1, b, ())) (0, (b.1.length : Int), b.1, b, ()) b.1.length (fun i => notB (badI b i)) (Sum.inl (false, (b.1.length : Int), (b.1.length : Int), b.1, b, ())) (true, ()) rfl hl
  (fun i hi => ?_) (by unfold spec_DomainEmpty_L0; simp only [lt_no, Bool.false_eq_true, if_false])
 unfold spec_DomainEmpty_L0 badI
 rw [List.getElem?_eq_getElem hi]
 simp only [lt_yes hi, if_true, getI_lt hi, some_bind', lenI_eq, idxN hi hl (Nat.le_refl _)]
 by_cases h : i < b.2.1.length
 ·rw [List.getElem?_eq_getElem h]
  simp only [lt_yes h, if_true, getI_lt h, some_bind']
  rcases tf (ltZ b.2.1[i] b.1[i]) with q | q <;> simp [-Int.natCast_add, q, notB, idxN hi hl (Nat.le_refl _)]
 ·have e : ltZ (i : Int) (b.2.1.length : Int) = false := by rw [Bool.eq_false_iff, Ne, ltZ_iff]; omega
  rw [List.getElem?_eq_none (by omega)]
  simp [-Int.natCast_add, e, notB, idxN hi hl (Nat.le_refl _)]
theorem DomainEmpty_spec (b : D_Domain) (u : Unit) (hb : Sm_Domain 1099511627776 b) : spec_DomainEmpty (b, u) () = some (emptyB b, ()) := by
 have hl := hb.2.2.1.1
 have l1 := fun A : Type => allS (A := A) (F := spec_DomainEmpty_L1) (fun i => ((i : Int), (b.2.2.1.length : Int), b.2.2.1, ())) (0, (b.2.2.1.length : Int), b.2.2.1, ()) b.2.2.1 (fun l => notB (eqZ (lenI l) 0)) (Sum.inl (false, (b.2.2.1.length : Int), (b.2.2.1.length : Int), b.2.2.1, ())) (true, ()) rfl hl
  (fun i hi => by
   unfold spec_DomainEmpty_L1
   simp only [lt_yes hi, if_true, getI_lt hi, some_bind', idxN hi hl (Nat.le_refl _)]
   cases eqZ (lenI b.2.2.1[i]) 0 <;> rfl)
  (by unfold spec_DomainEmpty_L1; simp only [lt_no, Bool.false_eq_true, if_false])
 have l0 := empty_L0 b hb
 unfold spec_DomainEmpty emptyB
 simp only [lenI_eq, l0, some_bind']
 rcases tf ((List.range b.1.length).all fun i => notB (badI b i)) with h | h
 ·simp [h]
 ·simp only [h, if_true, some_bind']
  have l1' := l1
  simp only [lenI_eq] at l1'
  simp only [l1', all_notB]
  cases b.2.2.1.any (fun l => eqZ (l.length : Int) 0) <;> rfl
theorem IndexFunc_ints (l : List (List Int)) (f : (List Int × Unit) → Option Bool) (q : List Int → Bool) (u : Unit) (hl : l.length ≤ 1099511627776) (hf : ∀ a ∈ l, f (a, ()) = some (q a)) : slices_IndexFunc_int_int_x1 (l, f, u) () = some (idxOf q l, ()) := by
 unfold slices_IndexFunc_int_int_x1 idxOf
 simp only [lenI_eq]
 rw [findS (F := slices_IndexFunc_int_int_x1_L0) (fun i => ((i : Int), (l.length : Int), f, l, ())) (0, (l.length : Int), f, l, ()) l q (Sum.inl (false, (l.length : Int), (l.length : Int), f, l, ())) (fun i => ((i : Int), ())) rfl hl
  (fun i hi => by
   unfold slices_IndexFunc_int_int_x1_L0
   simp only [lt_yes hi, if_true, getI_lt hi, some_bind', hf _ (List.getElem_mem hi), idxN hi hl (Nat.le_refl _)]
   generalize q _ = r
   cases r <;> rfl)
  (by unfold slices_IndexFunc_int_int_x1_L0; simp only [lt_no, Bool.false_eq_true, if_false])]
 cases l.findIdx? q <;> rfl
theorem DomainEmpty_impl (b : D_Domain) (u : Unit) (hb : Sm_Domain 1099511627776 b) : impl_DomainEmpty (b, u) () = some (emptyB b, ()) := by
 have hl := hb.2.2.1.1
 have e : impl_DomainEmpty_L0 = spec_DomainEmpty_L0 := rfl
 have l0 := empty_L0 b hb
 unfold impl_DomainEmpty emptyB
 simp only [lenI_eq, e, l0, some_bind']
 rcases tf ((List.range b.1.length).all fun i => notB (badI b i)) with h | h
 ·simp [h]
 ·simp only [h, if_true, some_bind']
  unfold slices_ContainsFunc_int_int
  rw [IndexFunc_ints b.2.2.1 _ (fun l => eqZ (l.length : Int) 0) () hl (fun a _ => by
   unfold impl_DomainEmpty_1
   simp only [lenI_eq, some_bind'])]
  simp only [some_bind', idxOf_any]
/-- a domain of the right form that is not empty -/
def useB (p : D_Project) (b : D_Domain) : Bool := domB p b && notB (emptyB b)
theorem isUsable_eq (p : D_Project) (b : D_Domain) (u : Unit) (hp : Sm_Project 1099511627776 p) (hb : Sm_Domain 1099511627776 b) : impl_isUsable (p, b, u) () = some (useB p b, ()) := by
 unfold impl_isUsable useB
 simp only [DomainForm_impl _ _ _ hp hb, DomainEmpty_impl _ _ hb, some_bind']
 rcases tf (domB p b) with h | h <;> simp [h]
/-- what a domain of the right form has at a place -/
theorem dom_at {p : D_Project} {b : D_Domain} (h : domB p b = true) {i : Nat} (hi : i < p.2.1.length) :
  ∃ (x y : Int) (m : List Int), getI b.1 (i : Int) = some x ∧ getI b.2.1 (i : Int) = some y ∧ getI b.2.2.1 (i : Int) = some m ∧ m ∈ b.2.2.1 ∧ -2 ≤ x ∧ x ≤ 62 ∧ -2 ≤ y ∧ y ≤ 62 ∧ setB m = true ∧ subB m (iotaI p.2.1[i].2.2.1.length) = true := by
 unfold domB at h
 simp only [Bool.and_eq_true] at h
 have h1 : i < b.1.length := by rw [len_eqB h.1.1.1.2]; exact hi
 have h2 : i < b.2.1.length := by rw [len_eqB h.1.1.2]; exact hi
 have h3 : i < b.2.2.1.length := by rw [len_eqB h.1.2]; exact hi
 have h4 := List.all_eq_true.1 h.2 i (by simpa using hi)
 unfold domI at h4
 rw [List.getElem?_eq_getElem hi, List.getElem?_eq_getElem h1, List.getElem?_eq_getElem h2, List.getElem?_eq_getElem h3] at h4
 simp only [Bool.and_eq_true] at h4
 have k1 := inB_iff.1 h4.1.1.1
 have k2 := inB_iff.1 h4.1.1.2
 exact ⟨_, _, _, getI_lt h1, getI_lt h2, getI_lt h3, List.getElem_mem h3, k1.1, k1.2, k2.1, k2.2, h4.1.2, h4.2⟩
theorem proj_of_dom {p : D_Project} {b : D_Domain} (h : domB p b = true) : projB p = true := by
 unfold domB at h
 simp only [Bool.and_eq_true] at h
 exact h.1.1.1.1
open Go.Abs
set_option linter.unusedVariables false
set_option linter.unusedSimpArgs false

theorem ModeIdx_s (a : D_Activity) (u : Unit) (h : a.2.2.1.length ≤ 200) : spec_ModeIndexes (a, u) () = some (iotaI a.2.2.1.length, ()) := by
 unfold spec_ModeIndexes
 simp only [lenI_eq, rangeN_s _ _ h, some_bind']
def initD (p : D_Project) : D_Domain := (p.2.1.map (fun _ => 0), p.2.1.map (fun _ => subZ .i64 p.1 1), p.2.1.map (fun a => iotaI a.2.2.1.length), ())
def initG (x : Int) (d : D_Domain) (a : D_Activity) : D_Domain := (d.1 ++ [0], d.2.1 ++ [x], d.2.2.1 ++ [iotaI a.2.2.1.length], ())
theorem initG_fold (x : Int) : ∀ (l : List D_Activity) (d : D_Domain), l.foldl (initG x) d = (d.1 ++ l.map (fun _ => 0), d.2.1 ++ l.map (fun _ => x), d.2.2.1 ++ l.map (fun a => iotaI a.2.2.1.length), ())
 | [], d => by simp
 | a :: l, d => by
  rw [List.foldl_cons, initG_fold x l]
  simp [initG]
theorem init_loop (p : D_Project) (h : projB p = true) (A : Type) : loopN (A := A) big spec_l12Of_L0 (0, lenI p.2.1, p.2.1, p, ([], [], [], ()), ([], [], [], ()), ()) = some (.exit (Sum.inl (false, lenI p.2.1, lenI p.2.1, p.2.1, p, initD p, ([], [], [], ()), ()))) := by
 obtain ⟨hn, hm⟩ := mode_count h
 have l0 := (fold_list (A := A) (F := spec_l12Of_L0) (fun i (d : D_Domain) => ((i : Int), lenI p.2.1, p.2.1, p, d, ([], [], [], ()), ())) p.2.1 (fun i d => d.1.length = i ∧ d.2.1.length = i ∧ d.2.2.1.length = i) (initG (subZ .i64 p.1 1)) (fun d => Sum.inl (false, lenI p.2.1, lenI p.2.1, p.2.1, p, d, ([], [], [], ()), ())) (by omega)
  (fun i d hi hI => by
   obtain ⟨h1, h2, h3⟩ := hI
   have hlt : ltZ (i : Int) (lenI p.2.1) = true := lt_yes hi
   have hk := hm i hi
   have k := fun u => ModeIdx_s p.2.1[i] u (by omega)
   refine ⟨?_, by simp [initG, h1], by simp [initG, h2], by simp [initG, h3]⟩
   unfold spec_l12Of_L0
   simp only [hlt, if_true, getI_lt hi, some_bind', k, addOneR d.1 _ (show d.1.length ≤ 1048576 by omega), addOneR d.2.1 _ (show d.2.1.length ≤ 1048576 by omega), addOneR d.2.2.1 _ (show d.2.2.1.length ≤ 1048576 by omega), idxN hi (show p.2.1.length ≤ 1099511627776 by omega) (Nat.le_refl _)]
   rfl)
  (fun d _ => by
   have hlt : ltZ (p.2.1.length : Int) (lenI p.2.1) = false := lt_no _
   unfold spec_l12Of_L0
   simp only [hlt, Bool.false_eq_true, if_false]
   rfl)
  (a := ([], [], [], ())) (s := (0, lenI p.2.1, p.2.1, p, ([], [], [], ()), ([], [], [], ()), ())) rfl ⟨rfl, rfl, rfl⟩).1
 rw [initG_fold] at l0
 simpa [initD] using l0
theorem l12Of_eq (p : D_Project) (u : Unit) (h : projB p = true) : spec_l12Of (p, u) () = some (initD p, ()) := by
 unfold spec_l12Of
 simp only [init_loop p h, some_bind']
open Go.Abs
set_option linter.unusedVariables false
set_option linter.unusedSimpArgs false

theorem big_two : ∃ n, big = n + 1 + 1 := ⟨18446744073709551614, rfl⟩
theorem loop_exit1 {σ A B C : Type} {F : σ → Option (Out σ B C)} {s : σ} {b : B} (h : F s = some (.exit b)) : loopN (A := A) big F s = some (.exit b) := by
 obtain ⟨n, hn⟩ := big_two
 rw [hn]
 simp only [loopN, h]
 rfl
theorem loop_exit2 {σ A B C : Type} {F : σ → Option (Out σ B C)} {s s' : σ} {b : B} (h : F s = some (.norm s')) (h' : F s' = some (.exit b)) : loopN (A := A) big F s = some (.exit b) := by
 obtain ⟨n, hn⟩ := big_two
 rw [hn]
 simp only [loopN, h, h', Option.bind_some]
theorem cloneR (x : List Int) (u : Unit) (h : x.length ≤ 1048576) : slices_Clone_int_int (x, u) () = some (x, ()) := by
 unfold slices_Clone_int_int
 simp only [addNilR _ h, some_bind']
theorem dcopy_s (b : D_Domain) (u : Unit) (h : Sm_Domain 1048576 b) : spec_l12Copy (b, u) () = some (b, ()) := by
 obtain ⟨⟨h1, -⟩, ⟨h2, -⟩, ⟨h3, hm⟩, -⟩ := h
 have l0 := fun A : Type => (fold_list (A := A) (F := spec_l12Copy_L0) (fun i out => ((i : Int), lenI b.2.2.1, b.2.2.1, (b.1, b.2.1, out, ()), ([], [], [], ()), ())) b.2.2.1 (fun i out => out.length = i) (fun out m => out ++ [m]) (fun out => Sum.inl (false, lenI b.2.2.1, lenI b.2.2.1, b.2.2.1, (b.1, b.2.1, out, ()), ([], [], [], ()), ())) (by omega)
  (fun i out hi ho => by
   have hlt : ltZ (i : Int) (lenI b.2.2.1) = true := lt_yes hi
   refine ⟨?_, by simp [ho]⟩
   unfold spec_l12Copy_L0
   simp only [hlt, if_true, getI_lt hi, some_bind', addNilR _ (hm _ (List.getElem_mem hi)).1, addOneR out _ (show out.length ≤ 1048576 by omega), idxN hi (show b.2.2.1.length ≤ 1099511627776 by omega) (Nat.le_refl _)])
  (fun out ho => by
   have hlt : ltZ (b.2.2.1.length : Int) (lenI b.2.2.1) = false := lt_no _
   unfold spec_l12Copy_L0
   simp only [hlt, Bool.false_eq_true, if_false]
   rfl)
  (a := []) (s := (0, lenI b.2.2.1, b.2.2.1, (b.1, b.2.1, [], ()), ([], [], [], ()), ())) rfl rfl).1
 unfold spec_l12Copy
 simp only [addNilR _ h1, addNilR _ h2, l0, some_bind', foldl_append, List.nil_append]
theorem dcopy_i (b : D_Domain) (u : Unit) (h : Sm_Domain 1048576 b) : impl_Domain_copied (b, u) () = some (b, ()) := by
 obtain ⟨⟨h1, -⟩, ⟨h2, -⟩, ⟨h3, hm⟩, -⟩ := h
 have l0 := fun A : Type => (fold_list (A := A) (F := impl_Domain_copied_L0) (fun i out => ((i : Int), lenI b.2.2.1, b.2.2.1, (b.1, b.2.1, out, ()), ([], [], [], ()), ())) b.2.2.1 (fun i out => out.length = i) (fun out m => out ++ [m]) (fun out => Sum.inl (false, lenI b.2.2.1, lenI b.2.2.1, b.2.2.1, (b.1, b.2.1, out, ()), ([], [], [], ()), ())) (by omega)
  (fun i out hi ho => by
   have hlt : ltZ (i : Int) (lenI b.2.2.1) = true := lt_yes hi
   have hc := fun u => cloneR _ u (hm _ (List.getElem_mem hi)).1
   refine ⟨?_, by simp [ho]⟩
   unfold impl_Domain_copied_L0
   simp only [hlt, if_true, getI_lt hi, some_bind', hc, addOneR out _ (show out.length ≤ 1048576 by omega), idxN hi (show b.2.2.1.length ≤ 1099511627776 by omega) (Nat.le_refl _)])
  (fun out ho => by
   have hlt : ltZ (b.2.2.1.length : Int) (lenI b.2.2.1) = false := lt_no _
   unfold impl_Domain_copied_L0
   simp only [hlt, Bool.false_eq_true, if_false]
   rfl)
  (a := []) (s := (0, lenI b.2.2.1, b.2.2.1, (b.1, b.2.1, [], ()), ([], [], [], ()), ())) rfl rfl).1
 unfold impl_Domain_copied
 simp only [cloneR _ _ h1, cloneR _ _ h2, l0, some_bind', foldl_append, List.nil_append]

def placeB {α : Type} (l : List α) (a : Int) : Bool := leZ 0 a && ltZ a (lenI l)
def hasV (b : D_Domain) (a : Int) : Bool := placeB b.1 a && placeB b.2.1 a && placeB b.2.2.1 a
theorem inB_placeB {α : Type} {l : List α} (h : l.length ≤ 1099511627776) (a : Int) : inB a 0 (subZ .i64 (lenI l) 1) = placeB l a := by
 rw [lenI_sub _ h]
 unfold placeB
 rw [leZ_dec, ltZ_dec, lenI_eq, Bool.eq_iff_iff, inB_iff, Bool.and_eq_true, decide_eq_true_eq, decide_eq_true_eq]
 omega
theorem There_s (b : D_Domain) (a : Int) (u : Unit) (h : Sm_Domain 1099511627776 b) : spec_l12There (b, a, u) () = some (hasV b a, ()) := by
 unfold spec_l12There hasV
 simp only [l01In_eq, some_bind', inB_placeB h.1.1, inB_placeB h.2.1.1, inB_placeB h.2.2.1.1]
 rcases tf (placeB b.1 a) with q | q <;> rcases tf (placeB b.2.1 a) with q' | q' <;> simp [q, q']
theorem has_i (b : D_Domain) (a : Int) (u : Unit) : impl_Domain_has (b, a, u) () = some (hasV b a, ()) := by
 unfold impl_Domain_has hasV placeB
 rcases tf (leZ 0 a) with q | q <;> rcases tf (ltZ a (lenI b.1)) with q1 | q1 <;> rcases tf (ltZ a (lenI b.2.1)) with q2 | q2 <;> simp [q, q1, q2]
theorem hasV_at {b : D_Domain} {a : Int} (h : hasV b a = true) : ∃ i : Nat, a = (i : Int) ∧ i < b.1.length ∧ i < b.2.1.length ∧ i < b.2.2.1.length := by
 unfold hasV placeB at h
 simp only [Bool.and_eq_true, leZ_dec, ltZ_dec, lenI_eq, decide_eq_true_eq] at h
 exact ⟨a.toNat, by omega, by omega, by omega, by omega⟩

def clampV (n : Int) : Int := minI (maxI n (-2)) 62
theorem clamped_i (n : Int) (u : Unit) : impl_clamped (n, u) () = some (clampV n, ()) := rfl
theorem clamped_s (n : Int) (u : Unit) : spec_l12Brought (n, u) () = some (clampV n, ()) := by
 unfold spec_l12Brought spec_l02Min spec_l02Max clampV minI maxI
 simp only [ltZ_dec, decide_eq_true_eq]
 by_cases h1 : (62 : Int) < n
 ·have h2 : ¬ (62 : Int) < -2 := by omega
  have h3 : ¬ (-2 : Int) > n := by omega
  have h4 : (62 : Int) < n := h1
  simp [h1, h2, h3]
 ·by_cases h2 : n < -2
  ·have h3 : ¬ (62 : Int) < -2 := by omega
   simp [h1, h2, h3]
  ·simp [h1, h2]
theorem l02Max_s (x y : Int) (u : Unit) : spec_l02Max (x, y, u) () = some (maxI x y, ()) := by
 unfold spec_l02Max maxI
 simp only [ltZ_dec, decide_eq_true_eq]
 by_cases h1 : y < x
 ·have h2 : ¬ y > x := by omega
  simp [h1, h2]
 ·by_cases h2 : y > x
  ·simp [h1, h2]
  ·have : x = y := by omega
   simp [h1, h2, this]
theorem l02Min_s (x y : Int) (u : Unit) : spec_l02Min (x, y, u) () = some (minI x y, ()) := by
 unfold spec_l02Min minI
 simp only [ltZ_dec, decide_eq_true_eq]
 by_cases h1 : x < y
 ·have h2 : ¬ y < x := by omega
  simp [h1, h2]
 ·by_cases h2 : y < x
  ·simp [h1, h2]
  ·have : x = y := by omega
   simp [h1, h2, this]

theorem keptV (l : List Int) (f : (Int × Unit) → Option Bool) (q : Int → Bool) (u : Unit) (hl : l.length ≤ 1048576) (hf : ∀ a ∈ l, f (a, ()) = some (q a)) : impl_kept (l, f, u) () = some (l.filter q, ()) := by
 unfold impl_kept
 simp only [lenI_eq]
 have l0 := fun A : Type => (fold_list (A := A) (B := (Bool × Int × Int × List Int × ((Int × Unit) → Option Bool) × List Int × Unit) ⊕ Empty) (C := List Int × Unit) (F := impl_kept_L0) (fun i out => ((i : Int), (l.length : Int), l, f, out, ())) l (fun i out => out.length ≤ i) (fun out x => if q x = true then out ++ [x] else out) (fun out => Sum.inl (false, (l.length : Int), (l.length : Int), l, f, out, ())) (by omega)
  (fun i out hi ho => by
   have ha : addI out [l[i]] = some (out ++ [l[i]]) := addI_ok (by rw [room_eq]; simp; omega)
   constructor
   ·unfold impl_kept_L0
    simp only [lt_yes hi, if_true, getI_lt hi, some_bind', hf _ (List.getElem_mem hi)]
    rcases tf (q l[i]) with h | h <;> simp [-Int.natCast_add, h, ha, idxN hi (show l.length ≤ 1099511627776 by omega) (Nat.le_refl _)]
   ·rcases tf (q l[i]) with h | h <;> simp [h] <;> omega)
  (fun out ho => by
   unfold impl_kept_L0
   simp only [lt_no, Bool.false_eq_true, if_false])
  (a := []) (s := (0, (l.length : Int), l, f, [], ())) rfl (Nat.le_refl _)).1
 simp only [l0, some_bind', foldl_filter, List.nil_append]
theorem SetRemove_s (l : List Int) (n : Int) (u : Unit) (hl : l.length ≤ 1048576) : spec_SetRemove (l, n, u) () = some (l.filter (fun x => notB (eqZ x n)), ()) := by
 unfold spec_SetRemove
 simp only [lenI_eq]
 have l0 := fun A : Type => (fold_list (A := A) (B := (Bool × Int × Int × List Int × Int × List Int × Unit) ⊕ Empty) (C := List Int × Unit) (F := spec_SetRemove_L0) (fun i out => ((i : Int), (l.length : Int), l, n, out, ())) l (fun i out => out.length ≤ i) (fun out x => if (notB (eqZ x n)) = true then out ++ [x] else out) (fun out => Sum.inl (false, (l.length : Int), (l.length : Int), l, n, out, ())) (by omega)
  (fun i out hi ho => by
   have ha : addI out [l[i]] = some (out ++ [l[i]]) := addI_ok (by rw [room_eq]; simp; omega)
   constructor
   ·unfold spec_SetRemove_L0
    simp only [lt_yes hi, if_true, getI_lt hi, some_bind']
    rcases tf (notB (eqZ l[i] n)) with h | h <;> simp [-Int.natCast_add, h, ha, idxN hi (show l.length ≤ 1099511627776 by omega) (Nat.le_refl _)]
   ·rcases tf (notB (eqZ l[i] n)) with h | h <;> simp [h] <;> omega)
  (fun out ho => by
   unfold spec_SetRemove_L0
   simp only [lt_no, Bool.false_eq_true, if_false])
  (a := []) (s := (0, (l.length : Int), l, n, [], ())) rfl (Nat.le_refl _)).1
 have e := foldl_filter (fun x => notB (eqZ x n)) l []
 simp only [l0, some_bind', e, List.nil_append]
theorem SetRemove_i (l : List Int) (n : Int) (u : Unit) (hl : l.length ≤ 1048576) : impl_SetRemove (l, n, u) () = some (l.filter (fun x => notB (eqZ x n)), ()) := by
 unfold impl_SetRemove
 rw [keptV l _ (fun x => notB (eqZ x n)) () hl (fun a _ => rfl)]
 rfl
theorem put_nil (v : Int) (u : Unit) : spec_l02Put ([], v, u) () = some ([v], ()) := by
 have h := fun u => SetHasR_spec [] v u (by simp)
 have l0 := fun A : Type => loop_exit1 (A := A) (F := spec_l02Put_L0) (s := (v, [], 0, ())) (b := Sum.inl (false, v, [], 0, ())) rfl
 unfold spec_l02Put
 simp only [h, some_bind', hasR, List.any_nil, Bool.false_eq_true, if_false, l0]
 rfl
theorem SetOf_one (v : Int) (u : Unit) : spec_SetOf ([v], u) () = some ([v], ()) := by
 have h := fun u => put_nil v u
 have l0 := fun A : Type => loop_exit2 (A := A) (F := spec_SetOf_L0) (s := (0, lenI [v], [v], [], ())) (s' := (1, lenI [v], [v], [v], ())) (b := Sum.inl (false, 1, lenI [v], [v], [v], ())) (by
  unfold spec_SetOf_L0
  have e1 : ltZ 0 (lenI [v]) = true := rfl
  have e2 : getI [v] 0 = some v := rfl
  simp only [e1, e2, if_true, some_bind', h]
  rfl) rfl
 unfold spec_SetOf
 simp only [l0, some_bind']
theorem SetOf_nil (u : Unit) : spec_SetOf ([], u) () = some ([], ()) := by
 have l0 := fun A : Type => loop_exit1 (A := A) (F := spec_SetOf_L0) (s := (0, lenI ([] : List Int), [], [], ())) (b := Sum.inl (false, 0, lenI ([] : List Int), [], [], ())) rfl
 unfold spec_SetOf
 simp only [l0, some_bind']
theorem Inter_one (v : Int) (m : List Int) (u : Unit) (hm : m.length ≤ 1099511627776) : spec_SetIntersection ([v], m, u) () = some (if hasR m v = true then [v] else [], ()) := by
 have h := fun u => SetHasR_spec m v u hm
 have e1 : ltZ 0 (lenI [v]) = true := rfl
 have e2 : getI [v] 0 = some v := rfl
 have e3 : addI ([] : List Int) [v] = some [v] := rfl
 unfold spec_SetIntersection
 rcases tf (hasR m v) with q | q
 ·have l0 := fun A : Type => loop_exit2 (A := A) (F := spec_SetIntersection_L0) (s := (0, lenI [v], [v], m, [], ())) (s' := (1, lenI [v], [v], m, [], ())) (b := Sum.inl (false, 1, lenI [v], [v], m, [], ())) (by
   unfold spec_SetIntersection_L0
   simp only [e1, e2, if_true, some_bind', h, q, Bool.false_eq_true, if_false]
   rfl) rfl
  simp only [l0, some_bind', SetOf_nil, q, Bool.false_eq_true, if_false]
 ·have l0 := fun A : Type => loop_exit2 (A := A) (F := spec_SetIntersection_L0) (s := (0, lenI [v], [v], m, [], ())) (s' := (1, lenI [v], [v], m, [v], ())) (b := Sum.inl (false, 1, lenI [v], [v], m, [v], ())) (by
   unfold spec_SetIntersection_L0
   simp only [e1, e2, e3, if_true, some_bind', h, q]
   rfl) rfl
  simp only [l0, some_bind', SetOf_one, q, if_true]
theorem filter_one {m : List Int} (hm : m.Nodup) (v : Int) : m.filter (fun n => eqZ n v) = if hasR m v = true then [v] else [] := by
 induction m with
 | nil => rfl
 | cons a m ih =>
  obtain ⟨h1, h2⟩ := List.nodup_cons.1 hm
  have ih := ih h2
  unfold hasR at ih ⊢
  simp only [List.filter_cons, List.any_cons]
  by_cases e : a = v
  ·subst e
   have hn : m.filter (fun n => eqZ n a) = [] := List.filter_eq_nil_iff.2 fun x hx => by
    rw [eqZ_dec]; simp; intro e; exact h1 (e ▸ hx)
   simp only [eqZ_self, hn, if_true, Bool.true_or]
  ·simp only [eqZ_ne e, Bool.false_eq_true, if_false, Bool.false_or]
   exact ih
/-- a domain cut down by a literal -/
def restV (b : D_Domain) (l : D_Literal) : D_Domain :=
 if hasV b l.2.1 = true then
  (if eqZ l.1 1 = true then (setI b.1 l.2.1 (fun x => maxI x (clampV l.2.2.1)), b.2.1, b.2.2.1, ())
  else if eqZ l.1 2 = true then (b.1, setI b.2.1 l.2.1 (fun x => minI x (clampV l.2.2.1)), b.2.2.1, ())
  else if eqZ l.1 3 = true then (b.1, b.2.1, setI b.2.2.1 l.2.1 (fun m => m.filter fun n => eqZ n (clampV l.2.2.1)), ())
  else if eqZ l.1 4 = true then (b.1, b.2.1, setI b.2.2.1 l.2.1 (fun m => m.filter fun n => notB (eqZ n (clampV l.2.2.1))), ())
  else b)
 else b
theorem Restrict_impl (b : D_Domain) (l : D_Literal) (u : Unit) (hb : Sm_Domain 1048576 b) : impl_Restrict (b, l, u) () = some (restV b l, ()) := by
 obtain ⟨k, a, n, u'⟩ := l
 unfold impl_Restrict restV
 simp only [dcopy_i _ _ hb, has_i, clamped_i, some_bind']
 rcases tf (hasV b a) with h | h
 ·simp only [h, notB_false, if_true, Bool.false_eq_true, if_false]
 obtain ⟨i, rfl, h1, h2, h3⟩ := hasV_at h
 have hm := (hb.2.2.1.2 _ (List.getElem_mem h3)).1
 have kk := keptV b.2.2.1[i] (fun v32 => Option.bind (impl_Restrict_1 v32 (clampV n, ())) fun v33 => some v33.1) (fun x => eqZ x (clampV n)) () hm (fun a _ => rfl)
 have kr := fun u => SetRemove_i b.2.2.1[i] (clampV n) u hm
 simp only [h, notB_true, Bool.false_eq_true, if_false, if_true]
 rcases tf (eqZ k 1) with q1 | q1
 ·rcases tf (eqZ k 2) with q2 | q2
  ·rcases tf (eqZ k 3) with q3 | q3
   ·rcases tf (eqZ k 4) with q4 | q4
    ·simp only [q1, q2, q3, q4, Bool.false_eq_true, if_false, some_bind']
    ·simp only [q1, q2, q3, q4, Bool.false_eq_true, if_false, if_true, getI_lt h3, some_bind', kr, setI_const (getI_lt h3)]
   ·simp only [q1, q2, q3, Bool.false_eq_true, if_false, if_true, getI_lt h3, some_bind', kk, setI_const (getI_lt h3)]
  ·simp only [q1, q2, Bool.false_eq_true, if_false, if_true, getI_lt h2, some_bind', setI_const (getI_lt h2)]
 ·simp only [q1, if_true, getI_lt h1, some_bind', setI_const (getI_lt h1)]
theorem Restrict_spec (b : D_Domain) (l : D_Literal) (u : Unit) (hb : Sm_Domain 1048576 b) (hn : ∀ m ∈ b.2.2.1, m.Nodup) : spec_Restrict (b, l, u) () = some (restV b l, ()) := by
 obtain ⟨k, a, n, u'⟩ := l
 have hb' := smm_Domain (B' := 1099511627776) (by omega) b hb
 unfold spec_Restrict restV
 simp only [dcopy_s _ _ hb, There_s _ _ _ hb', clamped_s, some_bind']
 rcases tf (hasV b a) with h | h
 ·simp only [h, notB_false, if_true, Bool.false_eq_true, if_false]
 obtain ⟨i, rfl, h1, h2, h3⟩ := hasV_at h
 have hm := (hb.2.2.1.2 _ (List.getElem_mem h3)).1
 have kk := fun u => Inter_one (clampV n) b.2.2.1[i] u (by omega)
 have kr := fun u => SetRemove_s b.2.2.1[i] (clampV n) u hm
 have hf := filter_one (hn _ (List.getElem_mem h3)) (clampV n)
 simp only [h, notB_true, Bool.false_eq_true, if_false, if_true]
 rcases tf (eqZ k 1) with q1 | q1
 ·rcases tf (eqZ k 2) with q2 | q2
  ·rcases tf (eqZ k 3) with q3 | q3
   ·rcases tf (eqZ k 4) with q4 | q4
    ·simp only [q1, q2, q3, q4, Bool.false_eq_true, if_false, some_bind']
    ·simp only [q1, q2, q3, q4, Bool.false_eq_true, if_false, if_true, getI_lt h3, some_bind', kr, setI_const (getI_lt h3)]
   ·simp only [q1, q2, q3, Bool.false_eq_true, if_false, if_true, getI_lt h3, some_bind', kk, setI_const (getI_lt h3), hf]
  ·simp only [q1, q2, Bool.false_eq_true, if_false, if_true, getI_lt h2, some_bind', l02Min_s, setI_const (getI_lt h2)]
 ·simp only [q1, if_true, getI_lt h1, some_bind', l02Max_s, setI_const (getI_lt h1)]
open Go.Abs
set_option linter.unusedVariables false
set_option linter.unusedSimpArgs false

theorem len_eqC {α β : Type} {x : List α} {y : List β} (h : eqZ (lenI x) (lenI y) = true) : x.length = y.length := by
 rw [eqZ_dec, decide_eq_true_eq] at h
 exact Int.ofNat.inj h
def conI (b : D_Domain) (s : D_Schedule) (i : Nat) : Bool := match b.1[i]?, b.2.1[i]?, b.2.2.1[i]?, s.1[i]?, s.2.1[i]? with
 | some x, some y, some ms, some t, some m => inB t x y && hasB ms m
 | _, _, _, _, _ => true
def conB (b : D_Domain) (s : D_Schedule) : Bool := eqZ (lenI s.2.1) (lenI s.1) && eqZ (lenI b.1) (lenI s.1) && eqZ (lenI b.2.1) (lenI s.1) && eqZ (lenI b.2.2.1) (lenI s.1) && (List.range s.1.length).all (conI b s)
theorem con_loop_i (b : D_Domain) (s : D_Schedule) (hb : Sm_Domain 1099511627776 b) (hs : s.1.length ≤ 1099511627776) (e0 : s.2.1.length = s.1.length) (e1 : b.1.length = s.1.length) (e2 : b.2.1.length = s.1.length) (e3 : b.2.2.1.length = s.1.length) :
  ∀ A : Type, loopN (A := A) big impl_Contains_L0 (0, (s.1.length : Int), s.1, b, s, ()) = some (if (List.range s.1.length).all (conI b s) = true then .exit (Sum.inl (false, (s.1.length : Int), (s.1.length : Int), s.1, b, s, ())) else .ret (false, ())) := by
 have hmod : ∀ i (hi : i < b.2.2.1.length), b.2.2.1[i].length ≤ 1099511627776 := fun i hi => (hb.2.2.1.2 _ (List.getElem_mem hi)).1
 intro A
 refine allIS (A := A) (F := impl_Contains_L0) (fun i => ((i : Int), (s.1.length : Int), s.1, b, s, ())) (0, (s.1.length : Int), s.1, b, s, ()) s.1.length (conI b s) (Sum.inl (false, (s.1.length : Int), (s.1.length : Int), s.1, b, s, ())) (false, ()) rfl hs
  (fun i hi => ?_) (by unfold impl_Contains_L0; simp only [lt_no, Bool.false_eq_true, if_false])
 have h0 : i < s.2.1.length := by omega
 have h1 : i < b.1.length := by omega
 have h2 : i < b.2.1.length := by omega
 have h3 : i < b.2.2.1.length := by omega
 have k := fun u => SetHas_impl b.2.2.1[i] s.2.1[i] u (hmod i h3)
 have hin : inB s.1[i] b.1[i] b.2.1[i] = (notB (ltZ s.1[i] b.1[i]) && notB (ltZ b.2.1[i] s.1[i])) := by
  rw [Bool.eq_iff_iff, inB_iff, Bool.and_eq_true, notB_not, notB_not, Bool.not_eq_true', Bool.not_eq_true', Bool.eq_false_iff, Bool.eq_false_iff, Ne, Ne, ltZ_iff, ltZ_iff]
  omega
 unfold impl_Contains_L0 conI
 rw [List.getElem?_eq_getElem hi, List.getElem?_eq_getElem h0, List.getElem?_eq_getElem h1, List.getElem?_eq_getElem h2, List.getElem?_eq_getElem h3]
 simp only [lt_yes hi, if_true, getI_lt hi, getI_lt h1, some_bind', hin]
 rcases tf (ltZ s.1[i] b.1[i]) with q0 | q0 <;> rcases tf (ltZ b.2.1[i] s.1[i]) with q1 | q1 <;> rcases tf (hasB b.2.2.1[i] s.2.1[i]) with q2 | q2 <;> simp [-Int.natCast_add, q0, q1, q2, k, notB, getI_lt h0, getI_lt h2, getI_lt h3, idxN hi hs (Nat.le_refl _)]
theorem Contains_impl (b : D_Domain) (s : D_Schedule) (u : Unit) (hb : Sm_Domain 1099511627776 b) (hs : s.1.length ≤ 1099511627776) : impl_Contains (b, s, u) () = some (conB b s, ()) := by
 unfold impl_Contains conB
 rcases tf (eqZ (lenI s.2.1) (lenI s.1)) with h0 | h0
 ·simp [h0, notB]
 rcases tf (eqZ (lenI b.1) (lenI s.1)) with h1 | h1
 ·simp [h0, h1, notB]
 rcases tf (eqZ (lenI b.2.1) (lenI s.1)) with h2 | h2
 ·simp [h0, h1, h2, notB]
 rcases tf (eqZ (lenI b.2.2.1) (lenI s.1)) with h3 | h3
 ·simp [h0, h1, h2, h3, notB]
 have l0 := con_loop_i b s hb hs (len_eqC h0) (len_eqC h1) (len_eqC h2) (len_eqC h3)
 simp only [h0, h1, h2, h3, notB_true, Bool.false_eq_true, if_false, some_bind', Bool.and_self, Bool.true_and]
 simp only [lenI_eq, l0]
 rcases tf ((List.range s.1.length).all (conI b s)) with q | q <;> simp [q]
end Go.Proofs.YtjhpeeapijjgjaaGreat
