/-
  Plain laws: which projects are valid, in the program and in the reference: the whole project. Condition: no list is longer than 2 to the 40.
-/
import Derived.Test.Ytjgmjljdhgfdhaaa3LProj
namespace Go.Proofs.Ytjgmjljdhgfdhaa
open Go.Abs
set_option linter.unusedVariables false
set_option linter.unusedSimpArgs false

def actI (p : D_Project) (i : Nat) : Bool := match p.2.1[i]? with
  | some a => actB a (lenI p.2.2.2.1) (lenI p.2.2.2.2.1) && eqZ (idxOf (fun b => eqS b.1 a.1) p.2.1) i
  | none => true
def linkB (n : Int) (k : D_Link) : Bool := inB k.1 0 (subZ .i64 n 1) && inB k.2.1 0 (subZ .i64 n 1) && notB (eqZ k.1 k.2.1) && inB k.2.2.2.1 (-60) 60
def projB (p : D_Project) : Bool := (inB p.1 1 60 && inB (lenI p.2.1) 1 6 && notB (ltZ 3 (lenI p.2.2.2.1)) && notB (ltZ 2 (lenI p.2.2.2.2.1)) && notB (ltZ 12 (lenI p.2.2.1))) &&
  (List.range p.2.1.length).all (actI p) && p.2.2.2.1.all resrB && (p.2.2.2.2.1.all fun n => inB n 0 100) && p.2.2.1.all (linkB (lenI p.2.1))

theorem ProjectOk_spec (p : D_Project) (u : Unit) (h : Sm_Project 1099511627776 p) : spec_ProjectOk (p, u) () = some (projB p, ()) := by
  obtain ⟨-, ⟨ha, hA⟩, ⟨hk, -⟩, ⟨hr, hR⟩, ⟨hs, -⟩, -⟩ := h
  have l0 := fun A : Type => allIS (A := A) (F := spec_ProjectOk_L0) (fun i => ((i : Int), lenI p.2.1, p.2.1, p, lenI p.2.1, ())) (0, lenI p.2.1, p.2.1, p, lenI p.2.1, ()) p.2.1.length (actI p) (Sum.inl (false, lenI p.2.1, lenI p.2.1, p.2.1, p, lenI p.2.1, ())) (false, ()) rfl ha
    (fun i hi => by
      unfold spec_ProjectOk_L0 actI
      simp only [lenI_eq, lt_yes hi, if_true, getI_lt hi, some_bind', List.getElem?_eq_getElem hi]
      simp only [ActivityOk_spec _ _ _ _ (hA _ (List.getElem_mem hi)), some_bind', ActivityIndex_spec _ _ _ ha, idxN hi ha (Nat.le_refl _)]
      cases hp : actB p.2.1[i] (p.2.2.2.1.length : Int) (p.2.2.2.2.1.length : Int) <;> cases hq : eqZ (idxOf (fun b => eqS b.1 p.2.1[i].1) p.2.1) (i : Int) <;> simp [-Int.natCast_add, notB, hq, idxN hi ha (Nat.le_refl _)])
    (by unfold spec_ProjectOk_L0; simp only [lenI_eq, lt_no, Bool.false_eq_true, if_false])
  have l1 := fun A : Type => allS (A := A) (F := spec_ProjectOk_L1) (fun i => ((i : Int), lenI p.2.2.2.1, p.2.2.2.1, p, lenI p.2.1, ())) (0, lenI p.2.2.2.1, p.2.2.2.1, p, lenI p.2.1, ()) p.2.2.2.1 resrB (Sum.inl (false, lenI p.2.2.2.1, lenI p.2.2.2.1, p.2.2.2.1, p, lenI p.2.1, ())) (false, ()) rfl hr
    (fun i hi => by
      unfold spec_ProjectOk_L1
      simp only [lenI_eq, lt_yes hi, if_true, getI_lt hi, some_bind', ResourceOk_spec _ _ (hR _ (List.getElem_mem hi)), idxN hi hr (Nat.le_refl _)]
      cases hp : resrB p.2.2.2.1[i] <;> simp [-Int.natCast_add, notB])
    (by unfold spec_ProjectOk_L1; simp only [lenI_eq, lt_no, Bool.false_eq_true, if_false])
  have l2 := fun A : Type => allS (A := A) (F := spec_ProjectOk_L2) (fun i => ((i : Int), lenI p.2.2.2.2.1, p.2.2.2.2.1, p, lenI p.2.1, ())) (0, lenI p.2.2.2.2.1, p.2.2.2.2.1, p, lenI p.2.1, ()) p.2.2.2.2.1 (fun n => inB n 0 100) (Sum.inl (false, lenI p.2.2.2.2.1, lenI p.2.2.2.2.1, p.2.2.2.2.1, p, lenI p.2.1, ())) (false, ()) rfl hs
    (fun i hi => by
      unfold spec_ProjectOk_L2
      simp only [lenI_eq, lt_yes hi, if_true, getI_lt hi, some_bind', l01In_eq, idxN hi hs (Nat.le_refl _)]
      cases hp : inB p.2.2.2.2.1[i] 0 100 <;> simp [-Int.natCast_add, notB])
    (by unfold spec_ProjectOk_L2; simp only [lenI_eq, lt_no, Bool.false_eq_true, if_false])
  have l3 := fun A : Type => allS (A := A) (F := spec_ProjectOk_L3) (fun i => ((i : Int), lenI p.2.2.1, p.2.2.1, lenI p.2.1, ())) (0, lenI p.2.2.1, p.2.2.1, lenI p.2.1, ()) p.2.2.1 (linkB (lenI p.2.1)) (Sum.inl (false, lenI p.2.2.1, lenI p.2.2.1, p.2.2.1, lenI p.2.1, ())) (false, ()) rfl hk
    (fun i hi => by
      unfold spec_ProjectOk_L3 linkB
      generalize lenI p.2.1 = n
      simp only [lenI_eq, lt_yes hi, if_true, getI_lt hi, some_bind', l01In_eq]
      cases h1 : inB p.2.2.1[i].1 0 (subZ .i64 n 1) <;> cases h2 : inB p.2.2.1[i].2.1 0 (subZ .i64 n 1) <;> cases h3 : eqZ p.2.2.1[i].1 p.2.2.1[i].2.1 <;> cases h4 : inB p.2.2.1[i].2.2.2.1 (-60) 60 <;>
        simp [-Int.natCast_add, notB, l01In_eq, h2, h3, h4, idxN hi hk (Nat.le_refl _)])
    (by unfold spec_ProjectOk_L3; simp only [lenI_eq, lt_no, Bool.false_eq_true, if_false])
  unfold spec_ProjectOk projB
  simp only [l01In_eq, some_bind']
  cases h1 : inB p.1 1 60 with
  | false => simp [notB]
  | true =>
  cases h2 : inB (lenI p.2.1) 1 6 with
  | false => simp [notB, l01In_eq, h2]
  | true =>
  cases h3 : ltZ 3 (lenI p.2.2.2.1) with
  | true => simp [notB, l01In_eq, h2, h3]
  | false =>
  cases h4 : ltZ 2 (lenI p.2.2.2.2.1) with
  | true => simp [notB, l01In_eq, h2, h3, h4]
  | false =>
  cases h5 : ltZ 12 (lenI p.2.2.1) with
  | true => simp [notB, l01In_eq, h2, h3, h4, h5]
  | false =>
  simp only [notB_true, notB_false, Bool.false_eq_true, if_false, h2, h3, h4, h5, some_bind', l0]
  cases k0 : (List.range p.2.1.length).all (actI p) with
  | false => simp
  | true =>
  simp only [if_true, some_bind', l1]
  cases k1 : p.2.2.2.1.all resrB with
  | false => simp
  | true =>
  simp only [if_true, some_bind', l2]
  cases k2 : (p.2.2.2.2.1.all fun n => inB n 0 100) with
  | false => simp
  | true =>
  simp only [if_true, some_bind', l3]
  cases k3 : p.2.2.1.all (linkB (lenI p.2.1)) with
  | false => simp
  | true => simp

theorem hasActivity_eq (p : D_Project) (a : Int) (u : Unit) : impl_Project_hasActivity (p, a, u) () = some (inB a 0 (subZ .i64 (lenI p.2.1) 1), ()) := by
  unfold impl_Project_hasActivity
  simp only [within_eq, some_bind']
theorem linkOk_eq (p : D_Project) (k : D_Link) (u : Unit) : impl_Project_linkOk (p, k, u) () = some (linkB (lenI p.2.1) k, ()) := by
  unfold impl_Project_linkOk linkB
  simp only [hasActivity_eq, within_eq, some_bind']
  generalize lenI p.2.1 = n
  cases h1 : inB k.1 0 (subZ .i64 n 1) <;> cases h2 : inB k.2.1 0 (subZ .i64 n 1) <;> cases h3 : eqZ k.1 k.2.1 <;> cases h4 : inB k.2.2.2.1 (-60) 60 <;> simp [notB]
theorem all_notany {E : Type} (q : E → Bool) (l : List E) : notB (l.any fun k => notB (q k)) = l.all q := by
  induction l with
  | nil => rfl
  | cons x l ih =>
    simp only [List.any_cons, List.all_cons, ← ih]
    cases q x <;> simp [notB]
theorem ProjectOk_impl (p : D_Project) (u : Unit) (h : Sm_Project 1099511627776 p) : impl_ProjectOk (p, u) () = some (projB p, ()) := by
  obtain ⟨-, ⟨ha, hA⟩, ⟨hk, -⟩, ⟨hr, hR⟩, ⟨hs, -⟩, -⟩ := h
  have l0 := fun A : Type => allIS (A := A) (F := impl_ProjectOk_L0) (fun i => ((i : Int), lenI p.2.1, p.2.1, p, ())) (0, lenI p.2.1, p.2.1, p, ()) p.2.1.length (actI p) (Sum.inl (false, lenI p.2.1, lenI p.2.1, p.2.1, p, ())) (false, ()) rfl ha
    (fun i hi => by
      unfold impl_ProjectOk_L0 actI
      simp only [lenI_eq, lt_yes hi, if_true, getI_lt hi, some_bind', List.getElem?_eq_getElem hi]
      simp only [ActivityOk_impl _ _ _ _ (hA _ (List.getElem_mem hi)), some_bind', ActivityIndex_impl _ _ _ ha, idxN hi ha (Nat.le_refl _)]
      cases hp : actB p.2.1[i] (p.2.2.2.1.length : Int) (p.2.2.2.2.1.length : Int) <;> cases hq : eqZ (idxOf (fun b => eqS b.1 p.2.1[i].1) p.2.1) (i : Int) <;> simp [-Int.natCast_add, notB, hq, idxN hi ha (Nat.le_refl _)])
    (by unfold impl_ProjectOk_L0; simp only [lenI_eq, lt_no, Bool.false_eq_true, if_false])
  have l1 := fun A : Type => allS (A := A) (F := impl_ProjectOk_L1) (fun i => ((i : Int), lenI p.2.2.2.1, p.2.2.2.1, p, ())) (0, lenI p.2.2.2.1, p.2.2.2.1, p, ()) p.2.2.2.1 resrB (Sum.inl (false, lenI p.2.2.2.1, lenI p.2.2.2.1, p.2.2.2.1, p, ())) (false, ()) rfl hr
    (fun i hi => by
      unfold impl_ProjectOk_L1
      simp only [lenI_eq, lt_yes hi, if_true, getI_lt hi, some_bind', ResourceOk_impl _ _ (hR _ (List.getElem_mem hi)), idxN hi hr (Nat.le_refl _)]
      cases hp : resrB p.2.2.2.1[i] <;> simp [-Int.natCast_add, notB])
    (by unfold impl_ProjectOk_L1; simp only [lenI_eq, lt_no, Bool.false_eq_true, if_false])
  have l2 := fun A : Type => allS (A := A) (F := impl_ProjectOk_L2) (fun i => ((i : Int), lenI p.2.2.2.2.1, p.2.2.2.2.1, p, ())) (0, lenI p.2.2.2.2.1, p.2.2.2.2.1, p, ()) p.2.2.2.2.1 (fun n => inB n 0 100) (Sum.inl (false, lenI p.2.2.2.2.1, lenI p.2.2.2.2.1, p.2.2.2.2.1, p, ())) (false, ()) rfl hs
    (fun i hi => by
      unfold impl_ProjectOk_L2
      simp only [lenI_eq, lt_yes hi, if_true, getI_lt hi, some_bind', within_eq, idxN hi hs (Nat.le_refl _)]
      cases hp : inB p.2.2.2.2.1[i] 0 100 <;> simp [-Int.natCast_add, notB])
    (by unfold impl_ProjectOk_L2; simp only [lenI_eq, lt_no, Bool.false_eq_true, if_false])
  have l3 := IndexFunc_Link p.2.2.1 (fun v35 => (Option.bind (impl_ProjectOk_1 v35 (p, ())) fun v36 => (some v36.1))) (fun k => notB (linkB (lenI p.2.1) k)) () hk (fun a _ => by
    unfold impl_ProjectOk_1
    simp only [linkOk_eq, some_bind'])
  unfold impl_ProjectOk projB
  simp only [within_eq, some_bind']
  cases h1 : inB p.1 1 60 with
  | false => simp [notB]
  | true =>
  cases h2 : inB (lenI p.2.1) 1 6 with
  | false => simp [notB, within_eq, h2]
  | true =>
  cases h3 : ltZ 3 (lenI p.2.2.2.1) with
  | true => simp [notB, within_eq, h2, h3]
  | false =>
  cases h4 : ltZ 2 (lenI p.2.2.2.2.1) with
  | true => simp [notB, within_eq, h2, h3, h4]
  | false =>
  cases h5 : ltZ 12 (lenI p.2.2.1) with
  | true => simp [notB, within_eq, h2, h3, h4, h5]
  | false =>
  simp only [notB_true, notB_false, Bool.false_eq_true, if_false, h2, h3, h4, h5, some_bind', l0]
  cases k0 : (List.range p.2.1.length).all (actI p) with
  | false => simp
  | true =>
  simp only [if_true, some_bind', l1]
  cases k1 : p.2.2.2.1.all resrB with
  | false => simp
  | true =>
  simp only [if_true, some_bind', l2]
  cases k2 : (p.2.2.2.2.1.all fun n => inB n 0 100) with
  | false => simp
  | true =>
  simp only [if_true, some_bind']
  unfold slices_ContainsFunc_impl_Link_impl_Link
  simp only [l3, some_bind', idxOf_any, all_notany, Bool.true_and, Bool.and_true, notB_false]
theorem lenI_sub {α : Type} (l : List α) (h : l.length ≤ 1099511627776) : subZ .i64 (lenI l) 1 = (l.length : Int) - 1 := by
  rw [lenI_eq, subZ64 (by omega) (by omega)]
/-- a number that is a place in a list -/
theorem inB_place {α : Type} {l : List α} (h : l.length ≤ 1099511627776) {x : Int} (hx : inB x 0 (subZ .i64 (lenI l) 1) = true) : ∃ i : Nat, x = (i : Int) ∧ i < l.length := by
  rw [lenI_sub l h, inB_iff] at hx
  exact ⟨x.toNat, by omega, by omega⟩
theorem proj_dead {p : D_Project} (h : projB p = true) : 1 ≤ p.1 ∧ p.1 ≤ 60 := by
  unfold projB at h
  simp only [Bool.and_eq_true] at h
  exact inB_iff.1 h.1.1.1.1.1.1.1.1
end Go.Proofs.Ytjgmjljdhgfdhaa
