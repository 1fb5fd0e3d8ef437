/-
  Plain laws: a resource's row in a chart, in the program and in the reference.
-/
import Derived.Test.YtholdafohofboaaGreatDoore3LForm
import Derived.Test.YtholdafohofboaaGreatDoore3LRun
import Derived.Test.YtholdafohofboaaGreatDoore3LUse
import Derived.Test.YtholdafohofboaaGreatDoore3LFmt
namespace Go.Proofs.YtholdafohofboaaGreatDoor
open Go.Abs
set_option linter.unusedVariables false
set_option linter.unusedSimpArgs false

theorem proj_hor {p : D_Project} (h : projB p = true) : 1 ≤ p.1 ∧ p.1 ≤ 60 := by
  unfold projB at h
  simp only [Bool.and_eq_true] at h
  exact inB_iff.1 h.1.1.1.1.1.1.1.1
theorem proj_stepsR {p : D_Project} (h : projB p = true) {j : Nat} (hj : j < p.2.2.2.1.length) : stepsB p.2.2.2.1[j].1 = true := by
  unfold projB at h
  simp only [Bool.and_eq_true] at h
  have h1 := List.all_eq_true.1 h.1.1.2 _ (List.getElem_mem hj)
  unfold resrB at h1
  simp only [Bool.and_eq_true] at h1
  exact h1.2.1
def capVC (l : List D_Step) (t : Int) : Int := l.foldl (fun n s => if leZ s.1 t = true then s.2.1 else n) 0
theorem l03At_C (l : List D_Step) (t : Int) (u : Unit) (hl : l.length ≤ 1099511627776) : spec_l03At (l, t, u) () = some (capVC l t, ()) := by
  have l0 := fun A : Type => (fold_list (A := A) (F := spec_l03At_L0) (fun i n => ((i : Int), (l.length : Int), l, t, n, ())) l (fun _ _ => True) (fun n s => if leZ s.1 t = true then s.2.1 else n) (fun n => Sum.inl (false, (l.length : Int), (l.length : Int), l, t, n, ())) hl
    (fun i n hi _ => by
      refine ⟨?_, trivial⟩
      unfold spec_l03At_L0
      simp only [lt_yes hi, if_true, getI_lt hi, some_bind']
      rcases tf (leZ l[i].1 t) with h1 | h1 <;> simp [-Int.natCast_add, h1, idxN hi hl (Nat.le_refl _)])
    (fun n _ => by
      unfold spec_l03At_L0
      simp only [lt_no, Bool.false_eq_true, if_false])
    (a := 0) (s := (0, (l.length : Int), l, t, 0, ())) rfl trivial).1
  unfold spec_l03At capVC
  simp only [lenI_eq, l0, some_bind']
theorem capacityAt_C (l : List D_Step) (t : Int) (u : Unit) (hl : l.length ≤ 1099511627776) : impl_capacityAt (l, t, u) () = some (capVC l t, ()) := by
  have l0 := fun A : Type => (fold_list (A := A) (F := impl_capacityAt_L0) (fun i n => ((i : Int), (l.length : Int), l, t, n, ())) l (fun _ _ => True) (fun n s => if leZ s.1 t = true then s.2.1 else n) (fun n => Sum.inl (false, (l.length : Int), (l.length : Int), l, t, n, ())) hl
    (fun i n hi _ => by
      refine ⟨?_, trivial⟩
      unfold impl_capacityAt_L0
      simp only [lt_yes hi, if_true, getI_lt hi, some_bind']
      rcases tf (leZ l[i].1 t) with h1 | h1 <;> simp [-Int.natCast_add, h1, idxN hi hl (Nat.le_refl _)])
    (fun n _ => by
      unfold impl_capacityAt_L0
      simp only [lt_no, Bool.false_eq_true, if_false])
    (a := 0) (s := (0, (l.length : Int), l, t, 0, ())) rfl trivial).1
  unfold impl_capacityAt capVC
  simp only [lenI_eq, l0, some_bind']
theorem CapacityAt_C {l : List D_Step} {t : Nat} (u : Unit) (hl : l.length ≤ 1099511627776) (h : stepsB l = true) (ht : t ≤ 60) : spec_CapacityAt (l, (t : Int), u) () = some (capVC l (t : Int), ()) := by
  have hin : inB (t : Int) 0 60 = true := inB_iff.2 (by omega)
  unfold spec_CapacityAt
  simp only [StepsOk_spec _ _ hl, l01In_eq, some_bind', h, notB_true, Bool.false_eq_true, if_false, hin, l03At_C _ _ _ hl]
/-- a cell of a resource's row -/
def cellV (p : D_Project) (s : D_Schedule) (j t : Nat) : List UInt8 :=
  if ltZ (capVC (match p.2.2.2.1[j]? with | some r => r.1 | none => []) (t : Int)) (useV p s (j : Int) (t : Int)) = true then [33]
  else if ltZ 9 (useV p s (j : Int) (t : Int)) = true then [42] else fmtV (useV p s (j : Int) (t : Int))
theorem cellV_len (p : D_Project) (s : D_Schedule) (j t : Nat) : (cellV p s j t).length ≤ 7 := by
  have key : ∀ (b1 b2 : Bool) (x : List UInt8), x.length ≤ 7 → (if b1 = true then [33] else if b2 = true then [42] else x).length ≤ 7 := fun b1 b2 x h => by cases b1 <;> cases b2 <;> simp [h]
  exact key _ _ _ (fmtV_len _)
def rowR (p : D_Project) (s : D_Schedule) (j : Nat) : Nat → List UInt8
  | 0 => []
  | k + 1 => rowR p s j k ++ cellV p s j k
theorem rowR_len (p : D_Project) (s : D_Schedule) (j : Nat) : ∀ k, (rowR p s j k).length ≤ 7 * k
  | 0 => by simp [rowR]
  | k + 1 => by
    have h1 := rowR_len p s j k
    have h2 := cellV_len p s j k
    simp only [rowR, List.length_append]
    omega
/-- a resource's row -/
def resRowV (p : D_Project) (s : D_Schedule) (r : Int) : List UInt8 := if (formB p s && inB r 0 (subZ .i64 (lenI p.2.2.2.1) 1)) = true then rowR p s r.toNat p.1.toNat else []
theorem resRowV_len (p : D_Project) (s : D_Schedule) (r : Int) : (resRowV p s r).length ≤ 420 := by
  unfold resRowV
  split
  · rename_i h
    simp only [Bool.and_eq_true] at h
    have hn := proj_hor (proj_of_form h.1)
    have := rowR_len p s r.toNat p.1.toNat
    omega
  · simp
theorem lt10 (x : Int) : ltZ x 10 = notB (ltZ 9 x) := by
  rcases tf (ltZ 9 x) with h | h
  · rw [h]
    have : ¬ (9 < x) := fun hh => by rw [ltZ_iff.2 hh] at h; cases h
    show ltZ x 10 = true
    rw [ltZ_iff]
    omega
  · rw [h]
    rw [ltZ_iff] at h
    show ltZ x 10 = false
    rw [Bool.eq_false_iff, Ne, ltZ_iff]
    omega
theorem hasResource_C (p : D_Project) (a : Int) (u : Unit) : impl_Project_hasResource (p, a, u) () = some (inB a 0 (subZ .i64 (lenI p.2.2.2.1) 1), ()) := by
  unfold impl_Project_hasResource
  simp only [within_eq, some_bind']
theorem ResourceRow_spec (p : D_Project) (s : D_Schedule) (r : Int) (u : Unit) (hp : Sm_Project 1099511627776 p) : spec_ResourceRow (p, s, r, u) () = some (resRowV p s r, ()) := by
  unfold spec_ResourceRow resRowV
  simp only [ScheduleForm_spec _ _ _ hp, l01In_eq, some_bind']
  rcases tf (formB p s) with h | h
  · simp [h, notB]
  rcases tf (inB r 0 (subZ .i64 (lenI p.2.2.2.1) 1)) with h1 | h1
  · simp [h, h1, notB]
  have h1' := h1
  obtain ⟨j, rfl, hj⟩ := inB_place hp.2.2.2.1.1 h1
  have hok := proj_of_form h
  obtain ⟨n1, n2⟩ := proj_hor hok
  obtain ⟨n, hn⟩ : ∃ n : Nat, p.1 = (n : Int) := ⟨p.1.toNat, by omega⟩
  have hst := proj_stepsR hok hj
  have hsl := (hp.2.2.2.1.2 _ (List.getElem_mem hj)).1.1
  have hut : ∀ t : Int, useT p s (j : Int) t = useV p s (j : Int) t := fun t => by
    unfold useT
    simp only [h, h1', Bool.and_self, if_true]
  have l0 := fun A : Type => (fold_loop (A := A) (B := (Bool × Int × D_Schedule × D_Project × Int × List UInt8 × Unit) ⊕ Empty) (C := List UInt8 × Unit) (F := spec_ResourceRow_L0) (fun i (out : List UInt8) => ((i : Int), s, p, (j : Int), out, ())) n (fun i out => out = rowR p s j i) (fun i _ => rowR p s j (i + 1))
    (fun out => Sum.inl (false, (n : Int), s, p, (j : Int), out, ())) (by omega)
    (fun i out hi ho => by
      subst ho
      have hl : ltZ (i : Int) p.1 = true := by rw [ltZ_iff]; omega
      have k1 := rowR_len p s j i
      have k2 := fmtV_len (useV p s (j : Int) (i : Int))
      have ad : ∀ y : List UInt8, y.length ≤ 7 → addI (rowR p s j i) y = some (rowR p s j i ++ y) := fun y hy => addI_ok (by rw [room_eq]; omega)
      have a1 := ad [33] (by simp)
      have a2 := ad [42] (by simp)
      have a3 := ad _ k2
      refine ⟨?_, rfl⟩
      unfold spec_ResourceRow_L0
      simp only [hl, if_true, UsageAt_spec _ _ _ _ _ hp, hut, getI_lt hj, CapacityAt_C () hsl hst (show i ≤ 60 by omega), some_bind', rowR, cellV, List.getElem?_eq_getElem hj]
      rcases tf (ltZ (capVC p.2.2.2.1[j].1 (i : Int)) (useV p s (j : Int) (i : Int))) with e1 | e1 <;> rcases tf (ltZ 9 (useV p s (j : Int) (i : Int))) with e2 | e2 <;>
        simp only [e1, e2, if_true, if_false, Bool.false_eq_true, FormatInt_spec, a1, a2, a3, some_bind', idxN hi (Nat.le_refl n) (show n ≤ 1099511627776 by omega)])
    (fun out _ => by
      have hl : ltZ (n : Int) p.1 = false := by rw [Bool.eq_false_iff, Ne, ltZ_iff]; omega
      unfold spec_ResourceRow_L0
      simp only [hl, Bool.false_eq_true, if_false])
    (a := []) rfl)
  have hI := (l0 Unit).2
  have l1 := fun A : Type => (l0 A).1
  rw [hI] at l1
  have e0 : (((0 : Nat) : Int), s, p, (j : Int), ([] : List UInt8), ()) = ((0 : Int), s, p, (j : Int), ([] : List UInt8), ()) := rfl
  rw [e0] at l1
  have en : p.1.toNat = n := by omega
  simp only [h, h1', notB_true, Bool.false_eq_true, if_false, if_true, Bool.and_self, l1, some_bind', en, Int.toNat_natCast]
theorem ResourceRow_impl (p : D_Project) (s : D_Schedule) (r : Int) (u : Unit) (hp : Sm_Project 1099511627776 p) : impl_ResourceRow (p, s, r, u) () = some (resRowV p s r, ()) := by
  unfold impl_ResourceRow resRowV
  simp only [ScheduleForm_impl _ _ _ hp, hasResource_C, some_bind']
  rcases tf (formB p s) with h | h
  · simp [h, notB]
  rcases tf (inB r 0 (subZ .i64 (lenI p.2.2.2.1) 1)) with h1 | h1
  · simp [h, h1, notB]
  have h1' := h1
  obtain ⟨j, rfl, hj⟩ := inB_place hp.2.2.2.1.1 h1
  have hok := proj_of_form h
  obtain ⟨n1, n2⟩ := proj_hor hok
  obtain ⟨n, hn⟩ : ∃ n : Nat, p.1 = (n : Int) := ⟨p.1.toNat, by omega⟩
  have hsl := (hp.2.2.2.1.2 _ (List.getElem_mem hj)).1.1
  have l0 := fun A : Type => (fold_loop (A := A) (B := (Bool × Int × Int × D_Schedule × D_Project × Int × List UInt8 × Unit) ⊕ Empty) (C := List UInt8 × Unit) (F := impl_ResourceRow_L0) (fun i (out : List UInt8) => ((i : Int), (n : Int), s, p, (j : Int), out, ())) n (fun i out => out = rowR p s j i) (fun i _ => rowR p s j (i + 1))
    (fun out => Sum.inl (false, (n : Int), (n : Int), s, p, (j : Int), out, ())) (by omega)
    (fun i out hi ho => by
      subst ho
      have hl : ltZ (i : Int) (n : Int) = true := by rw [ltZ_iff]; omega
      have k1 := rowR_len p s j i
      have k2 := fmtV_len (useV p s (j : Int) (i : Int))
      have ad : ∀ y : List UInt8, y.length ≤ 7 → addI (rowR p s j i) y = some (rowR p s j i ++ y) := fun y hy => addI_ok (by rw [room_eq]; omega)
      have a1 := ad [33] (by simp)
      have a2 := ad [42] (by simp)
      have a3 := ad _ k2
      refine ⟨?_, rfl⟩
      unfold impl_ResourceRow_L0
      simp only [hl, if_true, usage_impl p s j _ _ hp h hj, getI_lt hj, capacityAt_C _ _ _ hsl, some_bind', rowR, cellV, List.getElem?_eq_getElem hj, lt10]
      rcases tf (ltZ (capVC p.2.2.2.1[j].1 (i : Int)) (useV p s (j : Int) (i : Int))) with e1 | e1 <;> rcases tf (ltZ 9 (useV p s (j : Int) (i : Int))) with e2 | e2 <;>
        simp only [e1, e2, notB_true, notB_false, if_true, if_false, Bool.false_eq_true, FormatInt_impl, a1, a2, a3, some_bind', idxN hi (Nat.le_refl n) (show n ≤ 1099511627776 by omega)])
    (fun out _ => by
      unfold impl_ResourceRow_L0
      simp only [lt_no, Bool.false_eq_true, if_false])
    (a := []) rfl)
  have hI := (l0 Unit).2
  have l1 := fun A : Type => (l0 A).1
  rw [hI] at l1
  have e0 : (((0 : Nat) : Int), (n : Int), s, p, (j : Int), ([] : List UInt8), ()) = ((0 : Int), p.1, s, p, (j : Int), ([] : List UInt8), ()) := by rw [hn]; rfl
  rw [e0] at l1
  have en : p.1.toNat = n := by omega
  simp only [h, h1', notB_true, Bool.false_eq_true, if_false, if_true, Bool.and_self, l1, some_bind', en, Int.toNat_natCast]
end Go.Proofs.YtholdafohofboaaGreatDoor
