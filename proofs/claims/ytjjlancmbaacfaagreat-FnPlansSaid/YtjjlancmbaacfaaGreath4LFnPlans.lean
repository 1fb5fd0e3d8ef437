/-
  Plain law: for every code the law FnPlans returns true.
-/
import Derived.Test.YtjjlancmbaacfaaGreath4LMakePlan
namespace Go.Proofs.YtjjlancmbaacfaaGreat
open Go.Abs
set_option linter.unusedVariables false
set_option linter.unusedSimpArgs false

theorem last_cases : ∀ l : List Int, l = [] ∨ ∃ d n, l = d ++ [n]
  | [] => .inl rfl
  | x :: l => by
    rcases last_cases l with rfl | ⟨d, n, rfl⟩
    · exact .inr ⟨[], x, rfl⟩
    · exact .inr ⟨x :: d, n, rfl⟩
theorem exit1W {σ A B C : Type} {F : σ → Option (Out σ B C)} {s : σ} {b : B} (h : F s = some (.exit b)) : loopN (A := A) big F s = some (.exit b) := by
  obtain ⟨n, hn⟩ : ∃ n, big = n + 1 := ⟨18446744073709551615, rfl⟩
  rw [hn]
  simp only [loopN, h]
  rfl
theorem SetOf_nil_W (u : Unit) : impl_SetOf ([], u) () = some ([], ()) := by
  have hb : ∃ v, ∀ u, math_bits_Len (wrapI .u64 (lenI ([] : List Int)), u) () = some (v, ()) := ⟨_, fun _ => rfl⟩
  obtain ⟨v, hv⟩ := hb
  have hi : ∀ u, slices_insertionSortOrdered_int (([] : List Int), 0, lenI ([] : List Int), u) () = some ((), []) := fun u => by
    have l1 := fun A : Type => exit1W (A := A) (F := slices_insertionSortOrdered_int_L1) (s := (addZ .i64 0 1, lenI ([] : List Int), 0, ([] : List Int), ())) (b := Sum.inl (false, addZ .i64 0 1, lenI ([] : List Int), 0, ([] : List Int), ())) rfl
    unfold slices_insertionSortOrdered_int
    simp only [l1, some_bind']
  have big2 : ∃ n, big = n + 1 := ⟨18446744073709551615, rfl⟩
  have hp : ∀ u, slices_pdqsortOrdered_int (([] : List Int), 0, lenI ([] : List Int), v, u) () = some ((), []) := fun u => by
    have e1 : leZ (subZ .i64 (lenI ([] : List Int)) 0) 12 = true := rfl
    have hF : slices_pdqsortOrdered_int_L0 (true, true, lenI ([] : List Int), 0, ([] : List Int), v, ()) = some (.ret ((), [])) := by
      unfold slices_pdqsortOrdered_int_L0
      simp only [e1, if_true, hi, some_bind']
    have l1 : ∀ A : Type, loopN (A := A) big slices_pdqsortOrdered_int_L0 (true, true, lenI ([] : List Int), 0, ([] : List Int), v, ()) = some (.ret ((), [])) := fun A => by
      obtain ⟨n, hn⟩ := big2
      rw [hn]
      simp only [loopN, hF]
      rfl
    unfold slices_pdqsortOrdered_int
    simp only [l1, some_bind']
  have hs : ∀ u, slices_Sort_int_int (([] : List Int), u) () = some ((), []) := fun u => by
    unfold slices_Sort_int_int
    simp only [hv, some_bind', hp]
  have e2 : ltZ (lenI ([] : List Int)) 2 = true := rfl
  unfold impl_SetOf slices_Compact_int_int
  simp only [cloneP [] _ (by simp), some_bind', hs, e2, if_true]
theorem SetOf_W (l : List Int) (u : Unit) (hl : l.length ≤ 12) (h : Asc l) : impl_SetOf (l, u) () = some (l, ()) := by
  rcases last_cases l with rfl | ⟨d, n, rfl⟩
  · exact SetOf_nil_W u
  · have h' : List.Pairwise (· < ·) (d ++ [n]) := h
    rw [List.pairwise_append] at h'
    have hlt : ∀ o ∈ d, o < n := fun o ho => h'.2.2 o ho n (by simp)
    have hn : n ∉ d := fun hh => by have := hlt n hh; omega
    have hd : d.length ≤ 11 := by
      rw [List.length_append, List.length_singleton] at hl
      omega
    have e := ins_lastW hlt
    unfold impl_SetOf
    simp only [cloneP (d ++ [n]) _ (by omega), some_bind', Sort_i d n _ hd h'.1 hn, e, Compact_i (d ++ [n]) _ (by omega) h]
theorem Equal_selfW (x : List Int) (u : Unit) (hx : x.length ≤ 1099511627776) : slices_Equal_int_int (x, x, u) () = some (true, ()) := by
  unfold slices_Equal_int_int
  simp only [lenI_eq]
  have e : eqZ (x.length : Int) (x.length : Int) = true := eqZ_self _
  have l0 := fun A : Type => (fold_loop (A := A) (F := slices_Equal_int_int_L0) (fun i (_ : Unit) => ((i : Int), (x.length : Int), x, x, ())) x.length (fun _ _ => True) (fun _ a => a) (fun _ => Sum.inl (false, (x.length : Int), (x.length : Int), x, x, ())) hx
    (fun i _ hi _ => by
      refine ⟨?_, trivial⟩
      unfold slices_Equal_int_int_L0
      simp only [lt_yes hi, if_true, getI_lt hi, some_bind', eqZ_self, notB_true, Bool.false_eq_true, if_false, idxN hi (Nat.le_refl _) hx])
    (fun _ _ => by
      unfold slices_Equal_int_int_L0
      simp only [lt_no, Bool.false_eq_true, if_false])
    (a := ()) trivial).1
  have e0 : (((0 : Nat) : Int), (x.length : Int), x, x, ()) = ((0 : Int), (x.length : Int), x, x, ()) := rfl
  rw [e0] at l0
  simp only [e, notB_true, Bool.false_eq_true, if_false, l0, some_bind']
theorem asc_eq : ∀ a b : List Int, Asc a → Asc b → (∀ x, x ∈ a ↔ x ∈ b) → a = b
  | [], [], _, _, _ => rfl
  | [], y :: b, _, _, h => by have := (h y).2 (by simp); cases this
  | x :: a, [], _, _, h => by have := (h x).1 (by simp); cases this
  | x :: a, y :: b, ha, hb, h => by
    have ha : List.Pairwise (· < ·) (x :: a) := ha
    have hb : List.Pairwise (· < ·) (y :: b) := hb
    rw [List.pairwise_cons] at ha hb
    have hxy : x = y := by
      have h1 := (h x).1 (by simp)
      have h2 := (h y).2 (by simp)
      rcases List.mem_cons.1 h1 with e | e
      · exact e
      · rcases List.mem_cons.1 h2 with e2 | e2
        · exact e2.symm
        · have := ha.1 y e2
          have := hb.1 x e
          omega
    subst hxy
    congr 1
    refine asc_eq a b ha.2 hb.2 fun z => ?_
    have hz := h z
    simp only [List.mem_cons] at hz
    constructor
    · intro k
      rcases hz.1 (.inr k) with e | e
      · have := ha.1 z k
        omega
      · exact e
    · intro k
      rcases hz.2 (.inr k) with e | e
      · have := hb.1 z k
        omega
      · exact e
theorem iota_asc (n : Nat) : Asc (iotaI n) := by
  show (iotaI n).Pairwise (· < ·)
  unfold iotaI
  rw [List.pairwise_map]
  exact List.pairwise_lt_range.imp fun h => by omega
def leftL (n : Nat) (d : List Int) : List Int := (iotaI n).filter fun x => notB (hasB d x)
theorem left_len {n : Nat} {d : List Int} (h : Asc d) (ha : ∀ o ∈ d, ∃ i : Nat, o = (i : Int) ∧ i < n) : (leftL n d).length + d.length = n := by
  have e : (iotaI n).filter (hasB d) = d := asc_eq _ _ ((iota_asc n).sublist List.filter_sublist) h fun x => by
    rw [List.mem_filter, hasB_iffW]
    exact ⟨fun k => k.2, fun k => ⟨by obtain ⟨i, rfl, hi⟩ := ha x k; exact iota_mem hi, k⟩⟩
  have key : ∀ l : List Int, (l.filter fun x => notB (hasB d x)).length + (l.filter (hasB d)).length = l.length := by
    intro l
    induction l with
    | nil => rfl
    | cons x l ih =>
      rcases tf (hasB d x) with h1 | h1
      · have k1 : notB (hasB d x) = true := by rw [h1]; rfl
        simp only [List.filter_cons, h1, notB_false, notB_true, if_true, Bool.false_eq_true, if_false, List.length_cons]
        omega
      · have k1 : notB (hasB d x) = false := by rw [h1]; rfl
        simp only [List.filter_cons, h1, notB_false, notB_true, if_true, Bool.false_eq_true, if_false, List.length_cons]
        omega
  have := key (iotaI n)
  rw [e, iotaI_length] at this
  exact this
theorem Remaining_G {p : D_Project} {s : D_Schedule} {d : List Int} (hp : Sm_Project 1099511627776 p) (h : PlanI p s d) (u : Unit) : impl_PlanRemaining (p, (s, d, ()), u) () = some (leftL p.2.1.length d, ()) := by
  have hd := h.len
  have hn6 := (proj_actsP (proj_of_form h.f)).2
  have hl := left_len h.asc h.ain
  have hasc : Asc (leftL p.2.1.length d) := (iota_asc _).sublist List.filter_sublist
  unfold impl_PlanRemaining impl_SetDifference
  simp only [PlanOk_impl p (s, d, ()) _ hp (show d.length ≤ 1099511627776 by omega), h.plan, some_bind', notB_true, Bool.false_eq_true, if_false, lenI_eq, IntRange_impl _ _ (show p.2.1.length ≤ 200 by omega)]
  rw [kept_eq (iotaI p.2.1.length) _ (fun x => notB (hasB d x)) () (by rw [iotaI_length]; omega) (fun a _ => by
    unfold impl_SetDifference_1
    simp only [SetHas_impl _ _ _ (show d.length ≤ 1099511627776 by omega), some_bind'])]
  have := SetOf_W (leftL p.2.1.length d) () (by omega) hasc
  unfold leftL at this ⊢
  simp only [some_bind', this]
theorem EarliestI_G {p : D_Project} {s : D_Schedule} {d : List Int} {a : Nat} (hp : Sm_Project 1099511627776 p) (h : PlanI p s d) (haa : a < p.2.1.length) (hH : hasB d (a : Int) = false) (hm : inB 0 0 (subZ .i64 (lenI p.2.1[a].2.2.1) 1) = true) :
    ((∀ t, inB t 0 60 = true → fitsV p s d a 0 t = false) ∧ impl_PlanEarliest (p, (s, d, ()), (a : Int), 0, 0, ()) () = some ((0, false, ()), ())) ∨
    ∃ t : Nat, t ≤ 60 ∧ fitsV p s d a 0 (t : Int) = true ∧ (∀ t' : Nat, t' < t → fitsV p s d a 0 (t' : Int) = false) ∧ impl_PlanEarliest (p, (s, d, ()), (a : Int), 0, 0, ()) () = some (((t : Int), true, ()), ()) := by
  have hd := h.len
  have hx : d.length ≤ 1099511627776 := by omega
  have li := first_loop (F := impl_PlanEarliest_L0) (fun i => ((i : Int), p, (s, d, ()), (a : Int), (0 : Int), ())) 61 (fun i => fitsV p s d a 0 (i : Int)) (fun i => (((i : Int), true, ()), ())) (Sum.inl (false, ((61 : Nat) : Int), p, (s, d, ()), (a : Int), 0, ())) (by omega)
    (fun i hi => by
      have h1 : leZ (i : Int) 60 = true := by rw [leZ_iff]; omega
      have hT : inB (i : Int) 0 60 = true := by rw [inB_iff]; omega
      have hadd : addZ .i64 (i : Int) 1 = ((i + 1 : Nat) : Int) := by rw [addZ64 (by omega) (by omega)]; omega
      unfold impl_PlanEarliest_L0
      simp only [h1, if_true, PlanFits_yes p s d a 0 _ _ hp hx h.plan haa hH hm, hT, Bool.true_and, some_bind']
      rcases tf (fitsV p s d a 0 (i : Int)) with q | q <;> simp only [q, Bool.false_eq_true, if_true, if_false, hadd])
    (by
      have h1 : leZ ((61 : Nat) : Int) 60 = false := rfl
      unfold impl_PlanEarliest_L0
      simp only [h1, Bool.false_eq_true, if_false])
  have hmax : maxI 0 0 = ((0 : Nat) : Int) := rfl
  rcases li with ⟨k, hk, q1, q2, l2⟩ | ⟨q2, l2⟩
  · right
    refine ⟨k, by omega, q1, q2, ?_⟩
    unfold impl_PlanEarliest
    simp only [hmax, l2, some_bind']
  · left
    refine ⟨fun t ht => ?_, ?_⟩
    · have ht := inB_iff.1 ht
      have := q2 t.toNat (by omega)
      rwa [Int.toNat_of_nonneg ht.1] at this
    · unfold impl_PlanEarliest
      simp only [hmax, l2, some_bind']
theorem NewPlanI_G {p : D_Project} (hP : GenP 6 p) (u : Unit) : impl_NewPlan (p, u) () = some (((List.replicate p.2.1.length 0, (List.replicate p.2.1.length 0, ())), ([], ())), ()) := by
  have hp : Sm_Project 1099511627776 p := hP.sm (by omega) (by omega)
  have hal := hP.al
  have hok := proj_of_form (NewPlan_G hP ()).2.f
  obtain ⟨z, hz⟩ : ∃ z : D_Plan, z = (([], ([], ())), ([], ())) := ⟨_, rfl⟩
  have l0 := fun A : Type => fold_loop (A := A) (F := impl_NewPlan_L0) (fun i (x : D_Plan) => ((i : Int), ((p.2.1.length : Int), (x, (z, ()))))) p.2.1.length (fun i x => x = ((List.replicate i 0, (List.replicate i 0, ())), ([], ()))) (fun i _ => ((List.replicate (i + 1) 0, (List.replicate (i + 1) 0, ())), ([], ())))
    (fun x => Sum.inl (false, ((p.2.1.length : Int), ((p.2.1.length : Int), (x, (z, ())))))) (by omega)
    (fun i x hi hx => by
      subst hx
      have ha : addI (List.replicate i (0 : Int)) [0] = some (List.replicate (i + 1) 0) := by
        rw [addI_ok (by rw [room_eq, List.length_replicate]; simp only [List.length_singleton]; omega), List.replicate_succ']
      refine ⟨?_, rfl⟩
      unfold impl_NewPlan_L0
      simp only [lt_yes hi, if_true, ha, some_bind', idxN hi (Nat.le_refl _) (show p.2.1.length ≤ 1099511627776 by omega)])
    (fun x _ => by
      unfold impl_NewPlan_L0
      simp only [lt_no, Bool.false_eq_true, if_false])
    (a := (([], ([], ())), ([], ()))) rfl
  have hI := (l0 Unit).2
  have l1 := fun A : Type => (l0 A).1
  rw [hI] at l1
  have e0 : (((0 : Nat) : Int), ((p.2.1.length : Int), (((([], ([], ())), ([], ())) : D_Plan), (z, ())))) = ((0 : Int), ((p.2.1.length : Int), (((([], ([], ())), ([], ())) : D_Plan), (z, ())))) := rfl
  rw [e0, hz] at l1
  unfold impl_NewPlan
  simp only [ProjectOk_impl _ _ hp, hok, some_bind', notB_true, Bool.false_eq_true, if_false, lenI_eq, l1]
theorem AddI_yes {p : D_Project} {s : D_Schedule} {d : List Int} {a : Nat} {t : Int} (hp : Sm_Project 1099511627776 p) (h : PlanI p s d) (haa : a < p.2.1.length) (hH : hasB d (a : Int) = false) (hm : inB 0 0 (subZ .i64 (lenI p.2.1[a].2.2.1) 1) = true) (ht : inB t 0 60 = true) (hfit : fitsV p s d a 0 t = true) (u : Unit) :
    impl_PlanAdd (p, (s, d, ()), (a : Int), 0, t, u) () = some (((putS s (a : Int) 0 t, insV (a : Int) d, ()), true, ()), ()) := by
  have hd := h.len
  have hx : d.length ≤ 1099511627776 := by omega
  have hn := hasB_not hH
  obtain ⟨n1, n2⟩ := form_len h.f
  have hn6 := (proj_actsP (proj_of_form h.f)).2
  unfold impl_PlanAdd impl_Plan_with impl_Plan_copied putS
  simp only [PlanFits_yes p s d a 0 t _ hp hx h.plan haa hH hm, ht, hfit, Bool.and_self, some_bind', notB_true, Bool.false_eq_true, if_false,
    cloneP s.1 _ (show s.1.length ≤ 1048576 by omega), cloneP s.2.1 _ (show s.2.1.length ≤ 1048576 by omega), cloneP d _ (show d.length ≤ 1048576 by omega), SetAdd_i d (a : Int) _ (show d.length ≤ 11 by omega) h.asc hn,
    getI_lt (show a < s.1.length by omega), getI_lt (show a < s.2.1.length by omega)]
theorem AddI_no {p : D_Project} {s : D_Schedule} {d : List Int} {a : Nat} {t : Int} (hp : Sm_Project 1099511627776 p) (h : PlanI p s d) (haa : a < p.2.1.length) (hH : hasB d (a : Int) = false) (hm : inB 0 0 (subZ .i64 (lenI p.2.1[a].2.2.1) 1) = true) (hfit : fitsV p s d a 0 t = false) (u : Unit) :
    ∃ x, impl_PlanAdd (p, (s, d, ()), (a : Int), 0, t, u) () = some ((x, false, ()), ()) := by
  have hd := h.len
  have hx : d.length ≤ 1099511627776 := by omega
  refine ⟨(([], ([], ())), ([], ())), ?_⟩
  unfold impl_PlanAdd
  simp only [PlanFits_yes p s d a 0 t _ hp hx h.plan haa hH hm, hfit, Bool.and_false, some_bind', notB_false, if_true]
theorem plain_FnPlans (b : List Int) : laws_FnPlans (b, ()) () = some (true, ()) := by
  unfold laws_FnPlans
  simp only [lenI_eq]
  rcases tf (ltZ 1048576 (b.length : Int)) with hb | hb
  · have hb' : b.length ≤ 1048576 := by
      rw [Bool.eq_false_iff, Ne, ltZ_iff] at hb
      omega
    obtain ⟨p, hP3, ep⟩ := MakeProject_eq b hb'
    have hP := hP3.mono (show 3 ≤ 6 by omega)
    obtain ⟨s, d, h, es⟩ := MakePlan_eq b hb' p hP
    have hp : Sm_Project 1099511627776 p := hP.sm (by omega) (by omega)
    have hal := hP.al
    have hd := h.len
    have hx : d.length ≤ 1099511627776 := by omega
    have hO := fun u => PlanOk_impl p (s, d, ()) u hp hx
    have hl := left_len h.asc h.ain
    have hR := fun u => Remaining_G hp h u
    have hR0 := fun u => Remaining_G hp (NewPlan_G hP ()).2 u
    have hl0 := left_len (n := p.2.1.length) (d := []) (by constructor) (fun o ho => by cases ho)
    have hN := fun u => NewPlanI_G hP u
    obtain ⟨n1, n2⟩ := form_len h.f
    have q1 : eqZ (addZ .i64 ((leftL p.2.1.length d).length : Int) (d.length : Int)) (p.2.1.length : Int) = true := by
      rw [addZ64 (by omega) (by omega), eqZ_iff]
      omega
    have q2 : eqZ ((leftL p.2.1.length []).length : Int) (p.2.1.length : Int) = true := by
      rw [eqZ_iff]
      simp only [List.length_nil] at hl0
      omega
    have hE : ∀ u, impl_PlanEqual ((s, d, ()), (s, d, ()), u) () = some (true, ()) := fun u => by
      unfold impl_PlanEqual impl_ScheduleEqual
      simp only [Equal_selfW s.1 _ (by omega), Equal_selfW s.2.1 _ (by omega), Equal_selfW d _ hx, some_bind', if_true]
    have l0 := fun A : Type => fold_loop (A := A) (C := Bool × Unit) (F := laws_FnPlans_L0) (fun i (_ : Unit) => ((i : Int), (((leftL p.2.1.length d).length : Int), (leftL p.2.1.length d, (p, ((s, (d, ())), ())))))) (leftL p.2.1.length d).length (fun _ _ => True) (fun _ a => a)
      (fun _ => Sum.inl (false, (((leftL p.2.1.length d).length : Int), (((leftL p.2.1.length d).length : Int), (leftL p.2.1.length d, (p, ((s, (d, ())), ()))))))) (by omega)
      (fun i _ hi _ => by
        have hmem := List.mem_filter.1 (List.getElem_mem hi)
        obtain ⟨a, ea, haa⟩ := iotaI_mem hmem.1
        have hH : hasB d (a : Int) = false := by
          have := hmem.2
          rw [ea] at this
          rcases tf (hasB d (a : Int)) with k | k
          · exact k
          · rw [k] at this; cases this
        have hml := (hP.a a haa).ml
        have hm : inB 0 0 (subZ .i64 (lenI p.2.1[a].2.2.1) 1) = true := by
          rw [inB_iff, lenI_eq, subZ64 (by omega) (by omega)]
          omega
        have gl : getI (leftL p.2.1.length d) (i : Int) = some (a : Int) := by rw [getI_lt hi, ea]
        have hnx := idxN hi (Nat.le_refl _) (show (leftL p.2.1.length d).length ≤ 1099511627776 by omega)
        have hF := fun (t : Int) u => PlanFits_yes p s d a 0 t u hp hx h.plan haa hH hm
        refine ⟨?_, trivial⟩
        rcases EarliestI_G hp h haa hH hm with ⟨q, e⟩ | ⟨t, ht, hfit, hmin, e⟩
        · obtain ⟨x, ex⟩ := AddI_no (t := 0) hp h haa hH hm (q 0 rfl) ()
          have eb : eqB false false = true := rfl
          unfold laws_FnPlans_L0
          simp only [lt_yes hi, if_true, gl, e, ex, some_bind', eb, notB_true, Bool.false_eq_true, if_false, hnx]
        · have hT : inB (t : Int) 0 60 = true := by rw [inB_iff]; omega
          have ex := AddI_yes hp h haa hH hm hT hfit ()
          have eb : eqB true true = true := rfl
          have hf2 := form_put h.f haa hT hm
          have hn := hasB_not hH
          have hA2 := insV_asc h.asc hn
          have ha2 := acts_ins h.ain haa
          have hl2 : (insV (a : Int) d).length ≤ 1099511627776 := by rw [insV_length]; omega
          have hpl : planB p (putS s (a : Int) 0 (t : Int), insV (a : Int) d, ()) = true := by
            unfold planB
            have h1 : subB (insV (a : Int) d) (iotaI p.2.1.length) = true := by
              unfold subB
              rw [List.all_eq_true]
              intro o ho
              obtain ⟨i, rfl, hi⟩ := ha2 o ho
              exact hasB_iffW.2 (iota_mem hi)
            simp only [hf2, set_of_ltW hA2, h1, Bool.and_self]
          have hO2 := fun u => PlanOk_impl p (putS s (a : Int) 0 (t : Int), insV (a : Int) d, ()) u hp hl2
          have hS := fun u => SetHas_impl (insV (a : Int) d) (a : Int) u hl2
          have hS2 : hasB (insV (a : Int) d) (a : Int) = true := hasB_iffW.2 (insV_mem.2 (.inl rfl))
          have hg : getI (putS s (a : Int) 0 (t : Int)).1 (a : Int) = some (t : Int) := getI_setI_eq (getI_lt (show a < s.1.length by omega))
          unfold laws_FnPlans_L0
          rcases tf (ltZ 0 (t : Int)) with h0 | h0
          · simp only [lt_yes hi, if_true, gl, e, ex, some_bind', eb, notB_true, notB_false, Bool.false_eq_true, if_false, hnx, hF, hT, hfit, Bool.and_self, h0, hO2, hpl, hS, hS2, hg, eqZ_self]
          · have ht1 : 1 ≤ t := by
              rw [ltZ_iff] at h0
              omega
            have hs1 : subZ .i64 (t : Int) 1 = ((t - 1 : Nat) : Int) := by rw [subZ64 (by omega) (by omega)]; omega
            have hq := hmin (t - 1) (by omega)
            simp only [lt_yes hi, if_true, gl, e, ex, some_bind', eb, notB_true, notB_false, Bool.false_eq_true, if_false, hnx, hF, hT, hfit, Bool.and_self, Bool.and_false, h0, hs1, hq, hO2, hpl, hS, hS2, hg, eqZ_self])
      (fun _ _ => by
        unfold laws_FnPlans_L0
        simp only [lt_no, Bool.false_eq_true, if_false])
      (a := ()) trivial
    have m0 := fun A : Type => (l0 A).1
    have e0 : (((0 : Nat) : Int), (((leftL p.2.1.length d).length : Int), (leftL p.2.1.length d, (p, ((s, (d, ())), ()))))) = ((0 : Int), (((leftL p.2.1.length d).length : Int), (leftL p.2.1.length d, (p, ((s, (d, ())), ()))))) := rfl
    rw [e0] at m0
    simp only [hb, Bool.false_eq_true, if_false, ep, es, some_bind', hR, hO, h.plan, notB_true, q1, m0, hN, hR0, q2, if_true, hE]
  · simp only [hb, if_true]
theorem L_FnPlans (x : Ty.dens H_laws_FnPlans.ps) (h : Ty.fits H_laws_FnPlans.ps x) : laws_FnPlans x () = some (true, ()) := by
  obtain ⟨b, u⟩ := x
  exact plain_FnPlans b
end Go.Proofs.YtjjlancmbaacfaaGreat
