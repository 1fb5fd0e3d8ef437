/-
  Plain laws: the reference's schedules made by a priority rule: found or not; what is found is valid. Condition: no list is longer than 2 to the 40; at most three activities.
-/
import Derived.Test.YtjhpeeapijjgjaaGreatk6LPrioT
import Derived.Test.YtjhpeeapijjgjaaGreatk6LPlanM
import Derived.Test.YtjhpeeapijjgjaaGreatk6LRunM
namespace Go.Proofs.YtjhpeeapijjgjaaGreat
open Go.Abs
set_option linter.unusedVariables false
set_option linter.unusedSimpArgs false

theorem hasB_iffS {l : List Int} {n : Int} : hasB l n = true ↔ n ∈ l := by
  unfold hasB
  rw [List.any_eq_true]
  exact ⟨fun ⟨x, hx, h⟩ => (eqZ_iff.1 h) ▸ hx, fun h => ⟨n, h, eqZ_self n⟩⟩
theorem l02Max_maxS (x : Int) (u : Unit) : spec_l02Max (0, x, u) () = some (maxI x 0, ()) := by
  rw [max_spec]
  unfold maxI
  by_cases h : x < 0
  · rw [if_neg (by omega), if_pos (show (0 : Int) > x from h)]
  · by_cases h0 : x > 0
    · rw [if_pos h0, if_neg (by omega)]
    · rw [if_neg h0, if_neg (by omega)]
      have : x = 0 := by omega
      rw [this]
theorem set_of_ltS {l : List Int} (h : l.Pairwise (· < ·)) : setB l = true := by
  unfold setB
  rw [List.all_eq_true]
  intro i hi
  have hi : i < l.length := by simpa using hi
  rw [List.pairwise_iff_getElem] at h
  cases i with
  | zero => rfl
  | succ j =>
    have := h j (j + 1) (by omega) hi (by omega)
    simp only [ordI]
    rw [List.getElem?_eq_getElem hi, List.getElem?_eq_getElem (show j < l.length by omega)]
    simp only [notB_not, Bool.not_eq_true', Bool.eq_false_iff, Ne, leZ_iff]
    omega
structure PlanS (p : D_Project) (s : D_Schedule) (d : List Int) : Prop where
  f : formB p s = true
  asc : Asc d
  ain : actsIn p d
theorem PlanS.plan {p : D_Project} {s : D_Schedule} {d : List Int} (h : PlanS p s d) : planB p (s, d, ()) = true := by
  unfold planB
  have h1 : subB d (iotaI p.2.1.length) = true := by
    unfold subB
    rw [List.all_eq_true]
    intro o ho
    obtain ⟨i, rfl, hi⟩ := h.ain o ho
    exact hasB_iffS.2 (List.mem_map.2 ⟨i, List.mem_range.2 hi, rfl⟩)
  simp only [h.f, set_of_ltS h.asc, h1, Bool.and_self]
theorem PlanS.len {p : D_Project} {s : D_Schedule} {d : List Int} (h : PlanS p s d) : d.length ≤ 6 := (plan_at h.plan).2.2.2
theorem NewPlan_S {p : D_Project} (hp : Sm_Project 1099511627776 p) (h : projB p = true) (u : Unit) : spec_NewPlan (p, u) () = some (((List.replicate p.2.1.length 0, (List.replicate p.2.1.length 0, ())), ([], ())), ()) ∧ PlanS p (List.replicate p.2.1.length 0, (List.replicate p.2.1.length 0, ())) [] := by
  have h6 := (proj_acts h).2
  have hf : formB p (List.replicate p.2.1.length 0, (List.replicate p.2.1.length 0, ())) = true := by
    unfold formB
    have e : eqZ (lenI (List.replicate p.2.1.length (0 : Int))) (lenI p.2.1) = true := by rw [lenI_eq, lenI_eq, List.length_replicate]; exact eqZ_self _
    simp only [h, e, Bool.true_and, List.all_eq_true, List.mem_range]
    intro i hi
    have hm := h
    unfold projB at hm
    simp only [Bool.and_eq_true] at hm
    have h2 := List.all_eq_true.1 hm.1.1.1.2 i (by simpa using hi)
    unfold actI at h2
    rw [List.getElem?_eq_getElem hi] at h2
    simp only [Bool.and_eq_true] at h2
    have h3 := h2.1
    unfold actB at h3
    simp only [Bool.and_eq_true] at h3
    have h4 := inB_iff.1 h3.2.2
    have hle := mode_len h hi
    unfold formI
    rw [List.getElem?_eq_getElem hi, List.getElem?_eq_getElem (show i < (List.replicate p.2.1.length (0 : Int)).length by simpa using hi)]
    simp only [List.getElem_replicate, Bool.and_eq_true]
    try rw [lenI_eq] at h4
    exact ⟨rfl, by rw [inB_iff, lenI_eq, subZ64 (by omega) (by omega)]; omega⟩
  refine ⟨?_, hf, by constructor, fun o ho => by cases ho⟩
  have hz : zerosI (p.2.1.length : Int) (0 : Int) = some (List.replicate p.2.1.length 0) := zerosI_nat (by rw [room_eq]; omega)
  unfold spec_NewPlan
  simp only [ProjectOk_spec _ _ hp, h, some_bind', notB_true, Bool.false_eq_true, if_false, lenI_eq, eqZ_self, if_true, hz]
theorem Earliest_S {p : D_Project} {s : D_Schedule} {d : List Int} {a : Nat} {m : Int} (hp : Sm_Project 1099511627776 p) (h : PlanS p s d) (haa : a < p.2.1.length) (hn : (a : Int) ∉ d) (hm : inB m 0 (subZ .i64 (lenI p.2.1[a].2.2.1) 1) = true) :
    (spec_PlanEarliest (p, (s, d, ()), (a : Int), m, 0, ()) () = some ((0, false, ()), ())) ∨ ∃ t, inB t 0 60 = true ∧ fitsV p s d a m t = true ∧ spec_PlanEarliest (p, (s, d, ()), (a : Int), m, 0, ()) () = some ((t, true, ()), ()) := by
  have hd := h.len
  have hx : d.length ≤ 1099511627776 := by omega
  have hH : hasB d (a : Int) = false := by
    rw [Bool.eq_false_iff, Ne, hasB_iffS]
    exact hn
  have hI : inB (a : Int) 0 (subZ .i64 (lenI p.2.1) 1) = true := by
    have := hp.2.1.1
    rw [inB_iff, lenI_eq, subZ64 (by omega) (by omega)]
    omega
  have ho : okV24 p (s, d, ()) (a : Int) m = true := by
    unfold okV24
    simp only [h.plan, hI, hH, if_true, Bool.false_eq_true, if_false, getI_lt haa, hm]
  have h0 := proj_of_form h.f
  have hdead : 1 ≤ p.1 ∧ p.1 ≤ 60 := by
    have h0 := h0
    unfold projB at h0
    simp only [Bool.and_eq_true] at h0
    exact inB_iff.1 h0.1.1.1.1.1.1.1.1
  have hmax : maxI 0 0 = 0 := rfl
  have ls := first_loop (F := spec_PlanEarliest_L0) (fun i => ((i : Int), p, (s, d, ()), (a : Int), m, ())) p.1.toNat (fun i => fitsV p s d a m (i : Int)) (fun i => (((i : Int), true, ()), ())) (Sum.inl (false, (p.1.toNat : Int), p, (s, d, ()), (a : Int), m, ())) (by omega)
    (fun i hi => by
      have h1 : ltZ (i : Int) p.1 = true := by rw [ltZ_iff]; omega
      have hT : inB (i : Int) 0 60 = true := by rw [inB_iff]; omega
      have hadd : addZ .i64 (i : Int) 1 = ((i + 1 : Nat) : Int) := by rw [addZ64 (by omega) (by omega)]; omega
      unfold spec_PlanEarliest_L0
      simp only [h1, if_true, Fits_s p s d a m _ _ hp h.f h.asc h.ain hd hn haa hT hm, some_bind']
      rcases tf (fitsV p s d a m (i : Int)) with q | q <;> simp only [q, Bool.false_eq_true, if_true, if_false, hadd])
    (by
      have h1 : ltZ (p.1.toNat : Int) p.1 = false := by rw [Bool.eq_false_iff, Ne, ltZ_iff]; omega
      unfold spec_PlanEarliest_L0
      simp only [h1, Bool.false_eq_true, if_false])
  have e0 : ((0 : Nat) : Int) = 0 := rfl
  simp only [e0] at ls
  rcases ls with ⟨q, hq, hfit, -, hl⟩ | ⟨-, hl⟩
  · right
    refine ⟨(q : Int), by rw [inB_iff]; omega, hfit, ?_⟩
    unfold spec_PlanEarliest
    simp only [l24Ok_s p (s, d, ()) (a : Int) m _ hp hx, ho, some_bind', notB_true, Bool.false_eq_true, if_false, l02Max_maxS, hmax, hl]
  · left
    unfold spec_PlanEarliest
    simp only [l24Ok_s p (s, d, ()) (a : Int) m _ hp hx, ho, some_bind', notB_true, Bool.false_eq_true, if_false, l02Max_maxS, hmax, hl]
theorem Earliest_no {p : D_Project} {s : D_Schedule} {d : List Int} (hp : Sm_Project 1099511627776 p) (h : PlanS p s d) (m : Int) : spec_PlanEarliest (p, (s, d, ()), -1, m, 0, ()) () = some ((0, false, ()), ()) := by
  have hd := h.len
  have hI : inB (-1) 0 (subZ .i64 (lenI p.2.1) 1) = false := rfl
  have ho : okV24 p (s, d, ()) (-1) m = false := by
    unfold okV24
    simp only [h.plan, hI, if_true, Bool.false_eq_true, if_false]
  unfold spec_PlanEarliest
  simp only [l24Ok_s p (s, d, ()) (-1) m _ hp (show d.length ≤ 1099511627776 by omega), ho, some_bind', notB_false, if_true]
theorem addNilS (l : List Int) (h : l.length ≤ 1000000) : addI [] l = some l := by
  rw [addI_ok (by rw [room_eq]; simp; omega)]
  rfl
theorem Add_S {p : D_Project} {s : D_Schedule} {d : List Int} {a : Nat} {m t : Int} (hp : Sm_Project 1099511627776 p) (h : PlanS p s d) (haa : a < p.2.1.length) (hn : (a : Int) ∉ d) (ht : inB t 0 60 = true) (hm : inB m 0 (subZ .i64 (lenI p.2.1[a].2.2.1) 1) = true) (hfit : fitsV p s d a m t = true) :
    spec_PlanAdd (p, (s, d, ()), (a : Int), m, t, ()) () = some (((putS s (a : Int) m t, insV (a : Int) d, ()), true, ()), ()) ∧ PlanS p (putS s (a : Int) m t) (insV (a : Int) d) := by
  have hd := h.len
  have hx : d.length ≤ 1099511627776 := by omega
  have hH : hasB d (a : Int) = false := by
    rw [Bool.eq_false_iff, Ne, hasB_iffS]
    exact hn
  have hI : inB (a : Int) 0 (subZ .i64 (lenI p.2.1) 1) = true := by
    have := hp.2.1.1
    rw [inB_iff, lenI_eq, subZ64 (by omega) (by omega)]
    omega
  have ho : okV24 p (s, d, ()) (a : Int) m = true := by
    unfold okV24
    simp only [h.plan, hI, hH, if_true, Bool.false_eq_true, if_false, getI_lt haa, hm]
  have hfits : spec_PlanFits (p, (s, d, ()), (a : Int), m, t, ()) () = some (true, ()) := by
    unfold spec_PlanFits
    simp only [l24Ok_s p (s, d, ()) (a : Int) m _ hp hx, ho, some_bind', l01In_eq, ht, if_true, Fits_s p s d a m _ _ hp h.f h.asc h.ain hd hn haa ht hm, hfit]
  obtain ⟨n1, n2⟩ := form_len h.f
  have hn6 := (proj_actsP (proj_of_form h.f)).2
  have c1 := addNilS s.1 (by omega)
  have c2 := addNilS s.2.1 (by omega)
  have c3 := addNilS d (by omega)
  refine ⟨?_, form_put h.f haa ht hm, insV_asc h.asc hn, acts_ins h.ain haa⟩
  unfold spec_PlanAdd spec_l24Copy spec_l09Copy putS
  simp only [hfits, c1, c2, c3, some_bind', notB_true, Bool.false_eq_true, if_false, getI_lt (show a < s.1.length by omega), getI_lt (show a < s.2.1.length by omega), SetAdd_s d (a : Int) _ (by omega) h.asc hn]
theorem Ready_T {p : D_Project} (hp : Sm_Project 1099511627776 p) (h : projB p = true) (a : Int) {d : List Int} (hd : d.length ≤ 1099511627776) (u : Unit) : ∃ b, spec_l07Ready (p, a, d, u) () = some (b, ()) := by
  rcases one_loop (F := spec_l07Ready_L0) (fun i (_ : Unit) => ((i : Int), (p.2.2.1.length : Int), p.2.2.1, a, p, d, ())) p.2.2.1.length (fun _ _ => True)
    (fun o => o = Sum.inl (false, (p.2.2.1.length : Int), (p.2.2.1.length : Int), p.2.2.1, a, p, d, ())) (fun c => c = (false, ())) hp.2.2.1.1
    (fun i _ hi _ => by
      by_cases hi' : i < p.2.2.1.length
      · obtain ⟨v, e, -⟩ := l07All_T hp h hi' ()
        have hs := fun u => SetHas_spec d p.2.2.1[i].1 u hd
        rcases tf (eqZ p.2.2.1[i].2.1 a) with q | q
        · refine .inl ⟨(), hi', ?_, trivial⟩
          unfold spec_l07Ready_L0
          simp only [lt_yes hi', if_true, getI_lt hi', some_bind', q, Bool.false_eq_true, if_false, idxN hi' (Nat.le_refl _) hp.2.2.1.1]
        · rcases tf (ltZ 0 v) with q2 | q2
          · refine .inl ⟨(), hi', ?_, trivial⟩
            unfold spec_l07Ready_L0
            simp only [lt_yes hi', if_true, getI_lt hi', some_bind', q, e, q2, Bool.false_eq_true, if_false, idxN hi' (Nat.le_refl _) hp.2.2.1.1]
          · rcases tf (hasB d p.2.2.1[i].1) with q3 | q3
            · refine .inr (.inr ⟨_, ?_, rfl⟩)
              unfold spec_l07Ready_L0
              simp only [lt_yes hi', if_true, getI_lt hi', some_bind', q, e, q2, hs, q3, notB_false]
            · refine .inl ⟨(), hi', ?_, trivial⟩
              unfold spec_l07Ready_L0
              simp only [lt_yes hi', if_true, getI_lt hi', some_bind', q, e, q2, hs, q3, notB_true, Bool.false_eq_true, if_false, idxN hi' (Nat.le_refl _) hp.2.2.1.1]
      · obtain rfl : i = p.2.2.1.length := by omega
        refine .inr (.inl ⟨_, ?_, rfl⟩)
        unfold spec_l07Ready_L0
        simp only [lt_no, Bool.false_eq_true, if_false])
    (a := ()) rfl trivial with ⟨o, e, rfl⟩ | ⟨c, e, rfl⟩
  · simp only [show ((0 : Nat) : Int) = 0 from rfl] at e
    refine ⟨true, ?_⟩
    unfold spec_l07Ready
    simp only [lenI_eq, e, some_bind']
  · simp only [show ((0 : Nat) : Int) = 0 from rfl] at e
    refine ⟨false, ?_⟩
    unfold spec_l07Ready
    simp only [lenI_eq, e, some_bind']
theorem Next_T {p : D_Project} (hp : Sm_Project 1099511627776 p) (h : projB p = true) {s : D_Schedule} {d : List Int} (hd : d.length ≤ 1099511627776) {l : List Int} (hl : l.length ≤ 6) (u : Unit) :
    ∃ v, spec_l25Next (p, (s, d, ()), l, u) () = some (v, ()) ∧ (v = -1 ∨ ∃ i : Nat, v = (i : Int) ∧ i < p.2.1.length ∧ (i : Int) ∉ d) := by
  rcases one_loop (F := spec_l25Next_L0) (fun i (_ : Unit) => ((i : Int), (l.length : Int), l, p, (s, d, ()), ())) l.length (fun _ _ => True)
    (fun o => o = Sum.inl (false, (l.length : Int), (l.length : Int), l, p, (s, d, ()), ())) (fun c => ∃ i : Nat, c = ((i : Int), ()) ∧ i < p.2.1.length ∧ (i : Int) ∉ d) (by omega)
    (fun i _ hi _ => by
      by_cases hi' : i < l.length
      · have hs := fun u => SetHas_spec d l[i] u hd
        obtain ⟨b, eb⟩ := Ready_T hp h l[i] hd ()
        rcases tf (inB l[i] 0 (subZ .i64 (lenI p.2.1) 1)) with q | q
        · refine .inl ⟨(), hi', ?_, trivial⟩
          unfold spec_l25Next_L0
          simp only [lt_yes hi', if_true, getI_lt hi', some_bind', l01In_eq, q, Bool.false_eq_true, if_false, idxN hi' (Nat.le_refl _) (show l.length ≤ 1099511627776 by omega)]
        · rcases tf (hasB d l[i]) with q2 | q2
          · rcases tf b with rfl | rfl
            · refine .inl ⟨(), hi', ?_, trivial⟩
              unfold spec_l25Next_L0
              simp only [lt_yes hi', if_true, getI_lt hi', some_bind', l01In_eq, q, hs, q2, notB_false, eb, Bool.false_eq_true, if_false, idxN hi' (Nat.le_refl _) (show l.length ≤ 1099511627776 by omega)]
            · obtain ⟨j, ej, hj⟩ := inB_place hp.2.1.1 q
              refine .inr (.inr ⟨(l[i], ()), ?_, j, by rw [ej], hj, fun hm => ?_⟩)
              · unfold spec_l25Next_L0
                simp only [lt_yes hi', if_true, getI_lt hi', some_bind', l01In_eq, q, hs, q2, notB_false, eb]
              · rw [← ej, ← hasB_iffS, q2] at hm
                cases hm
          · refine .inl ⟨(), hi', ?_, trivial⟩
            unfold spec_l25Next_L0
            simp only [lt_yes hi', if_true, getI_lt hi', some_bind', l01In_eq, q, hs, q2, notB_true, Bool.false_eq_true, if_false, idxN hi' (Nat.le_refl _) (show l.length ≤ 1099511627776 by omega)]
      · obtain rfl : i = l.length := by omega
        refine .inr (.inl ⟨_, ?_, rfl⟩)
        unfold spec_l25Next_L0
        simp only [lt_no, Bool.false_eq_true, if_false])
    (a := ()) rfl trivial with ⟨o, e, rfl⟩ | ⟨c, e, i, rfl, hi, hn⟩
  · simp only [show ((0 : Nat) : Int) = 0 from rfl] at e
    refine ⟨-1, ?_, .inl rfl⟩
    unfold spec_l25Next
    simp only [lenI_eq, e, some_bind']
  · simp only [show ((0 : Nat) : Int) = 0 from rfl] at e
    refine ⟨(i : Int), ?_, .inr ⟨i, rfl, hi, hn⟩⟩
    unfold spec_l25Next
    simp only [lenI_eq, e, some_bind']
theorem Clamped_T (l : List Int) (hl : l.length ≤ 1000000) (u : Unit) : ∃ v, spec_ClampedSum (l, u) () = some (v, ()) := by
  rcases one_loop (F := spec_ClampedSum_L0) (fun i (s : Int) => ((i : Int), (l.length : Int), l, s, ())) l.length (fun _ _ => True)
    (fun o => ∃ s, o = Sum.inl (false, (l.length : Int), (l.length : Int), l, s, ())) (fun _ => False) (by omega)
    (fun i s hi _ => by
      by_cases hi' : i < l.length
      · obtain ⟨w, ew⟩ := min_specT 100000 l[i] ()
        refine .inl ⟨addZ .i64 s (maxI (-100000) w), hi', ?_, trivial⟩
        unfold spec_ClampedSum_L0
        simp only [lt_yes hi', if_true, getI_lt hi', some_bind', ew, max_spec, idxN hi' (Nat.le_refl _) (show l.length ≤ 1099511627776 by omega)]
      · obtain rfl : i = l.length := by omega
        refine .inr (.inl ⟨_, ?_, s, rfl⟩)
        unfold spec_ClampedSum_L0
        simp only [lt_no, Bool.false_eq_true, if_false])
    (a := 0) rfl trivial with ⟨o, e, s, rfl⟩ | ⟨c, -, hc⟩
  · simp only [show ((0 : Nat) : Int) = 0 from rfl] at e
    refine ⟨s, ?_⟩
    unfold spec_ClampedSum
    simp only [lenI_eq, e, some_bind']
  · exact absurd hc id
theorem Choose_T {p : D_Project} (hp : Sm_Project 1099511627776 p) (h : projB p = true) {a : Nat} (ha : a < p.2.1.length) (low : Bool) (u : Unit) : ∃ m, spec_ChooseMode (p, (a : Int), low, u) () = some (m, ()) ∧ inB m 0 (subZ .i64 (lenI p.2.1[a].2.2.1) 1) = true := by
  have hml := mode_len h ha
  have h1 : 1 ≤ p.2.1[a].2.2.1.length := by
    have hm := h
    unfold projB at hm
    simp only [Bool.and_eq_true] at hm
    have h2 := List.all_eq_true.1 hm.1.1.1.2 a (by simpa using ha)
    unfold actI at h2
    rw [List.getElem?_eq_getElem ha] at h2
    simp only [Bool.and_eq_true] at h2
    have h3 := h2.1
    unfold actB at h3
    simp only [Bool.and_eq_true] at h3
    have h4 := inB_iff.1 h3.2.2
    try rw [lenI_eq] at h4
    omega
  have hI : inB (a : Int) 0 (subZ .i64 (lenI p.2.1) 1) = true := by
    have := hp.2.1.1
    rw [inB_iff, lenI_eq, subZ64 (by omega) (by omega)]
    omega
  have hsz : ∀ {i : Nat} (hi : i < p.2.1[a].2.2.1.length), p.2.1[a].2.2.1[i].2.1.length ≤ 1000000 ∧ p.2.1[a].2.2.1[i].2.2.1.length ≤ 1000000 := fun {i} hi => by
    obtain ⟨-, -, e1, e2, -⟩ := mode_atM h ha _ (List.getElem_mem hi)
    have h3 := proj_sizes h
    omega
  rcases one_loop (F := spec_ChooseMode_L0) (fun i (b : Nat) => ((i : Int), (p.2.1[a].2.2.1.length : Int), p.2.1[a].2.2.1, p, (a : Int), low, (b : Int), ())) p.2.1[a].2.2.1.length (fun _ b => b < p.2.1[a].2.2.1.length)
    (fun o => ∃ b : Nat, b < p.2.1[a].2.2.1.length ∧ o = Sum.inl (false, (p.2.1[a].2.2.1.length : Int), (p.2.1[a].2.2.1.length : Int), p.2.1[a].2.2.1, p, (a : Int), low, (b : Int), ())) (fun _ => False) (by omega)
    (fun i b hi hb => by
      by_cases hi' : i < p.2.1[a].2.2.1.length
      · obtain ⟨v1, e1⟩ := Clamped_T _ (hsz hi').1 ()
        obtain ⟨v2, e2⟩ := Clamped_T _ (hsz hi').2 ()
        obtain ⟨v3, e3⟩ := Clamped_T _ (hsz hb).1 ()
        obtain ⟨v4, e4⟩ := Clamped_T _ (hsz hb).2 ()
        have hix := idxN hi' (Nat.le_refl _) (show p.2.1[a].2.2.1.length ≤ 1099511627776 by omega)
        rcases tf low with rfl | rfl
        · rcases tf (ltZ p.2.1[a].2.2.1[i].1 p.2.1[a].2.2.1[b].1) with q | q
          · refine .inl ⟨b, hi', ?_, hb⟩
            unfold spec_ChooseMode_L0
            simp only [lt_yes hi', if_true, getI_lt hi', getI_lt ha, getI_lt hb, some_bind', Bool.false_eq_true, if_false, notB_false, q, hix]
          · refine .inl ⟨i, hi', ?_, hi'⟩
            unfold spec_ChooseMode_L0
            simp only [lt_yes hi', if_true, getI_lt hi', getI_lt ha, getI_lt hb, some_bind', Bool.false_eq_true, if_false, notB_false, q, hix]
        · rcases tf (ltZ (addZ .i64 v1 v2) (addZ .i64 v3 v4)) with q | q
          · refine .inl ⟨b, hi', ?_, hb⟩
            unfold spec_ChooseMode_L0
            simp only [lt_yes hi', if_true, getI_lt hi', getI_lt ha, getI_lt hb, some_bind', e1, e2, e3, e4, Bool.false_eq_true, if_false, notB_true, q, hix]
          · refine .inl ⟨i, hi', ?_, hi'⟩
            unfold spec_ChooseMode_L0
            simp only [lt_yes hi', if_true, getI_lt hi', getI_lt ha, getI_lt hb, some_bind', e1, e2, e3, e4, Bool.false_eq_true, if_false, notB_true, q, hix]
      · obtain rfl : i = p.2.1[a].2.2.1.length := by omega
        refine .inr (.inl ⟨_, ?_, b, hb, rfl⟩)
        unfold spec_ChooseMode_L0
        simp only [lt_no, Bool.false_eq_true, if_false])
    (a := 0) (s := (0, (p.2.1[a].2.2.1.length : Int), p.2.1[a].2.2.1, p, (a : Int), low, 0, ())) rfl (by omega) with ⟨o, e, b, hb, rfl⟩ | ⟨c, -, hc⟩
  · refine ⟨(b : Int), ?_, by rw [inB_iff, lenI_eq, subZ64 (by omega) (by omega)]; omega⟩
    unfold spec_ChooseMode
    simp only [ProjectOk_spec _ _ hp, h, notB_true, Bool.false_eq_true, if_false, l01In_eq, hI, some_bind', getI_lt ha, lenI_eq] at e ⊢
    have hI' : inB (a : Int) 0 (subZ .i64 (p.2.1.length : Int) 1) = true := by rw [← lenI_eq]; exact hI
    simp only [hI', notB_true, Bool.false_eq_true, if_false, some_bind', getI_lt ha, e]
  · exact absurd hc id
theorem Choose_no {p : D_Project} (hp : Sm_Project 1099511627776 p) (h : projB p = true) (low : Bool) (u : Unit) : spec_ChooseMode (p, -1, low, u) () = some (0, ()) := by
  have hI : inB (-1) 0 (subZ .i64 (lenI p.2.1) 1) = false := rfl
  unfold spec_ChooseMode
  simp only [ProjectOk_spec _ _ hp, h, notB_true, Bool.false_eq_true, if_false, l01In_eq, hI, some_bind', notB_false, if_true]
theorem Serial_T {p : D_Project} (hp : Sm_Project 1099511627776 p) (h : projB p = true) {l : List Int} (hl : l.length ≤ 6) (low : Bool) (u : Unit) : ∃ s ok, spec_SerialSchedule (p, l, low, u) () = some ((s, ok, ()), ()) ∧ (ok = true → okV p s = true) := by
  have hle := hp.2.1.1
  obtain ⟨en, hN⟩ := NewPlan_S hp h ()
  obtain ⟨z, hz⟩ : ∃ z : D_Schedule, z = ([], ([], ())) := ⟨_, rfl⟩
  rcases one_loop (F := spec_SerialSchedule_L0) (fun i (x : D_Schedule × List Int) => ((i : Int), (p.2.1.length : Int), l, low, p, (x.1, x.2, ()), z, ())) p.2.1.length (fun _ x => PlanS p x.1 x.2)
    (fun o => ∃ x : D_Schedule × List Int, PlanS p x.1 x.2 ∧ o = Sum.inl (false, (p.2.1.length : Int), (p.2.1.length : Int), l, low, p, (x.1, x.2, ()), z, ())) (fun c => c = ((([], ([], ())), false, ()), ())) hle
    (fun i x hi hx => by
      obtain ⟨s, d⟩ := x
      simp only at hx
      have hd := hx.len
      by_cases hi' : i < p.2.1.length
      · obtain ⟨v, ev, hv⟩ := Next_T hp h (s := s) (d := d) (by omega) hl ()
        rcases hv with rfl | ⟨a, rfl, ha, hn⟩
        · refine .inr (.inr ⟨_, ?_, rfl⟩)
          unfold spec_SerialSchedule_L0
          simp only [lt_yes hi', if_true, ev, some_bind', Choose_no hp h, Earliest_no hp hx, notB_false]
        · obtain ⟨m, em, hm⟩ := Choose_T hp h ha low ()
          rcases Earliest_S hp hx ha hn hm with e | ⟨t, ht, hfit, e⟩
          · refine .inr (.inr ⟨_, ?_, rfl⟩)
            unfold spec_SerialSchedule_L0
            simp only [lt_yes hi', if_true, ev, some_bind', em, e, notB_false]
          · obtain ⟨ea, hA⟩ := Add_S hp hx ha hn ht hm hfit
            refine .inl ⟨(putS s (a : Int) m t, insV (a : Int) d), hi', ?_, hA⟩
            unfold spec_SerialSchedule_L0
            simp only [lt_yes hi', if_true, ev, some_bind', em, e, notB_true, Bool.false_eq_true, if_false, ea, idxN hi' (Nat.le_refl _) hle]
      · obtain rfl : i = p.2.1.length := by omega
        refine .inr (.inl ⟨_, ?_, (s, d), hx, rfl⟩)
        unfold spec_SerialSchedule_L0
        simp only [lt_no, Bool.false_eq_true, if_false])
    (a := ((List.replicate p.2.1.length 0, (List.replicate p.2.1.length 0, ())), [])) rfl hN with ⟨o, e, x, hx, rfl⟩ | ⟨c, e, rfl⟩
  · obtain ⟨s, d⟩ := x
    simp only [show ((0 : Nat) : Int) = 0 from rfl] at hx e
    have key : ∃ s' ok, (∀ u, spec_l25Done (p, (s, d, ()), u) () = some ((s', ok, ()), ())) ∧ (ok = true → okV p s' = true) := by
      unfold spec_l25Done
      rcases tf (eqZ (lenI d) (lenI p.2.1)) with q | q
      · exact ⟨([], ([], ())), false, fun u => by simp only [q, notB_false, if_true, some_bind'], fun h => by cases h⟩
      · rcases tf (okV p s) with q2 | q2
        · exact ⟨([], ([], ())), false, fun u => by simp only [q, notB_true, Bool.false_eq_true, if_false, ScheduleOk_spec _ _ _ hp, q2, some_bind', notB_false, if_true], fun h => by cases h⟩
        · exact ⟨s, true, fun u => by simp only [q, notB_true, Bool.false_eq_true, if_false, ScheduleOk_spec _ _ _ hp, q2, some_bind'], fun _ => q2⟩
    obtain ⟨s', ok, ed, hok⟩ := key
    refine ⟨s', ok, ?_, hok⟩
    unfold spec_SerialSchedule
    rw [hz] at e
    simp only [en, ProjectOk_spec _ _ hp, h, notB_true, Bool.false_eq_true, if_false, lenI_eq, some_bind', e, ed]
  · simp only [show ((0 : Nat) : Int) = 0 from rfl] at e
    refine ⟨([], ([], ())), false, ?_, fun h => by cases h⟩
    unfold spec_SerialSchedule
    rw [hz] at e
    simp only [en, ProjectOk_spec _ _ hp, h, notB_true, Bool.false_eq_true, if_false, lenI_eq, some_bind', e]
end Go.Proofs.YtjhpeeapijjgjaaGreat
