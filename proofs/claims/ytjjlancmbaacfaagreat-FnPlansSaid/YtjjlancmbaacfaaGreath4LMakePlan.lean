/-
  Plain laws: the plans that the reference draws are made by adding what fits.
-/
import Derived.Test.YtjjlancmbaacfaaGreath4LWholeOk
import Derived.Test.YtjjlancmbaacfaaGreath4LFormM
namespace Go.Proofs.YtjjlancmbaacfaaGreat
open Go.Abs
set_option linter.unusedVariables false
set_option linter.unusedSimpArgs false

theorem l02Max_maxW (x : Int) (u : Unit) : spec_l02Max (0, x, u) () = some (maxI x 0, ()) := by
  unfold spec_l02Max maxI
  by_cases h : x < 0
  · have h1 : ltZ x 0 = true := by rw [ltZ_iff]; exact h
    simp only [h1, if_true, if_pos (show (0 : Int) > x from h)]
  · have h1 : ltZ x 0 = false := by rw [Bool.eq_false_iff, Ne, ltZ_iff]; exact h
    simp only [h1, Bool.false_eq_true, if_false, if_neg (show ¬ (0 : Int) > x from h)]
theorem set_of_ltW {l : List Int} (h : l.Pairwise (· < ·)) : setB l = true := by
  unfold setB
  rw [List.all_eq_true]
  intro i hi
  have hi : i < l.length := by simpa using hi
  rw [List.pairwise_iff_getElem] at h
  cases i with
  | zero => rfl
  | succ j =>
    have := h j (j + 1) (by omega) hi (by omega)
    simp only [ordI]
    rw [List.getElem?_eq_getElem hi, List.getElem?_eq_getElem (show j < l.length by omega)]
    simp only [notB_not, Bool.not_eq_true', Bool.eq_false_iff, Ne, leZ_iff]
    omega
theorem PlanI.plan {p : D_Project} {s : D_Schedule} {d : List Int} (h : PlanI p s d) : planB p (s, d, ()) = true := by
  unfold planB
  have h1 : subB d (iotaI p.2.1.length) = true := by
    unfold subB
    rw [List.all_eq_true]
    intro o ho
    obtain ⟨i, rfl, hi⟩ := h.ain o ho
    exact hasB_iffW.2 (iota_mem hi)
  simp only [h.f, set_of_ltW h.asc, h1, Bool.and_self]
theorem PlanI.len {p : D_Project} {s : D_Schedule} {d : List Int} (h : PlanI p s d) : d.length ≤ 6 := (plan_at h.plan).2.2.2
theorem NewPlan_G {p : D_Project} (hP : GenP 6 p) (u : Unit) : spec_NewPlan (p, u) () = some (((List.replicate p.2.1.length 0, (List.replicate p.2.1.length 0, ())), ([], ())), ()) ∧ PlanI p (List.replicate p.2.1.length 0, (List.replicate p.2.1.length 0, ())) [] := by
  have hp : Sm_Project 1099511627776 p := hP.sm (by omega) (by omega)
  have hal := hP.al
  have hS : GenS p.2.1 p.2.1.length (List.replicate p.2.1.length 0) (List.replicate p.2.1.length 0) := ⟨by simp, by simp, fun x hx => by
      rw [(List.mem_replicate.1 hx).2]
      omega, fun i h1 h2 => by
      have := (hP.a i h2).ml
      rw [List.getElem_replicate]
      omega⟩
  have hf := hS.form hP
  have hok := proj_of_form hf
  refine ⟨?_, PlanI.nil hf⟩
  have hz : zerosI (p.2.1.length : Int) (0 : Int) = some (List.replicate p.2.1.length 0) := zerosI_nat (by rw [room_eq]; omega)
  unfold spec_NewPlan
  simp only [ProjectOk_spec _ _ hp, hok, some_bind', notB_true, Bool.false_eq_true, if_false, lenI_eq, eqZ_self, if_true, hz]
theorem Earliest_G {p : D_Project} {s : D_Schedule} {d : List Int} {a : Nat} {m : Int} (hp : Sm_Project 1099511627776 p) (h : PlanI p s d) (haa : a < p.2.1.length) (hlt : ∀ o ∈ d, o < (a : Int)) (hm : inB m 0 (subZ .i64 (lenI p.2.1[a].2.2.1) 1) = true) (k : Nat) (hk : k ≤ 100) :
    (spec_PlanEarliest (p, (s, d, ()), (a : Int), m, (k : Int), ()) () = some ((0, false, ()), ())) ∨ ∃ t, inB t 0 60 = true ∧ fitsV p s d a m t = true ∧ spec_PlanEarliest (p, (s, d, ()), (a : Int), m, (k : Int), ()) () = some ((t, true, ()), ()) := by
  have hn : (a : Int) ∉ d := fun hh => by have := hlt _ hh; omega
  have hd := h.len
  have hx : d.length ≤ 1099511627776 := by omega
  have hH : hasB d (a : Int) = false := by
    rw [Bool.eq_false_iff, Ne, hasB_iffW]
    exact hn
  have hI : inB (a : Int) 0 (subZ .i64 (lenI p.2.1) 1) = true := by
    have := hp.2.1.1
    rw [inB_iff, lenI_eq, subZ64 (by omega) (by omega)]
    omega
  have ho : okV24 p (s, d, ()) (a : Int) m = true := by
    unfold okV24
    simp only [h.plan, hI, hH, if_true, Bool.false_eq_true, if_false, getI_lt haa, hm]
  have h0 := proj_of_form h.f
  have hdead : 1 ≤ p.1 ∧ p.1 ≤ 60 := by
    have h0 := h0
    unfold projB at h0
    simp only [Bool.and_eq_true] at h0
    exact inB_iff.1 h0.1.1.1.1.1.1.1.1
  have hmax : maxI (k : Int) 0 = (k : Int) := by
    unfold maxI
    rw [if_neg (by omega)]
  have ls := first_loop (F := spec_PlanEarliest_L0) (fun i => ((k : Int) + (i : Int), p, (s, d, ()), (a : Int), m, ())) (p.1 - (k : Int)).toNat (fun i => fitsV p s d a m ((k : Int) + (i : Int))) (fun i => (((k : Int) + (i : Int), true, ()), ())) (Sum.inl (false, (k : Int) + ((p.1 - (k : Int)).toNat : Int), p, (s, d, ()), (a : Int), m, ())) (by omega)
    (fun i hi => by
      have h1 : ltZ ((k : Int) + (i : Int)) p.1 = true := by rw [ltZ_iff]; omega
      have hT : inB ((k : Int) + (i : Int)) 0 60 = true := by rw [inB_iff]; omega
      have hadd : addZ .i64 ((k : Int) + (i : Int)) 1 = (k : Int) + ((i + 1 : Nat) : Int) := by rw [addZ64 (by omega) (by omega)]; omega
      unfold spec_PlanEarliest_L0
      simp only [h1, if_true, Fits_s p s d a m _ _ hp h.f h.asc h.ain hd hn haa hT hm, some_bind']
      rcases tf (fitsV p s d a m ((k : Int) + (i : Int))) with q | q <;> simp only [q, Bool.false_eq_true, if_true, if_false, hadd])
    (by
      have h1 : ltZ ((k : Int) + ((p.1 - (k : Int)).toNat : Int)) p.1 = false := by rw [Bool.eq_false_iff, Ne, ltZ_iff]; omega
      unfold spec_PlanEarliest_L0
      simp only [h1, Bool.false_eq_true, if_false])
  have e0 : (k : Int) + ((0 : Nat) : Int) = (k : Int) := by omega
  simp only [e0] at ls
  rcases ls with ⟨q, hq, hfit, -, hl⟩ | ⟨-, hl⟩
  · right
    refine ⟨(k : Int) + (q : Int), by rw [inB_iff]; omega, hfit, ?_⟩
    unfold spec_PlanEarliest
    simp only [l24Ok_s p (s, d, ()) (a : Int) m _ hp hx, ho, some_bind', notB_true, Bool.false_eq_true, if_false, l02Max_maxW, hmax, hl]
  · left
    unfold spec_PlanEarliest
    simp only [l24Ok_s p (s, d, ()) (a : Int) m _ hp hx, ho, some_bind', notB_true, Bool.false_eq_true, if_false, l02Max_maxW, hmax, hl]
theorem Add_G {p : D_Project} {s : D_Schedule} {d : List Int} {a : Nat} {m t : Int} (hp : Sm_Project 1099511627776 p) (h : PlanI p s d) (haa : a < p.2.1.length) (hlt : ∀ o ∈ d, o < (a : Int)) (ht : inB t 0 60 = true) (hm : inB m 0 (subZ .i64 (lenI p.2.1[a].2.2.1) 1) = true) (hfit : fitsV p s d a m t = true) :
    spec_PlanAdd (p, (s, d, ()), (a : Int), m, t, ()) () = some (((putS s (a : Int) m t, insV (a : Int) d, ()), true, ()), ()) := by
  have hn : (a : Int) ∉ d := fun hh => by have := hlt _ hh; omega
  have hd := h.len
  have hx : d.length ≤ 1099511627776 := by omega
  have hH : hasB d (a : Int) = false := by
    rw [Bool.eq_false_iff, Ne, hasB_iffW]
    exact hn
  have hI : inB (a : Int) 0 (subZ .i64 (lenI p.2.1) 1) = true := by
    have := hp.2.1.1
    rw [inB_iff, lenI_eq, subZ64 (by omega) (by omega)]
    omega
  have ho : okV24 p (s, d, ()) (a : Int) m = true := by
    unfold okV24
    simp only [h.plan, hI, hH, if_true, Bool.false_eq_true, if_false, getI_lt haa, hm]
  have hfits : spec_PlanFits (p, (s, d, ()), (a : Int), m, t, ()) () = some (true, ()) := by
    unfold spec_PlanFits
    simp only [l24Ok_s p (s, d, ()) (a : Int) m _ hp hx, ho, some_bind', l01In_eq, ht, if_true, Fits_s p s d a m _ _ hp h.f h.asc h.ain hd hn haa ht hm, hfit]
  obtain ⟨n1, n2⟩ := form_len h.f
  have hn6 := (proj_actsP (proj_of_form h.f)).2
  have c1 := addNilR s.1 (by omega)
  have c2 := addNilR s.2.1 (by omega)
  have c3 := addNilR d (by omega)
  unfold spec_PlanAdd spec_l24Copy spec_l09Copy putS
  simp only [hfits, c1, c2, c3, some_bind', notB_true, Bool.false_eq_true, if_false, getI_lt (show a < s.1.length by omega), getI_lt (show a < s.2.1.length by omega), SetAdd_s d (a : Int) _ (by omega) h.asc hn]
theorem l24Draw_eq {p : D_Project} (hP : GenP 6 p) (c : D_l01Cur) (hc : CurOk c) : ∃ s d c', PlanI p s d ∧ spec_l24Draw (c, (p, ())) () = some ((s, d, ()), c') := by
  have hp : Sm_Project 1099511627776 p := hP.sm (by omega) (by omega)
  have hal := hP.al
  obtain ⟨en, hN⟩ := NewPlan_G hP ()
  obtain ⟨z, hz⟩ : ∃ z : D_Plan, z = (([], ([], ())), ([], ())) := ⟨_, rfl⟩
  obtain ⟨o, e, hR⟩ := loopN_count (A := (Int × (Int × (D_Project × (D_Plan × (D_Plan × (D_l01Cur × Unit))))))) (F := spec_l24Draw_L0) p.2.1.length
    (fun i st => ∃ s d c, st = ((i : Int), ((p.2.1.length : Int), (p, ((s, (d, ())), (z, (c, ())))))) ∧ PlanI p s d ∧ (∀ o ∈ d, o < (i : Int)) ∧ CurOk c)
    (fun o => ∃ b i' n' p' s d z' c, o = .exit (.inl (b, (i', (n', (p', ((s, (d, ())), (z', (c, ()))))))))  ∧ PlanI p s d) (fun i st hi hI => by
      obtain ⟨s, d, c, rfl, h, hlt, hc⟩ := hI
      rcases Nat.lt_or_ge i p.2.1.length with hi2 | hi2
      · have hlt' : ∀ o ∈ d, o < ((i + 1 : Nat) : Int) := fun o ho => by have := hlt o ho; omega
        have hz1 := idxN hi2 (Nat.le_refl _) (show p.2.1.length ≤ 1099511627776 by omega)
        obtain ⟨b, c1, hc1, e1⟩ := l01Once_eq c hc 3 (by omega) (by omega)
        have e1' : spec_l01Once (c, (3, ())) () = some (b, c1) := e1
        cases b with
        | true =>
          refine ⟨.norm (((i + 1 : Nat) : Int), ((p.2.1.length : Int), (p, ((s, (d, ())), (z, (c1, ())))))), ?_, hi2, s, d, c1, rfl, h, hlt', hc1⟩
          unfold spec_l24Draw_L0
          simp only [lt_yes hi2, if_true, e1', some_bind', hz1]
        | false =>
          have hml := (hP.a i hi2).ml
          obtain ⟨k, hk, c2, hc2, e2⟩ := l01Below_eq c1 hc1 p.2.1[i].2.2.1.length (by omega) (by omega)
          obtain ⟨k2, hk2, c3, hc3, e3⟩ := l01Below_eq c2 hc2 4 (by omega) (by omega)
          have e3' : spec_l01Below (c2, (4, ())) () = some ((k2 : Int), c3) := e3
          have hm : inB (k : Int) 0 (subZ .i64 (lenI p.2.1[i].2.2.1) 1) = true := by
            rw [inB_iff, lenI_eq, subZ64 (by omega) (by omega)]
            omega
          rcases Earliest_G hp h hi2 hlt hm k2 (by omega) with q | ⟨t, ht, hfit, q⟩
          · refine ⟨.norm (((i + 1 : Nat) : Int), ((p.2.1.length : Int), (p, ((s, (d, ())), (z, (c3, ())))))), ?_, hi2, s, d, c3, rfl, h, hlt', hc3⟩
            unfold spec_l24Draw_L0
            simp only [lt_yes hi2, if_true, e1', some_bind', Bool.false_eq_true, if_false, getI_lt hi2, lenI_eq, e2, e3', q, hz1]
          · refine ⟨.norm (((i + 1 : Nat) : Int), ((p.2.1.length : Int), (p, ((putS s (i : Int) (k : Int) t, (insV (i : Int) d, ())), (z, (c3, ())))))), ?_, hi2, _, _, c3, rfl, h.add hp hi2 hlt ht hm hfit, fun o ho => ?_, hc3⟩
            · unfold spec_l24Draw_L0
              simp only [lt_yes hi2, if_true, e1', some_bind', Bool.false_eq_true, if_false, getI_lt hi2, lenI_eq, e2, e3', q, Add_G hp h hi2 hlt ht hm hfit, hz1]
            · rcases insV_mem.1 ho with rfl | ho
              · omega
              · exact hlt' o ho
      · have : i = p.2.1.length := by omega
        subst this
        refine ⟨.exit (.inl (false, ((p.2.1.length : Int), ((p.2.1.length : Int), (p, ((s, (d, ())), (z, (c, ())))))))), ?_, _, _, _, _, s, d, _, c, rfl, h⟩
        unfold spec_l24Draw_L0
        simp only [lt_no, Bool.false_eq_true, if_false]) (s := (0, ((p.2.1.length : Int), (p, (((List.replicate p.2.1.length 0, (List.replicate p.2.1.length 0, ())), ([], ())), (z, (c, ())))))))
      ⟨_, [], c, rfl, hN, fun o ho => absurd ho (by simp), hc⟩ (by unfold big; omega)
  obtain ⟨b, i', n', p', s, d, z', c', rfl, h⟩ := hR
  refine ⟨s, d, c', h, ?_⟩
  unfold spec_l24Draw
  rw [← hz]
  simp only [en, some_bind', lenI_eq, e]
theorem MakePlan_eq (b : List Int) (hb : b.length ≤ 1048576) (p : D_Project) (hP : GenP 6 p) : ∃ s d, PlanI p s d ∧ spec_MakePlan (b, (p, ())) () = some ((s, d, ()), ()) := by
  unfold spec_MakePlan
  obtain ⟨c, hc, e⟩ := l01New_eq b hb
  obtain ⟨s, d, c', h, e2⟩ := l24Draw_eq hP (c.1, (c.2.1, ((addZ .i64 c.2.2.1 29), c.2.2.2))) hc
  simp only [e, Option.bind_some, e2]
  exact ⟨s, d, h, rfl⟩
end Go.Proofs.YtjjlancmbaacfaaGreat
