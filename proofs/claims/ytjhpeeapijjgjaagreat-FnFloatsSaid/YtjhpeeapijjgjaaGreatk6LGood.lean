/-
  Plain laws: schedules that are drawn, many of them valid: they have the right form. Condition: the code has at most 1048576 bytes.
-/
import Derived.Test.YtjhpeeapijjgjaaGreatk6LSerial
import Derived.Test.YtjhpeeapijjgjaaGreatk6LFormM
import Derived.Test.YtjhpeeapijjgjaaGreatk6LGenA
namespace Go.Proofs.YtjhpeeapijjgjaaGreat
open Go.Abs
set_option linter.unusedVariables false
set_option linter.unusedSimpArgs false

theorem ok_ruleG {p : D_Project} {s : D_Schedule} (h : okV p s = true) {r : D_Rule} (hr : r ∈ ruleL p) : failB p s r = false := by
  have hf := form_of_ok h
  unfold okV violL at h
  rw [if_pos hf, Bool.and_eq_true] at h
  have h2 := h.2
  rw [eqZ_dec, decide_eq_true_eq, lenI_eq] at h2
  have h3 : (ruleL p).filter (failB p s) = [] := List.eq_nil_of_length_eq_zero (by omega)
  rw [List.filter_eq_nil_iff] at h3
  exact Bool.eq_false_iff.2 (h3 r hr)
theorem end_leG {p : D_Project} {s : D_Schedule} (hp : Sm_Project 1099511627776 p) (h : okV p s = true) {i : Nat} (hi : i < p.2.1.length) : endV p s (i : Int) ≤ p.1 := by
  have hf := form_of_ok h
  have hF := ok_ruleG h ((rules_first hp (proj_of_form hf)).2 i hi)
  have ge := (endV_at hp hf hi).1
  have z1 : eqZ 2 1 = false := rfl
  have z2 : eqZ 2 2 = true := rfl
  unfold failB spec_l10Fails at hF
  simp only [z1, z2, if_true, Bool.false_eq_true, if_false, some_bind', ge] at hF
  rw [Bool.eq_false_iff, Ne, ltZ_iff] at hF
  omega
theorem start_leG {p : D_Project} {s : D_Schedule} (hp : Sm_Project 1099511627776 p) (h : okV p s = true) {i : Nat} (hi : i < p.2.1.length) : ∃ x, getI s.1 (i : Int) = some x ∧ 0 ≤ x ∧ x ≤ p.1 := by
  have hf := form_of_ok h
  obtain ⟨x, e, md, g1, ge, -, he, h1, h2, h3, h4, -⟩ := run_at hp hf hi
  have h5 := end_leG hp h hi
  have : endV p s (i : Int) = e := by unfold endV; rw [ge]
  rw [this, he, addZ64 (by omega) (by omega)] at h5
  exact ⟨x, g1, h1, by omega⟩
theorem form_start {p : D_Project} {s : D_Schedule} {a : Nat} {t : Int} (h : formB p s = true) (haa : a < p.2.1.length) (ht : inB t 0 60 = true) : formB p (setI s.1 (a : Int) (fun _ => t), s.2) = true := by
  obtain ⟨n1, n2⟩ := form_len h
  unfold formB at h ⊢
  simp only [Bool.and_eq_true] at h ⊢
  refine ⟨⟨⟨h.1.1.1, ?_⟩, h.1.2⟩, ?_⟩
  · simp only [lenI_eq, setI_length, n1, eqZ_self]
  · refine List.all_eq_true.2 fun i hi => ?_
    have h4 := List.all_eq_true.1 h.2 i hi
    have hi' : i < p.2.1.length := List.mem_range.1 hi
    unfold formI at h4 ⊢
    rw [List.getElem?_eq_getElem hi', List.getElem?_eq_getElem (show i < s.1.length by omega), List.getElem?_eq_getElem (show i < s.2.1.length by omega)] at h4
    simp only [setI_nat, List.getElem?_modify]
    by_cases e : a = i
    · subst e
      simp only [Bool.and_eq_true] at h4
      simp only [if_true, List.getElem?_eq_getElem hi', List.getElem?_eq_getElem (show a < s.1.length by omega), List.getElem?_eq_getElem (show a < s.2.1.length by omega), Option.map_eq_map, Option.map_some, ht, h4.2, Bool.and_self]
    · simp only [if_neg e, List.getElem?_eq_getElem hi', List.getElem?_eq_getElem (show i < s.1.length by omega), List.getElem?_eq_getElem (show i < s.2.1.length by omega), Option.map_eq_map, Option.map_some, id, h4]
theorem Some_G (c : D_l01Cur) (hc : CurOk c) : ∃ p s c', GenP 3 p ∧ formB p s = true ∧ spec_l26Some (c, ()) () = some ((p, (s, ())), c') := by
  obtain ⟨p, c1, hP, hc1, e1⟩ := l05Draw_eq c hc 3 (by omega) (by omega)
  have e1' : spec_l05Draw (c, (3, ())) () = some (p, c1) := e1
  obtain ⟨k, hk, c2, hc2, e2⟩ := l01Below_eq c1 hc1 4 (by omega) (by omega)
  have e2' : spec_l01Below (c1, (4, ())) () = some ((k : Int), c2) := e2
  have hP6 := hP.mono (show 3 ≤ 6 by omega)
  have hp : Sm_Project 1099511627776 p := hP6.sm (by omega) (by omega)
  have hok := hP6.ok (Nat.le_refl _)
  have hal := hP.al
  have hdl := hP.dl
  have ea : addZ .i64 1 (k : Int) = ((1 + k : Nat) : Int) := by rw [addZ64 (by omega) (by omega)]; omega
  obtain ⟨l, el, hl⟩ := PriorityOrder_T hp hok hal.2 (rule := 1 + k) (by omega) ()
  obtain ⟨b, c3, hc3, e3⟩ := l01Once_eq c2 hc2 2 (by omega) (by omega)
  have e3' : spec_l01Once (c2, (2, ())) () = some (b, c3) := e3
  obtain ⟨s, ok, es, hs⟩ := Serial_T hp hok hl b ()
  unfold spec_l26Some
  simp only [e1', Option.bind_some, e2', ea, el, e3', es]
  rcases tf ok with rfl | rfl
  · obtain ⟨st, md, c4, hS, -, e4⟩ := l09Draw_eq c3 hc3 p hP6
    simp only [notB_false, if_true, e4, Option.bind_some]
    exact ⟨p, _, c4, hP, hS.form hP6, rfl⟩
  have hv := hs rfl
  have hf := form_of_ok hv
  obtain ⟨n1, n2⟩ := form_len hf
  have hsh := shape_of_form hp hf
  obtain ⟨b2, c4, hc4, e4⟩ := l01Once_eq c3 hc3 2 (by omega) (by omega)
  have e4' : spec_l01Once (c3, (2, ())) () = some (b2, c4) := e4
  simp only [notB_true, Bool.false_eq_true, if_false, e4', Option.bind_some]
  rcases tf b2 with rfl | rfl
  · simp only [Bool.false_eq_true, if_false, Option.bind_some]
    exact ⟨p, s, c4, hP, hf, rfl⟩
  obtain ⟨a, ha, c5, hc5, e5⟩ := l01Below_eq c4 hc4 s.1.length (by omega) (by omega)
  obtain ⟨x, gx, x0, x1⟩ := start_leG hp hv (show a < p.2.1.length by omega)
  obtain ⟨k2, hk2, c6, hc6, e6⟩ := l01Below_eq c5 hc5 4 (by omega) (by omega)
  have e6' : spec_l01Below (c5, (4, ())) () = some ((k2 : Int), c6) := e6
  have ex : addZ .i64 x (k2 : Int) = x + k2 := addZ64 (by omega) (by omega)
  have hfx := form_start hf (show a < p.2.1.length by omega) (t := x + k2) (by rw [inB_iff]; omega)
  have ecp := fun u => l09Copy_at hsh u
  simp only [if_true, ecp, Option.bind_some, lenI_eq, e5, gx, e6', ex, ScheduleOk_spec _ _ _ hp]
  rcases tf (okV p (setI s.1 (a : Int) (fun _ => x + k2), s.2)) with q | q
  · obtain ⟨b3, c7, hc7, e7⟩ := l01Once_eq c6 hc6 4 (by omega) (by omega)
    have e7' : spec_l01Once (c6, (4, ())) () = some (b3, c7) := e7
    simp only [q, Bool.false_eq_true, if_false, e7', Option.bind_some]
    rcases tf b3 with rfl | rfl
    · simp only [Bool.false_eq_true, if_false, Option.bind_some]
      exact ⟨p, s, c7, hP, hf, rfl⟩
    · simp only [if_true, Option.bind_some]
      exact ⟨p, _, c7, hP, hfx, rfl⟩
  · simp only [q, if_true, Option.bind_some]
    exact ⟨p, _, c6, hP, hfx, rfl⟩
theorem MakeGood_eq (b : List Int) (hb : b.length ≤ 1048576) : ∃ p s, GenP 3 p ∧ formB p s = true ∧ spec_MakeGood (b, ()) () = some ((p, (s, ())), ()) := by
  unfold spec_MakeGood
  obtain ⟨c, hc, e⟩ := l01New_eq b hb
  obtain ⟨p, s, c', hP, hf, e2⟩ := Some_G c hc
  simp only [e, Option.bind_some, e2]
  exact ⟨p, s, hP, hf, rfl⟩
end Go.Proofs.YtjhpeeapijjgjaaGreat
