/-
  Plain laws: two results, two schedules, two proof lines compared, in the program and in the reference. Condition: no list is longer than 2 to the 40.
-/
import Derived.Test.YtemeabdacejkpaaN32
import Derived.Test.Ytemeabdacejkpaax4W
namespace Go.Proofs.Ytemeabdacejkpaa
open Go.Abs
set_option linter.unusedVariables false
set_option linter.unusedSimpArgs false

theorem SetEqual_eq (x y : List Int) (u : Unit) (hx : x.length ≤ 1099511627776) : spec_SetEqual (x, y, u) () = some (eqLB eqZ x y, ()) := by
  unfold spec_SetEqual
  simp only [lenI_eq]
  by_cases h : x.length = y.length
  · have e := pair_loop (A := (Int × (Int × ((List Int) × ((List Int) × Unit))))) (F := spec_SetEqual_L0) (fun i => ((i : Int), (x.length : Int), x, y, ())) x y h eqZ (Sum.inl (false, (x.length : Int), (x.length : Int), x, y, ())) (false, ()) hx
      (fun i hi hj hq => by unfold spec_SetEqual_L0; simp only [lt_yes hi, if_true, getI_lt hi, getI_lt hj, some_bind', hq, notB_true, Bool.false_eq_true, if_false, idxN hi hx (Nat.le_refl _)])
      (fun i hi hj hq => by unfold spec_SetEqual_L0; simp only [lt_yes hi, if_true, getI_lt hi, getI_lt hj, some_bind', hq, notB_false])
      (by unfold spec_SetEqual_L0; simp only [lt_no, Bool.false_eq_true, if_false])
    simp only [eqZ_nat h, notB_true, Bool.false_eq_true, if_false]
    have e' : loopN (A := (Int × (Int × ((List Int) × ((List Int) × Unit))))) big spec_SetEqual_L0 (0, (x.length : Int), x, y, ()) = _ := e
    rw [e']
    cases eqLB eqZ x y <;> rfl
  · simp only [eqZ_natne h, notB_false, if_true, eqLB_len h]
def litB (a b : D_Literal) : Bool := iteB (eqZ a.1 b.1) (iteB (eqZ a.2.1 b.2.1) (eqZ a.2.2.1 b.2.2.1) false) false
theorem ClauseEqual_eq (x y : List D_Literal) (u : Unit) (hx : x.length ≤ 1099511627776) : spec_ClauseEqual (x, y, u) () = some (eqLB litB x y, ()) := by
  unfold spec_ClauseEqual
  simp only [lenI_eq]
  by_cases h : x.length = y.length
  · have e := pair_loop (A := (Int × (Int × ((List D_Literal) × ((List D_Literal) × Unit))))) (F := spec_ClauseEqual_L0) (fun i => ((i : Int), (x.length : Int), x, y, ())) x y h litB (Sum.inl (false, (x.length : Int), (x.length : Int), x, y, ())) (false, ()) hx
      (fun i hi hj hq => by unfold litB at hq; unfold spec_ClauseEqual_L0; simp only [lt_yes hi, if_true, getI_lt hi, getI_lt hj, some_bind', hq, notB_true, Bool.false_eq_true, if_false, idxN hi hx (Nat.le_refl _)])
      (fun i hi hj hq => by unfold litB at hq; unfold spec_ClauseEqual_L0; simp only [lt_yes hi, if_true, getI_lt hi, getI_lt hj, some_bind', hq, notB_false])
      (by unfold spec_ClauseEqual_L0; simp only [lt_no, Bool.false_eq_true, if_false])
    simp only [eqZ_nat h, notB_true, Bool.false_eq_true, if_false]
    have e' : loopN (A := (Int × (Int × ((List D_Literal) × ((List D_Literal) × Unit))))) big spec_ClauseEqual_L0 (0, (x.length : Int), x, y, ()) = _ := e
    rw [e']
    cases eqLB litB x y <;> rfl
  · simp only [eqZ_natne h, notB_false, if_true, eqLB_len h]
def ruleB (a b : D_Rule) : Bool := iteB (eqZ a.1 b.1) (iteB (eqZ a.2.1 b.2.1) (iteB (eqZ a.2.2.1 b.2.2.1) (eqZ a.2.2.2.1 b.2.2.2.1) false) false) false
def lineB (a b : D_Line) : Bool := eqZ a.1 b.1 && ruleB a.2.1 b.2.1 && eqLB litB a.2.2.1 b.2.2.1
theorem LineEqual_eq (a b : D_Line) (u : Unit) (hx : Sm_Line 1099511627776 a) : spec_LineEqual (a, b, u) () = some (lineB a b, ()) := by
  unfold spec_LineEqual lineB ruleB
  simp only [ClauseEqual_eq _ _ _ hx.2.2.1.1, some_bind']
  generalize eqZ a.1 b.1 = p
  generalize (iteB (eqZ a.2.1.1 b.2.1.1) (iteB (eqZ a.2.1.2.1 b.2.1.2.1) (iteB (eqZ a.2.1.2.2.1 b.2.1.2.2.1) (eqZ a.2.1.2.2.2.1 b.2.1.2.2.2.1) false) false) false) = q
  generalize eqLB litB a.2.2.1 b.2.2.1 = r
  cases p <;> cases q <;> cases r <;> rfl
theorem LineEqual_impl : impl_LineEqual = spec_LineEqual := rfl
def schB (a b : D_Schedule) : Bool := eqLB eqZ a.1 b.1 && eqLB eqZ a.2.1 b.2.1
theorem ScheduleEqual_eq (a b : D_Schedule) (u : Unit) (hx : Sm_Schedule 1099511627776 a) : spec_ScheduleEqual (a, b, u) () = some (schB a b, ()) := by
  unfold spec_ScheduleEqual schB
  simp only [SetEqual_eq _ _ _ hx.1.1, SetEqual_eq _ _ _ hx.2.1.1, some_bind']
  generalize eqLB eqZ a.1 b.1 = p
  generalize eqLB eqZ a.2.1 b.2.1 = r
  cases p <;> cases r <;> rfl
theorem ScheduleEqual_impl : impl_ScheduleEqual = spec_ScheduleEqual := rfl
def resB (a b : D_Result) : Bool := eqZ a.1 b.1 && schB a.2.1 b.2.1 && eqZ a.2.2.1 b.2.2.1 && eqZ a.2.2.2.1 b.2.2.2.1 && eqZ a.2.2.2.2.2.1 b.2.2.2.2.2.1 && eqLB lineB a.2.2.2.2.1 b.2.2.2.2.1
theorem ResultEqual_spec (a b : D_Result) (u : Unit) (hx : Sm_Result 1099511627776 a) : spec_ResultEqual (a, b, u) () = some (resB a b, ()) := by
  have hn := hx.2.2.2.2.1.1
  unfold spec_ResultEqual resB
  simp only [lenI_eq, ScheduleEqual_eq _ _ _ hx.2.1, some_bind']
  have hl : a.2.2.2.2.1.length = b.2.2.2.2.1.length → loopN (A := (Int × (Int × ((List D_Line) × (D_Result × Unit))))) big spec_ResultEqual_L0 (0, (a.2.2.2.2.1.length : Int), a.2.2.2.2.1, b, ()) = some (if eqLB lineB a.2.2.2.2.1 b.2.2.2.2.1 then .exit (Sum.inl (false, (a.2.2.2.2.1.length : Int), (a.2.2.2.2.1.length : Int), a.2.2.2.2.1, b, ())) else .ret (false, ())) := fun h =>
    pair_loop (F := spec_ResultEqual_L0) (fun i => ((i : Int), (a.2.2.2.2.1.length : Int), a.2.2.2.2.1, b, ())) _ _ h lineB _ _ hn
      (fun i hi hj hq => by unfold spec_ResultEqual_L0; simp only [lt_yes hi, if_true, getI_lt hi, getI_lt hj, some_bind', LineEqual_eq _ _ _ (hx.2.2.2.2.1.2 _ (List.getElem_mem hi)), hq, notB_true, Bool.false_eq_true, if_false, idxN hi hn (Nat.le_refl _)])
      (fun i hi hj hq => by unfold spec_ResultEqual_L0; simp only [lt_yes hi, if_true, getI_lt hi, getI_lt hj, some_bind', LineEqual_eq _ _ _ (hx.2.2.2.2.1.2 _ (List.getElem_mem hi)), hq, notB_false])
      (by unfold spec_ResultEqual_L0; simp only [lt_no, Bool.false_eq_true, if_false])
  generalize eqZ a.1 b.1 = p
  generalize schB a.2.1 b.2.1 = q
  generalize eqZ a.2.2.1 b.2.2.1 = r
  generalize eqZ a.2.2.2.1 b.2.2.2.1 = s
  generalize eqZ a.2.2.2.2.2.1 b.2.2.2.2.2.1 = t
  by_cases h : a.2.2.2.2.1.length = b.2.2.2.2.1.length
  · rw [eqZ_nat h]
    cases p <;> cases q <;> cases r <;> cases s <;> cases t <;> try rfl
    simp only [notB_true, Bool.false_eq_true, if_false, some_bind', hl h, Bool.and_self, Bool.true_and]
    cases eqLB lineB a.2.2.2.2.1 b.2.2.2.2.1 <;> rfl
  · rw [eqZ_natne h, eqLB_len h]
    cases p <;> cases q <;> cases r <;> cases s <;> cases t <;> rfl
theorem ResultEqual_impl (a b : D_Result) (u : Unit) (hx : Sm_Result 1099511627776 a) : impl_ResultEqual (a, b, u) () = some (resB a b, ()) := by
  have hn := hx.2.2.2.2.1.1
  unfold impl_ResultEqual resB
  simp only [lenI_eq]
  by_cases h : a.2.2.2.2.1.length = b.2.2.2.2.1.length
  · have hl : loopN (A := (Int × (Int × ((List D_Line) × (D_Result × (D_Result × Unit)))))) big impl_ResultEqual_L0 (0, (a.2.2.2.2.1.length : Int), a.2.2.2.2.1, a, b, ()) = some (if eqLB lineB a.2.2.2.2.1 b.2.2.2.2.1 then .exit (Sum.inl (false, (a.2.2.2.2.1.length : Int), (a.2.2.2.2.1.length : Int), a.2.2.2.2.1, a, b, ())) else .ret (false, ())) :=
      pair_loop (F := impl_ResultEqual_L0) (fun i => ((i : Int), (a.2.2.2.2.1.length : Int), a.2.2.2.2.1, a, b, ())) _ _ h lineB _ _ hn
        (fun i hi hj hq => by unfold impl_ResultEqual_L0; simp only [lt_yes hi, if_true, getI_lt hi, getI_lt hj, some_bind', LineEqual_impl, LineEqual_eq _ _ _ (hx.2.2.2.2.1.2 _ (List.getElem_mem hi)), hq, notB_true, Bool.false_eq_true, if_false, idxN hi hn (Nat.le_refl _)])
        (fun i hi hj hq => by unfold impl_ResultEqual_L0; simp only [lt_yes hi, if_true, getI_lt hi, getI_lt hj, some_bind', LineEqual_impl, LineEqual_eq _ _ _ (hx.2.2.2.2.1.2 _ (List.getElem_mem hi)), hq, notB_false])
        (by unfold impl_ResultEqual_L0; simp only [lt_no, Bool.false_eq_true, if_false])
    simp only [eqZ_nat h, notB_true, Bool.false_eq_true, if_false, hl, some_bind']
    generalize eqLB lineB a.2.2.2.2.1 b.2.2.2.2.1 = z
    cases z
    · simp
    · simp only [if_true, ScheduleEqual_impl, ScheduleEqual_eq _ _ _ hx.2.1, some_bind']
      generalize eqZ a.1 b.1 = p
      generalize schB a.2.1 b.2.1 = q
      generalize eqZ a.2.2.1 b.2.2.1 = r
      generalize eqZ a.2.2.2.1 b.2.2.2.1 = s
      generalize eqZ a.2.2.2.2.2.1 b.2.2.2.2.2.1 = t
      cases p <;> cases q <;> cases r <;> cases s <;> cases t <;> rfl
  · simp only [eqZ_natne h, notB_false, if_true, eqLB_len h, Bool.and_false]
end Go.Proofs.Ytemeabdacejkpaa
