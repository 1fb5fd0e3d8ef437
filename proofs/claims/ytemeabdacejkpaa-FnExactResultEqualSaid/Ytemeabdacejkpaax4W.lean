/-
  Plain laws of the functions by which the laws of this seat measure, copy and compare their data. No condition but those that each law states.
-/
import Derived.Test.YtemeabdacejkpaaN30
import Derived.Test.Ytemeabdacejkpaax4Q
namespace Go.Proofs.Ytemeabdacejkpaa
open Go.Abs
set_option linter.unusedVariables false
set_option linter.unusedSimpArgs false

theorem sz_IntS (x : (List Int)) (left : Int) (u : Unit) (h0 : 0 ≤ left) (h1 : left ≤ 1048576) (h : (x.length ≤ maxLen ∧ ∀ y ∈ x, True)) : ∃ r, laws_szIntS (x, left, u) () = some (r, ()) ∧ (r < 0 ∨ (0 ≤ r ∧ r ≤ left ∧ (x.length ≤ 1048576 ∧ ∀ y ∈ x, True))) := by
  unfold laws_szIntS
  simp only [size_flat x left h0 h1 h.1]
  by_cases hl : left - (x.length : Int) < 0
  · exact ⟨-1, by simp only [neg_yes hl, if_true], .inl (by omega)⟩
  · exact ⟨left - (x.length : Int), by simp only [neg_no (show 0 ≤ left - (x.length : Int) by omega), Bool.false_eq_true, if_false], .inr ⟨by omega, by omega, by omega, fun y _ => trivial⟩⟩
abbrev D_Schedule : Type := (List Int) × (List Int) × Unit
def Sm_Schedule (B : Nat) (x : D_Schedule) : Prop := (x.1.length ≤ B ∧ ∀ y ∈ x.1, True) ∧ (x.2.1.length ≤ B ∧ ∀ y ∈ x.2.1, True) ∧ True
theorem smm_Schedule {B B' : Nat} (hB : B ≤ B') (x : D_Schedule) (h : Sm_Schedule B x) : Sm_Schedule B' x := ⟨⟨Nat.le_trans h.1.1 hB, fun y hy => trivial⟩, ⟨Nat.le_trans h.2.1.1 hB, fun y hy => trivial⟩, trivial⟩
theorem smf_Schedule (x : D_Schedule) (h : Ty.fit (.st [.sl 3 (.int .i64), .sl 3 (.int .i64)]) x) : Sm_Schedule maxLen x := ⟨⟨h.1.1, fun y hy => trivial⟩, ⟨h.2.1.1, fun y hy => trivial⟩, trivial⟩
theorem sz_Schedule (x : D_Schedule) (left : Int) (u : Unit) (h0 : 0 ≤ left) (h1 : left ≤ 1048576) (h : Sm_Schedule maxLen x) : ∃ r, laws_szSchedule (x, left, u) () = some (r, ()) ∧ (r < 0 ∨ (0 ≤ r ∧ r ≤ left ∧ Sm_Schedule 1048576 x)) := by
  unfold laws_szSchedule
  obtain ⟨r0, e0, c0⟩ := sz_IntS x.1 left () h0 h1 h.1
  simp only [e0, some_bind']
  rcases c0 with c0 | ⟨c0, d0, s0⟩
  · exact ⟨-1, by simp only [neg_yes c0, if_true], .inl (by omega)⟩
  simp only [neg_no c0, Bool.false_eq_true, if_false]
  obtain ⟨r1, e1, c1⟩ := sz_IntS x.2.1 r0 () c0 (show r0 ≤ 1048576 by omega) h.2.1
  simp only [e1, some_bind']
  rcases c1 with c1 | ⟨c1, d1, s1⟩
  · exact ⟨-1, by simp only [neg_yes c1, if_true], .inl (by omega)⟩
  simp only [neg_no c1, Bool.false_eq_true, if_false]
  exact ⟨r1, rfl, .inr ⟨c1, by omega, ⟨s0, s1, trivial⟩⟩⟩
abbrev D_Literal : Type := Int × Int × Int × Unit
def Sm_Literal (B : Nat) (x : D_Literal) : Prop := True ∧ True ∧ True ∧ True
theorem smI_Literal (B : Nat) (x : D_Literal) : Sm_Literal B x := ⟨trivial, trivial, trivial, trivial⟩
theorem smm_Literal {B B' : Nat} (hB : B ≤ B') (x : D_Literal) (h : Sm_Literal B x) : Sm_Literal B' x := ⟨trivial, trivial, trivial, trivial⟩
theorem smf_Literal (x : D_Literal) (h : Ty.fit (.st [.int .i64, .int .i64, .int .i64]) x) : Sm_Literal maxLen x := ⟨trivial, trivial, trivial, trivial⟩
theorem sz_LiteralS (x : (List D_Literal)) (left : Int) (u : Unit) (h0 : 0 ≤ left) (h1 : left ≤ 1048576) (h : (x.length ≤ maxLen ∧ ∀ y ∈ x, Sm_Literal maxLen y)) : ∃ r, laws_szLiteralS (x, left, u) () = some (r, ()) ∧ (r < 0 ∨ (0 ≤ r ∧ r ≤ left ∧ (x.length ≤ 1048576 ∧ ∀ y ∈ x, Sm_Literal 1048576 y))) := by
  unfold laws_szLiteralS
  simp only [size_flat x left h0 h1 h.1]
  by_cases hl : left - (x.length : Int) < 0
  · exact ⟨-1, by simp only [neg_yes hl, if_true], .inl (by omega)⟩
  · exact ⟨left - (x.length : Int), by simp only [neg_no (show 0 ≤ left - (x.length : Int) by omega), Bool.false_eq_true, if_false], .inr ⟨by omega, by omega, by omega, fun y _ => smI_Literal _ _⟩⟩
abbrev D_Rule : Type := Int × Int × Int × Int × Unit
def Sm_Rule (B : Nat) (x : D_Rule) : Prop := True ∧ True ∧ True ∧ True ∧ True
theorem smI_Rule (B : Nat) (x : D_Rule) : Sm_Rule B x := ⟨trivial, trivial, trivial, trivial, trivial⟩
theorem smm_Rule {B B' : Nat} (hB : B ≤ B') (x : D_Rule) (h : Sm_Rule B x) : Sm_Rule B' x := ⟨trivial, trivial, trivial, trivial, trivial⟩
theorem smf_Rule (x : D_Rule) (h : Ty.fit (.st [.int .i64, .int .i64, .int .i64, .int .i64]) x) : Sm_Rule maxLen x := ⟨trivial, trivial, trivial, trivial, trivial⟩
abbrev D_Line : Type := Int × D_Rule × (List D_Literal) × Unit
def Sm_Line (B : Nat) (x : D_Line) : Prop := True ∧ Sm_Rule B x.2.1 ∧ (x.2.2.1.length ≤ B ∧ ∀ y ∈ x.2.2.1, Sm_Literal B y) ∧ True
theorem smm_Line {B B' : Nat} (hB : B ≤ B') (x : D_Line) (h : Sm_Line B x) : Sm_Line B' x := ⟨trivial, smm_Rule hB _ h.2.1, ⟨Nat.le_trans h.2.2.1.1 hB, fun y hy => smm_Literal hB _ (h.2.2.1.2 y hy)⟩, trivial⟩
theorem smf_Line (x : D_Line) (h : Ty.fit (.st [.int .i64, .st [.int .i64, .int .i64, .int .i64, .int .i64], .sl 64 (.st [.int .i64, .int .i64, .int .i64])]) x) : Sm_Line maxLen x := ⟨trivial, smf_Rule _ h.2.1, ⟨h.2.2.1.1, fun y hy => smf_Literal _ (h.2.2.1.2 y hy)⟩, trivial⟩
theorem sz_Line (x : D_Line) (left : Int) (u : Unit) (h0 : 0 ≤ left) (h1 : left ≤ 1048576) (h : Sm_Line maxLen x) : ∃ r, laws_szLine (x, left, u) () = some (r, ()) ∧ (r < 0 ∨ (0 ≤ r ∧ r ≤ left ∧ Sm_Line 1048576 x)) := by
  unfold laws_szLine
  obtain ⟨r2, e2, c2⟩ := sz_LiteralS x.2.2.1 left () h0 h1 h.2.2.1
  simp only [e2, some_bind']
  rcases c2 with c2 | ⟨c2, d2, s2⟩
  · exact ⟨-1, by simp only [neg_yes c2, if_true], .inl (by omega)⟩
  simp only [neg_no c2, Bool.false_eq_true, if_false]
  exact ⟨r2, rfl, .inr ⟨c2, by omega, ⟨trivial, smI_Rule _ _, s2, trivial⟩⟩⟩
theorem sz_LineS (x : (List D_Line)) (left : Int) (u : Unit) (h0 : 0 ≤ left) (h1 : left ≤ 1048576) (h : (x.length ≤ maxLen ∧ ∀ y ∈ x, Sm_Line maxLen y)) : ∃ r, laws_szLineS (x, left, u) () = some (r, ()) ∧ (r < 0 ∨ (0 ≤ r ∧ r ≤ left ∧ (x.length ≤ 1048576 ∧ ∀ y ∈ x, Sm_Line 1048576 y))) := by
  unfold laws_szLineS
  simp only [size_flat x left h0 h1 h.1]
  by_cases hl : left - (x.length : Int) < 0
  · exact ⟨-1, by simp only [neg_yes hl, if_true], .inl (by omega)⟩
  · simp only [neg_no (show 0 ≤ left - (x.length : Int) by omega), Bool.false_eq_true, if_false]
    have hx' : x.length ≤ 1048576 := by omega
    have hs : ∀ (i : Nat) (hi : i < x.length) (l : Int), 0 ≤ l → l ≤ 1048576 → laws_szLineS_L0 ((i : Int), x, l, ()) = some (.ret ((-1), ())) ∨ ∃ r, 0 ≤ r ∧ r ≤ l ∧ (fun y : D_Line => Sm_Line 1048576 y) x[i] ∧ laws_szLineS_L0 ((i : Int), x, l, ()) = some (.norm (((i + 1 : Nat) : Int), x, r, ())) := by
      intro i hi l k0 k1
      obtain ⟨r, e, hr⟩ := sz_Line x[i] l () k0 k1 (h.2 _ (List.getElem_mem hi))
      unfold laws_szLineS_L0
      simp only [lenI_eq, lt_yes hi, if_true, getI_lt hi, some_bind', e]
      rcases hr with hr | ⟨r0, r1, r2⟩
      · left; simp only [neg_yes hr, if_true]
      · right; exact ⟨r, r0, r1, r2, by simp only [neg_no r0, Bool.false_eq_true, if_false, idx_next hi hx']⟩
    have he : ∀ l : Int, ∃ b i', laws_szLineS_L0 ((x.length : Int), x, l, ()) = some (.exit (Sum.inl (b, i', x, l, ()))) := fun l => ⟨false, (x.length : Int), by unfold laws_szLineS_L0; simp only [lenI_eq, lt_no, Bool.false_eq_true, if_false]⟩
    rcases sizeL (fun y : D_Line => Sm_Line 1048576 y) ((-1 : Int), ()) (by omega) (show 0 ≤ left - (x.length : Int) by omega) (by omega) hs he with e | ⟨b, i', r, k1, k2, k3, e⟩
    · exact ⟨-1, by simp only [e, some_bind'], .inl (by omega)⟩
    · exact ⟨r, by simp only [e, some_bind'], .inr ⟨k1, by omega, hx', k3⟩⟩
abbrev D_Result : Type := Int × D_Schedule × Int × Int × (List D_Line) × Int × Unit
def Sm_Result (B : Nat) (x : D_Result) : Prop := True ∧ Sm_Schedule B x.2.1 ∧ True ∧ True ∧ (x.2.2.2.2.1.length ≤ B ∧ ∀ y ∈ x.2.2.2.2.1, Sm_Line B y) ∧ True ∧ True
theorem smm_Result {B B' : Nat} (hB : B ≤ B') (x : D_Result) (h : Sm_Result B x) : Sm_Result B' x := ⟨trivial, smm_Schedule hB _ h.2.1, trivial, trivial, ⟨Nat.le_trans h.2.2.2.2.1.1 hB, fun y hy => smm_Line hB _ (h.2.2.2.2.1.2 y hy)⟩, trivial, trivial⟩
theorem smf_Result (x : D_Result) (h : Ty.fit (.st [.int .i64, .st [.sl 3 (.int .i64), .sl 3 (.int .i64)], .int .i64, .int .i64, .sl 183 (.st [.int .i64, .st [.int .i64, .int .i64, .int .i64, .int .i64], .sl 64 (.st [.int .i64, .int .i64, .int .i64])]), .int .i64]) x) : Sm_Result maxLen x := ⟨trivial, smf_Schedule _ h.2.1, trivial, trivial, ⟨h.2.2.2.2.1.1, fun y hy => smf_Line _ (h.2.2.2.2.1.2 y hy)⟩, trivial, trivial⟩
theorem sz_Result (x : D_Result) (left : Int) (u : Unit) (h0 : 0 ≤ left) (h1 : left ≤ 1048576) (h : Sm_Result maxLen x) : ∃ r, laws_szResult (x, left, u) () = some (r, ()) ∧ (r < 0 ∨ (0 ≤ r ∧ r ≤ left ∧ Sm_Result 1048576 x)) := by
  unfold laws_szResult
  obtain ⟨r1, e1, c1⟩ := sz_Schedule x.2.1 left () h0 h1 h.2.1
  simp only [e1, some_bind']
  rcases c1 with c1 | ⟨c1, d1, s1⟩
  · exact ⟨-1, by simp only [neg_yes c1, if_true], .inl (by omega)⟩
  simp only [neg_no c1, Bool.false_eq_true, if_false]
  obtain ⟨r4, e4, c4⟩ := sz_LineS x.2.2.2.2.1 r1 () c1 (show r1 ≤ 1048576 by omega) h.2.2.2.2.1
  simp only [e4, some_bind']
  rcases c4 with c4 | ⟨c4, d4, s4⟩
  · exact ⟨-1, by simp only [neg_yes c4, if_true], .inl (by omega)⟩
  simp only [neg_no c4, Bool.false_eq_true, if_false]
  exact ⟨r4, rfl, .inr ⟨c4, by omega, ⟨trivial, s1, trivial, trivial, s4, trivial, trivial⟩⟩⟩
theorem to_IntS (x : (List Int)) (u : Unit) (h : (x.length ≤ 1048576 ∧ ∀ y ∈ x, True)) : laws_toIntS (x, u) () = some (x, ()) := by
  have hx := h.1
  obtain ⟨b, i', e⟩ := copyL (z := (0 : Int)) (F := laws_toIntS_L0) (show x.length ≤ 1099511627776 by omega)
    (fun i hi out hl => by
      unfold laws_toIntS_L0
      simp only [lenI_eq, lt_yes hi, if_true, getI_lt hi, getI_lt (show i < out.length by omega), some_bind', idx_next hi hx])
    (fun out hl => ⟨false, (x.length : Int), by unfold laws_toIntS_L0; simp only [lenI_eq, lt_no, Bool.false_eq_true, if_false]⟩)
  unfold laws_toIntS
  simp only [lenI_eq, eqZ_self, if_true, zerosN (n := x.length) (z := (0 : Int)) (by omega), some_bind', e]
theorem to_Schedule (x : D_Schedule) (u : Unit) (h : Sm_Schedule 1048576 x) : laws_toSchedule (x, u) () = some (x, ()) := by
  unfold laws_toSchedule
  simp only [to_IntS _ _ h.1, to_IntS _ _ h.2.1, some_bind']
theorem to_Rule (x : D_Rule) (u : Unit) : laws_toRule (x, u) () = some (x, ()) := by
  unfold laws_toRule
  rfl
theorem to_Literal (x : D_Literal) (u : Unit) : laws_toLiteral (x, u) () = some (x, ()) := by
  unfold laws_toLiteral
  rfl
theorem to_LiteralS (x : (List D_Literal)) (u : Unit) (h : (x.length ≤ 1048576 ∧ ∀ y ∈ x, Sm_Literal 1048576 y)) : laws_toLiteralS (x, u) () = some (x, ()) := by
  have hx := h.1
  obtain ⟨b, i', e⟩ := copyL (z := ((0 : Int), (0 : Int), (0 : Int), ())) (F := laws_toLiteralS_L0) (show x.length ≤ 1099511627776 by omega)
    (fun i hi out hl => by
      unfold laws_toLiteralS_L0
      simp only [lenI_eq, lt_yes hi, if_true, getI_lt hi, getI_lt (show i < out.length by omega), some_bind', idx_next hi hx, to_Literal])
    (fun out hl => ⟨false, (x.length : Int), by unfold laws_toLiteralS_L0; simp only [lenI_eq, lt_no, Bool.false_eq_true, if_false]⟩)
  unfold laws_toLiteralS
  simp only [lenI_eq, eqZ_self, if_true, zerosN (n := x.length) (z := ((0 : Int), (0 : Int), (0 : Int), ())) (by omega), some_bind', e]
theorem to_Line (x : D_Line) (u : Unit) (h : Sm_Line 1048576 x) : laws_toLine (x, u) () = some (x, ()) := by
  unfold laws_toLine
  simp only [to_Rule, to_LiteralS _ _ h.2.2.1, some_bind']
theorem to_LineS (x : (List D_Line)) (u : Unit) (h : (x.length ≤ 1048576 ∧ ∀ y ∈ x, Sm_Line 1048576 y)) : laws_toLineS (x, u) () = some (x, ()) := by
  have hx := h.1
  obtain ⟨b, i', e⟩ := copyL (z := ((0 : Int), ((0 : Int), (0 : Int), (0 : Int), (0 : Int), ()), ([] : (List D_Literal)), ())) (F := laws_toLineS_L0) (show x.length ≤ 1099511627776 by omega)
    (fun i hi out hl => by
      unfold laws_toLineS_L0
      simp only [lenI_eq, lt_yes hi, if_true, getI_lt hi, getI_lt (show i < out.length by omega), some_bind', idx_next hi hx, to_Line _ _ (h.2 _ (List.getElem_mem hi))])
    (fun out hl => ⟨false, (x.length : Int), by unfold laws_toLineS_L0; simp only [lenI_eq, lt_no, Bool.false_eq_true, if_false]⟩)
  unfold laws_toLineS
  simp only [lenI_eq, eqZ_self, if_true, zerosN (n := x.length) (z := ((0 : Int), ((0 : Int), (0 : Int), (0 : Int), (0 : Int), ()), ([] : (List D_Literal)), ())) (by omega), some_bind', e]
theorem to_Result (x : D_Result) (u : Unit) (h : Sm_Result 1048576 x) : laws_toResult (x, u) () = some (x, ()) := by
  unfold laws_toResult
  simp only [to_Schedule _ _ h.2.1, to_LineS _ _ h.2.2.2.2.1, some_bind']
theorem eq_IntS (x : (List Int)) (u : Unit) (h : (x.length ≤ 1099511627776 ∧ ∀ y ∈ x, True)) : laws_eqIntS (x, x, u) () = some (true, ()) := by
  have hx := h.1
  obtain ⟨v, e⟩ := sameL (F := laws_eqIntS_L0) hx
    (fun i hi => by
      unfold laws_eqIntS_L0
      simp only [lenI_eq, lt_yes hi, if_true, getI_lt hi, some_bind', eqZ_self, eqS_self, eqB_self, notB_true, Bool.false_eq_true, if_false, idxN hi hx (Nat.le_refl _)])
    ⟨_, by unfold laws_eqIntS_L0; simp only [lenI_eq, lt_no, Bool.false_eq_true, if_false]; rfl⟩
  unfold laws_eqIntS
  simp only [eqZ_self, eqS_self, eqB_self, notB_true, Bool.false_eq_true, if_false, e, some_bind']
theorem eq_Schedule (x : D_Schedule) (u : Unit) (h : Sm_Schedule 1099511627776 x) : laws_eqSchedule (x, x, u) () = some (true, ()) := by
  unfold laws_eqSchedule
  simp only [eqZ_self, eqS_self, eqB_self, notB_true, Bool.false_eq_true, if_false, some_bind', eq_IntS _ _ h.1, eq_IntS _ _ h.2.1]
theorem eq_Rule (x : D_Rule) (u : Unit) : laws_eqRule (x, x, u) () = some (true, ()) := by
  unfold laws_eqRule
  simp only [eqZ_self, eqS_self, eqB_self, notB_true, Bool.false_eq_true, if_false, some_bind']
theorem eq_Literal (x : D_Literal) (u : Unit) : laws_eqLiteral (x, x, u) () = some (true, ()) := by
  unfold laws_eqLiteral
  simp only [eqZ_self, eqS_self, eqB_self, notB_true, Bool.false_eq_true, if_false, some_bind']
theorem eq_LiteralS (x : (List D_Literal)) (u : Unit) (h : (x.length ≤ 1099511627776 ∧ ∀ y ∈ x, Sm_Literal 1099511627776 y)) : laws_eqLiteralS (x, x, u) () = some (true, ()) := by
  have hx := h.1
  obtain ⟨v, e⟩ := sameL (F := laws_eqLiteralS_L0) hx
    (fun i hi => by
      unfold laws_eqLiteralS_L0
      simp only [lenI_eq, lt_yes hi, if_true, getI_lt hi, some_bind', eqZ_self, eqS_self, eqB_self, notB_true, Bool.false_eq_true, if_false, idxN hi hx (Nat.le_refl _), eq_Literal])
    ⟨_, by unfold laws_eqLiteralS_L0; simp only [lenI_eq, lt_no, Bool.false_eq_true, if_false]; rfl⟩
  unfold laws_eqLiteralS
  simp only [eqZ_self, eqS_self, eqB_self, notB_true, Bool.false_eq_true, if_false, e, some_bind']
theorem eq_Line (x : D_Line) (u : Unit) (h : Sm_Line 1099511627776 x) : laws_eqLine (x, x, u) () = some (true, ()) := by
  unfold laws_eqLine
  simp only [eqZ_self, eqS_self, eqB_self, notB_true, Bool.false_eq_true, if_false, some_bind', eq_Rule, eq_LiteralS _ _ h.2.2.1]
theorem eq_LineS (x : (List D_Line)) (u : Unit) (h : (x.length ≤ 1099511627776 ∧ ∀ y ∈ x, Sm_Line 1099511627776 y)) : laws_eqLineS (x, x, u) () = some (true, ()) := by
  have hx := h.1
  obtain ⟨v, e⟩ := sameL (F := laws_eqLineS_L0) hx
    (fun i hi => by
      unfold laws_eqLineS_L0
      simp only [lenI_eq, lt_yes hi, if_true, getI_lt hi, some_bind', eqZ_self, eqS_self, eqB_self, notB_true, Bool.false_eq_true, if_false, idxN hi hx (Nat.le_refl _), eq_Line _ _ (h.2 _ (List.getElem_mem hi))])
    ⟨_, by unfold laws_eqLineS_L0; simp only [lenI_eq, lt_no, Bool.false_eq_true, if_false]; rfl⟩
  unfold laws_eqLineS
  simp only [eqZ_self, eqS_self, eqB_self, notB_true, Bool.false_eq_true, if_false, e, some_bind']
theorem eq_Result (x : D_Result) (u : Unit) (h : Sm_Result 1099511627776 x) : laws_eqResult (x, x, u) () = some (true, ()) := by
  unfold laws_eqResult
  simp only [eqZ_self, eqS_self, eqB_self, notB_true, Bool.false_eq_true, if_false, some_bind', eq_Schedule _ _ h.2.1, eq_LineS _ _ h.2.2.2.2.1]
end Go.Proofs.Ytemeabdacejkpaa
