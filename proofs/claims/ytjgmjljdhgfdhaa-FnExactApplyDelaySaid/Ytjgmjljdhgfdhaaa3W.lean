/-
  Plain laws of the functions by which the laws of this seat measure, copy and compare their data. No condition but those that each law states.
-/
import Derived.Test.YtjgmjljdhgfdhaaN30
import Derived.Test.Ytjgmjljdhgfdhaaa3Q
namespace Go.Proofs.Ytjgmjljdhgfdhaa
open Go.Abs
set_option linter.unusedVariables false
set_option linter.unusedSimpArgs false

theorem sz_IntS (x : (List Int)) (left : Int) (u : Unit) (h0 : 0 ≤ left) (h1 : left ≤ 1048576) (h : (x.length ≤ maxLen ∧ ∀ y ∈ x, True)) : ∃ r, laws_szIntS (x, left, u) () = some (r, ()) ∧ (r < 0 ∨ (0 ≤ r ∧ r ≤ left ∧ (x.length ≤ 1048576 ∧ ∀ y ∈ x, True))) := by
  unfold laws_szIntS
  simp only [size_flat x left h0 h1 h.1]
  by_cases hl : left - (x.length : Int) < 0
  · exact ⟨-1, by simp only [neg_yes hl, if_true], .inl (by omega)⟩
  · exact ⟨left - (x.length : Int), by simp only [neg_no (show 0 ≤ left - (x.length : Int) by omega), Bool.false_eq_true, if_false], .inr ⟨by omega, by omega, by omega, fun y _ => trivial⟩⟩
def Sm_Mode (B : Nat) (x : D_Mode) : Prop := True ∧ (x.2.1.length ≤ B ∧ ∀ y ∈ x.2.1, True) ∧ (x.2.2.1.length ≤ B ∧ ∀ y ∈ x.2.2.1, True) ∧ True
theorem smm_Mode {B B' : Nat} (hB : B ≤ B') (x : D_Mode) (h : Sm_Mode B x) : Sm_Mode B' x := ⟨trivial, ⟨Nat.le_trans h.2.1.1 hB, fun y hy => trivial⟩, ⟨Nat.le_trans h.2.2.1.1 hB, fun y hy => trivial⟩, trivial⟩
theorem smf_Mode (x : D_Mode) (h : Ty.fit (.st [.int .i64, .sl 3 (.int .i64), .sl 3 (.int .i64)]) x) : Sm_Mode maxLen x := ⟨trivial, ⟨h.2.1.1, fun y hy => trivial⟩, ⟨h.2.2.1.1, fun y hy => trivial⟩, trivial⟩
theorem sz_Mode (x : D_Mode) (left : Int) (u : Unit) (h0 : 0 ≤ left) (h1 : left ≤ 1048576) (h : Sm_Mode maxLen x) : ∃ r, laws_szMode (x, left, u) () = some (r, ()) ∧ (r < 0 ∨ (0 ≤ r ∧ r ≤ left ∧ Sm_Mode 1048576 x)) := by
  unfold laws_szMode
  obtain ⟨r1, e1, c1⟩ := sz_IntS x.2.1 left () h0 h1 h.2.1
  simp only [e1, some_bind']
  rcases c1 with c1 | ⟨c1, d1, s1⟩
  · exact ⟨-1, by simp only [neg_yes c1, if_true], .inl (by omega)⟩
  simp only [neg_no c1, Bool.false_eq_true, if_false]
  obtain ⟨r2, e2, c2⟩ := sz_IntS x.2.2.1 r1 () c1 (show r1 ≤ 1048576 by omega) h.2.2.1
  simp only [e2, some_bind']
  rcases c2 with c2 | ⟨c2, d2, s2⟩
  · exact ⟨-1, by simp only [neg_yes c2, if_true], .inl (by omega)⟩
  simp only [neg_no c2, Bool.false_eq_true, if_false]
  exact ⟨r2, rfl, .inr ⟨c2, by omega, ⟨trivial, s1, s2, trivial⟩⟩⟩
theorem sz_ModeS (x : (List D_Mode)) (left : Int) (u : Unit) (h0 : 0 ≤ left) (h1 : left ≤ 1048576) (h : (x.length ≤ maxLen ∧ ∀ y ∈ x, Sm_Mode maxLen y)) : ∃ r, laws_szModeS (x, left, u) () = some (r, ()) ∧ (r < 0 ∨ (0 ≤ r ∧ r ≤ left ∧ (x.length ≤ 1048576 ∧ ∀ y ∈ x, Sm_Mode 1048576 y))) := by
  unfold laws_szModeS
  simp only [size_flat x left h0 h1 h.1]
  by_cases hl : left - (x.length : Int) < 0
  · exact ⟨-1, by simp only [neg_yes hl, if_true], .inl (by omega)⟩
  · simp only [neg_no (show 0 ≤ left - (x.length : Int) by omega), Bool.false_eq_true, if_false]
    have hx' : x.length ≤ 1048576 := by omega
    have hs : ∀ (i : Nat) (hi : i < x.length) (l : Int), 0 ≤ l → l ≤ 1048576 → laws_szModeS_L0 ((i : Int), x, l, ()) = some (.ret ((-1), ())) ∨ ∃ r, 0 ≤ r ∧ r ≤ l ∧ (fun y : D_Mode => Sm_Mode 1048576 y) x[i] ∧ laws_szModeS_L0 ((i : Int), x, l, ()) = some (.norm (((i + 1 : Nat) : Int), x, r, ())) := by
      intro i hi l k0 k1
      obtain ⟨r, e, hr⟩ := sz_Mode x[i] l () k0 k1 (h.2 _ (List.getElem_mem hi))
      unfold laws_szModeS_L0
      simp only [lenI_eq, lt_yes hi, if_true, getI_lt hi, some_bind', e]
      rcases hr with hr | ⟨r0, r1, r2⟩
      · left; simp only [neg_yes hr, if_true]
      · right; exact ⟨r, r0, r1, r2, by simp only [neg_no r0, Bool.false_eq_true, if_false, idx_next hi hx']⟩
    have he : ∀ l : Int, ∃ b i', laws_szModeS_L0 ((x.length : Int), x, l, ()) = some (.exit (Sum.inl (b, i', x, l, ()))) := fun l => ⟨false, (x.length : Int), by unfold laws_szModeS_L0; simp only [lenI_eq, lt_no, Bool.false_eq_true, if_false]⟩
    rcases sizeL (fun y : D_Mode => Sm_Mode 1048576 y) ((-1 : Int), ()) (by omega) (show 0 ≤ left - (x.length : Int) by omega) (by omega) hs he with e | ⟨b, i', r, k1, k2, k3, e⟩
    · exact ⟨-1, by simp only [e, some_bind'], .inl (by omega)⟩
    · exact ⟨r, by simp only [e, some_bind'], .inr ⟨k1, by omega, hx', k3⟩⟩
def Sm_Activity (B : Nat) (x : D_Activity) : Prop := x.1.length ≤ B ∧ True ∧ (x.2.2.1.length ≤ B ∧ ∀ y ∈ x.2.2.1, Sm_Mode B y) ∧ True
theorem smm_Activity {B B' : Nat} (hB : B ≤ B') (x : D_Activity) (h : Sm_Activity B x) : Sm_Activity B' x := ⟨Nat.le_trans h.1 hB, trivial, ⟨Nat.le_trans h.2.2.1.1 hB, fun y hy => smm_Mode hB _ (h.2.2.1.2 y hy)⟩, trivial⟩
theorem smf_Activity (x : D_Activity) (h : Ty.fit (.st [.str, .int .i64, .sl 123 (.st [.int .i64, .sl 3 (.int .i64), .sl 3 (.int .i64)])]) x) : Sm_Activity maxLen x := ⟨h.1, trivial, ⟨h.2.2.1.1, fun y hy => smf_Mode _ (h.2.2.1.2 y hy)⟩, trivial⟩
theorem sz_Activity (x : D_Activity) (left : Int) (u : Unit) (h0 : 0 ≤ left) (h1 : left ≤ 1048576) (h : Sm_Activity maxLen x) : ∃ r, laws_szActivity (x, left, u) () = some (r, ()) ∧ (r < 0 ∨ (0 ≤ r ∧ r ≤ left ∧ Sm_Activity 1048576 x)) := by
  unfold laws_szActivity
  obtain ⟨r0, e0, c0⟩ := size_step x.1 left h0 h1 h.1
  simp only [e0]
  rcases c0 with c0 | ⟨c0, d0, s0⟩
  · exact ⟨-1, by simp only [neg_yes c0, if_true], .inl (by omega)⟩
  simp only [neg_no c0, Bool.false_eq_true, if_false]
  obtain ⟨r2, e2, c2⟩ := sz_ModeS x.2.2.1 r0 () c0 (show r0 ≤ 1048576 by omega) h.2.2.1
  simp only [e2, some_bind']
  rcases c2 with c2 | ⟨c2, d2, s2⟩
  · exact ⟨-1, by simp only [neg_yes c2, if_true], .inl (by omega)⟩
  simp only [neg_no c2, Bool.false_eq_true, if_false]
  exact ⟨r2, rfl, .inr ⟨c2, by omega, ⟨s0, trivial, s2, trivial⟩⟩⟩
theorem sz_ActivityS (x : (List D_Activity)) (left : Int) (u : Unit) (h0 : 0 ≤ left) (h1 : left ≤ 1048576) (h : (x.length ≤ maxLen ∧ ∀ y ∈ x, Sm_Activity maxLen y)) : ∃ r, laws_szActivityS (x, left, u) () = some (r, ()) ∧ (r < 0 ∨ (0 ≤ r ∧ r ≤ left ∧ (x.length ≤ 1048576 ∧ ∀ y ∈ x, Sm_Activity 1048576 y))) := by
  unfold laws_szActivityS
  simp only [size_flat x left h0 h1 h.1]
  by_cases hl : left - (x.length : Int) < 0
  · exact ⟨-1, by simp only [neg_yes hl, if_true], .inl (by omega)⟩
  · simp only [neg_no (show 0 ≤ left - (x.length : Int) by omega), Bool.false_eq_true, if_false]
    have hx' : x.length ≤ 1048576 := by omega
    have hs : ∀ (i : Nat) (hi : i < x.length) (l : Int), 0 ≤ l → l ≤ 1048576 → laws_szActivityS_L0 ((i : Int), x, l, ()) = some (.ret ((-1), ())) ∨ ∃ r, 0 ≤ r ∧ r ≤ l ∧ (fun y : D_Activity => Sm_Activity 1048576 y) x[i] ∧ laws_szActivityS_L0 ((i : Int), x, l, ()) = some (.norm (((i + 1 : Nat) : Int), x, r, ())) := by
      intro i hi l k0 k1
      obtain ⟨r, e, hr⟩ := sz_Activity x[i] l () k0 k1 (h.2 _ (List.getElem_mem hi))
      unfold laws_szActivityS_L0
      simp only [lenI_eq, lt_yes hi, if_true, getI_lt hi, some_bind', e]
      rcases hr with hr | ⟨r0, r1, r2⟩
      · left; simp only [neg_yes hr, if_true]
      · right; exact ⟨r, r0, r1, r2, by simp only [neg_no r0, Bool.false_eq_true, if_false, idx_next hi hx']⟩
    have he : ∀ l : Int, ∃ b i', laws_szActivityS_L0 ((x.length : Int), x, l, ()) = some (.exit (Sum.inl (b, i', x, l, ()))) := fun l => ⟨false, (x.length : Int), by unfold laws_szActivityS_L0; simp only [lenI_eq, lt_no, Bool.false_eq_true, if_false]⟩
    rcases sizeL (fun y : D_Activity => Sm_Activity 1048576 y) ((-1 : Int), ()) (by omega) (show 0 ≤ left - (x.length : Int) by omega) (by omega) hs he with e | ⟨b, i', r, k1, k2, k3, e⟩
    · exact ⟨-1, by simp only [e, some_bind'], .inl (by omega)⟩
    · exact ⟨r, by simp only [e, some_bind'], .inr ⟨k1, by omega, hx', k3⟩⟩
def Sm_Link (B : Nat) (x : D_Link) : Prop := True ∧ True ∧ True ∧ True ∧ True
theorem smI_Link (B : Nat) (x : D_Link) : Sm_Link B x := ⟨trivial, trivial, trivial, trivial, trivial⟩
theorem smm_Link {B B' : Nat} (hB : B ≤ B') (x : D_Link) (h : Sm_Link B x) : Sm_Link B' x := ⟨trivial, trivial, trivial, trivial, trivial⟩
theorem smf_Link (x : D_Link) (h : Ty.fit (.st [.int .i64, .int .i64, .bool, .int .i64]) x) : Sm_Link maxLen x := ⟨trivial, trivial, trivial, trivial, trivial⟩
theorem sz_LinkS (x : (List D_Link)) (left : Int) (u : Unit) (h0 : 0 ≤ left) (h1 : left ≤ 1048576) (h : (x.length ≤ maxLen ∧ ∀ y ∈ x, Sm_Link maxLen y)) : ∃ r, laws_szLinkS (x, left, u) () = some (r, ()) ∧ (r < 0 ∨ (0 ≤ r ∧ r ≤ left ∧ (x.length ≤ 1048576 ∧ ∀ y ∈ x, Sm_Link 1048576 y))) := by
  unfold laws_szLinkS
  simp only [size_flat x left h0 h1 h.1]
  by_cases hl : left - (x.length : Int) < 0
  · exact ⟨-1, by simp only [neg_yes hl, if_true], .inl (by omega)⟩
  · exact ⟨left - (x.length : Int), by simp only [neg_no (show 0 ≤ left - (x.length : Int) by omega), Bool.false_eq_true, if_false], .inr ⟨by omega, by omega, by omega, fun y _ => smI_Link _ _⟩⟩
def Sm_Step (B : Nat) (x : D_Step) : Prop := True ∧ True ∧ True
theorem smI_Step (B : Nat) (x : D_Step) : Sm_Step B x := ⟨trivial, trivial, trivial⟩
theorem smm_Step {B B' : Nat} (hB : B ≤ B') (x : D_Step) (h : Sm_Step B x) : Sm_Step B' x := ⟨trivial, trivial, trivial⟩
theorem smf_Step (x : D_Step) (h : Ty.fit (.st [.int .i64, .int .i64]) x) : Sm_Step maxLen x := ⟨trivial, trivial, trivial⟩
theorem sz_StepS (x : (List D_Step)) (left : Int) (u : Unit) (h0 : 0 ≤ left) (h1 : left ≤ 1048576) (h : (x.length ≤ maxLen ∧ ∀ y ∈ x, Sm_Step maxLen y)) : ∃ r, laws_szStepS (x, left, u) () = some (r, ()) ∧ (r < 0 ∨ (0 ≤ r ∧ r ≤ left ∧ (x.length ≤ 1048576 ∧ ∀ y ∈ x, Sm_Step 1048576 y))) := by
  unfold laws_szStepS
  simp only [size_flat x left h0 h1 h.1]
  by_cases hl : left - (x.length : Int) < 0
  · exact ⟨-1, by simp only [neg_yes hl, if_true], .inl (by omega)⟩
  · exact ⟨left - (x.length : Int), by simp only [neg_no (show 0 ≤ left - (x.length : Int) by omega), Bool.false_eq_true, if_false], .inr ⟨by omega, by omega, by omega, fun y _ => smI_Step _ _⟩⟩
theorem sz_IntSS (x : (List (List Int))) (left : Int) (u : Unit) (h0 : 0 ≤ left) (h1 : left ≤ 1048576) (h : (x.length ≤ maxLen ∧ ∀ y ∈ x, (y.length ≤ maxLen ∧ ∀ z ∈ y, True))) : ∃ r, laws_szIntSS (x, left, u) () = some (r, ()) ∧ (r < 0 ∨ (0 ≤ r ∧ r ≤ left ∧ (x.length ≤ 1048576 ∧ ∀ y ∈ x, (y.length ≤ 1048576 ∧ ∀ z ∈ y, True)))) := by
  unfold laws_szIntSS
  simp only [size_flat x left h0 h1 h.1]
  by_cases hl : left - (x.length : Int) < 0
  · exact ⟨-1, by simp only [neg_yes hl, if_true], .inl (by omega)⟩
  · simp only [neg_no (show 0 ≤ left - (x.length : Int) by omega), Bool.false_eq_true, if_false]
    have hx' : x.length ≤ 1048576 := by omega
    have hs : ∀ (i : Nat) (hi : i < x.length) (l : Int), 0 ≤ l → l ≤ 1048576 → laws_szIntSS_L0 ((i : Int), x, l, ()) = some (.ret ((-1), ())) ∨ ∃ r, 0 ≤ r ∧ r ≤ l ∧ (fun y : (List Int) => (y.length ≤ 1048576 ∧ ∀ z ∈ y, True)) x[i] ∧ laws_szIntSS_L0 ((i : Int), x, l, ()) = some (.norm (((i + 1 : Nat) : Int), x, r, ())) := by
      intro i hi l k0 k1
      obtain ⟨r, e, hr⟩ := sz_IntS x[i] l () k0 k1 (h.2 _ (List.getElem_mem hi))
      unfold laws_szIntSS_L0
      simp only [lenI_eq, lt_yes hi, if_true, getI_lt hi, some_bind', e]
      rcases hr with hr | ⟨r0, r1, r2⟩
      · left; simp only [neg_yes hr, if_true]
      · right; exact ⟨r, r0, r1, r2, by simp only [neg_no r0, Bool.false_eq_true, if_false, idx_next hi hx']⟩
    have he : ∀ l : Int, ∃ b i', laws_szIntSS_L0 ((x.length : Int), x, l, ()) = some (.exit (Sum.inl (b, i', x, l, ()))) := fun l => ⟨false, (x.length : Int), by unfold laws_szIntSS_L0; simp only [lenI_eq, lt_no, Bool.false_eq_true, if_false]⟩
    rcases sizeL (fun y : (List Int) => (y.length ≤ 1048576 ∧ ∀ z ∈ y, True)) ((-1 : Int), ()) (by omega) (show 0 ≤ left - (x.length : Int) by omega) (by omega) hs he with e | ⟨b, i', r, k1, k2, k3, e⟩
    · exact ⟨-1, by simp only [e, some_bind'], .inl (by omega)⟩
    · exact ⟨r, by simp only [e, some_bind'], .inr ⟨k1, by omega, hx', k3⟩⟩
def Sm_Resource (B : Nat) (x : D_Resource) : Prop := (x.1.length ≤ B ∧ ∀ y ∈ x.1, Sm_Step B y) ∧ (x.2.1.length ≤ B ∧ ∀ y ∈ x.2.1, (y.length ≤ B ∧ ∀ z ∈ y, True)) ∧ True
theorem smm_Resource {B B' : Nat} (hB : B ≤ B') (x : D_Resource) (h : Sm_Resource B x) : Sm_Resource B' x := ⟨⟨Nat.le_trans h.1.1 hB, fun y hy => smm_Step hB _ (h.1.2 y hy)⟩, ⟨Nat.le_trans h.2.1.1 hB, fun y hy => ⟨Nat.le_trans (h.2.1.2 y hy).1 hB, fun z hz => trivial⟩⟩, trivial⟩
theorem smf_Resource (x : D_Resource) (h : Ty.fit (.st [.sl 127 (.st [.int .i64, .int .i64]), .sl 25 (.sl 3 (.int .i64))]) x) : Sm_Resource maxLen x := ⟨⟨h.1.1, fun y hy => smf_Step _ (h.1.2 y hy)⟩, ⟨h.2.1.1, fun y hy => ⟨(h.2.1.2 y hy).1, fun z hz => trivial⟩⟩, trivial⟩
theorem sz_Resource (x : D_Resource) (left : Int) (u : Unit) (h0 : 0 ≤ left) (h1 : left ≤ 1048576) (h : Sm_Resource maxLen x) : ∃ r, laws_szResource (x, left, u) () = some (r, ()) ∧ (r < 0 ∨ (0 ≤ r ∧ r ≤ left ∧ Sm_Resource 1048576 x)) := by
  unfold laws_szResource
  obtain ⟨r0, e0, c0⟩ := sz_StepS x.1 left () h0 h1 h.1
  simp only [e0, some_bind']
  rcases c0 with c0 | ⟨c0, d0, s0⟩
  · exact ⟨-1, by simp only [neg_yes c0, if_true], .inl (by omega)⟩
  simp only [neg_no c0, Bool.false_eq_true, if_false]
  obtain ⟨r1, e1, c1⟩ := sz_IntSS x.2.1 r0 () c0 (show r0 ≤ 1048576 by omega) h.2.1
  simp only [e1, some_bind']
  rcases c1 with c1 | ⟨c1, d1, s1⟩
  · exact ⟨-1, by simp only [neg_yes c1, if_true], .inl (by omega)⟩
  simp only [neg_no c1, Bool.false_eq_true, if_false]
  exact ⟨r1, rfl, .inr ⟨c1, by omega, ⟨s0, s1, trivial⟩⟩⟩
theorem sz_ResourceS (x : (List D_Resource)) (left : Int) (u : Unit) (h0 : 0 ≤ left) (h1 : left ≤ 1048576) (h : (x.length ≤ maxLen ∧ ∀ y ∈ x, Sm_Resource maxLen y)) : ∃ r, laws_szResourceS (x, left, u) () = some (r, ()) ∧ (r < 0 ∨ (0 ≤ r ∧ r ≤ left ∧ (x.length ≤ 1048576 ∧ ∀ y ∈ x, Sm_Resource 1048576 y))) := by
  unfold laws_szResourceS
  simp only [size_flat x left h0 h1 h.1]
  by_cases hl : left - (x.length : Int) < 0
  · exact ⟨-1, by simp only [neg_yes hl, if_true], .inl (by omega)⟩
  · simp only [neg_no (show 0 ≤ left - (x.length : Int) by omega), Bool.false_eq_true, if_false]
    have hx' : x.length ≤ 1048576 := by omega
    have hs : ∀ (i : Nat) (hi : i < x.length) (l : Int), 0 ≤ l → l ≤ 1048576 → laws_szResourceS_L0 ((i : Int), x, l, ()) = some (.ret ((-1), ())) ∨ ∃ r, 0 ≤ r ∧ r ≤ l ∧ (fun y : D_Resource => Sm_Resource 1048576 y) x[i] ∧ laws_szResourceS_L0 ((i : Int), x, l, ()) = some (.norm (((i + 1 : Nat) : Int), x, r, ())) := by
      intro i hi l k0 k1
      obtain ⟨r, e, hr⟩ := sz_Resource x[i] l () k0 k1 (h.2 _ (List.getElem_mem hi))
      unfold laws_szResourceS_L0
      simp only [lenI_eq, lt_yes hi, if_true, getI_lt hi, some_bind', e]
      rcases hr with hr | ⟨r0, r1, r2⟩
      · left; simp only [neg_yes hr, if_true]
      · right; exact ⟨r, r0, r1, r2, by simp only [neg_no r0, Bool.false_eq_true, if_false, idx_next hi hx']⟩
    have he : ∀ l : Int, ∃ b i', laws_szResourceS_L0 ((x.length : Int), x, l, ()) = some (.exit (Sum.inl (b, i', x, l, ()))) := fun l => ⟨false, (x.length : Int), by unfold laws_szResourceS_L0; simp only [lenI_eq, lt_no, Bool.false_eq_true, if_false]⟩
    rcases sizeL (fun y : D_Resource => Sm_Resource 1048576 y) ((-1 : Int), ()) (by omega) (show 0 ≤ left - (x.length : Int) by omega) (by omega) hs he with e | ⟨b, i', r, k1, k2, k3, e⟩
    · exact ⟨-1, by simp only [e, some_bind'], .inl (by omega)⟩
    · exact ⟨r, by simp only [e, some_bind'], .inr ⟨k1, by omega, hx', k3⟩⟩
def Sm_Project (B : Nat) (x : D_Project) : Prop := True ∧ (x.2.1.length ≤ B ∧ ∀ y ∈ x.2.1, Sm_Activity B y) ∧ (x.2.2.1.length ≤ B ∧ ∀ y ∈ x.2.2.1, Sm_Link B y) ∧ (x.2.2.2.1.length ≤ B ∧ ∀ y ∈ x.2.2.2.1, Sm_Resource B y) ∧ (x.2.2.2.2.1.length ≤ B ∧ ∀ y ∈ x.2.2.2.2.1, True) ∧ True
theorem smm_Project {B B' : Nat} (hB : B ≤ B') (x : D_Project) (h : Sm_Project B x) : Sm_Project B' x := ⟨trivial, ⟨Nat.le_trans h.2.1.1 hB, fun y hy => smm_Activity hB _ (h.2.1.2 y hy)⟩, ⟨Nat.le_trans h.2.2.1.1 hB, fun y hy => smm_Link hB _ (h.2.2.1.2 y hy)⟩, ⟨Nat.le_trans h.2.2.2.1.1 hB, fun y hy => smm_Resource hB _ (h.2.2.2.1.2 y hy)⟩, ⟨Nat.le_trans h.2.2.2.2.1.1 hB, fun y hy => trivial⟩, trivial⟩
theorem smf_Project (x : D_Project) (h : Ty.fit (.st [.int .i64, .sl 77 (.st [.str, .int .i64, .sl 123 (.st [.int .i64, .sl 3 (.int .i64), .sl 3 (.int .i64)])]), .sl 95 (.st [.int .i64, .int .i64, .bool, .int .i64]), .sl 81 (.st [.sl 127 (.st [.int .i64, .int .i64]), .sl 25 (.sl 3 (.int .i64))]), .sl 3 (.int .i64)]) x) : Sm_Project maxLen x := ⟨trivial, ⟨h.2.1.1, fun y hy => smf_Activity _ (h.2.1.2 y hy)⟩, ⟨h.2.2.1.1, fun y hy => smf_Link _ (h.2.2.1.2 y hy)⟩, ⟨h.2.2.2.1.1, fun y hy => smf_Resource _ (h.2.2.2.1.2 y hy)⟩, ⟨h.2.2.2.2.1.1, fun y hy => trivial⟩, trivial⟩
theorem sz_Project (x : D_Project) (left : Int) (u : Unit) (h0 : 0 ≤ left) (h1 : left ≤ 1048576) (h : Sm_Project maxLen x) : ∃ r, laws_szProject (x, left, u) () = some (r, ()) ∧ (r < 0 ∨ (0 ≤ r ∧ r ≤ left ∧ Sm_Project 1048576 x)) := by
  unfold laws_szProject
  obtain ⟨r1, e1, c1⟩ := sz_ActivityS x.2.1 left () h0 h1 h.2.1
  simp only [e1, some_bind']
  rcases c1 with c1 | ⟨c1, d1, s1⟩
  · exact ⟨-1, by simp only [neg_yes c1, if_true], .inl (by omega)⟩
  simp only [neg_no c1, Bool.false_eq_true, if_false]
  obtain ⟨r2, e2, c2⟩ := sz_LinkS x.2.2.1 r1 () c1 (show r1 ≤ 1048576 by omega) h.2.2.1
  simp only [e2, some_bind']
  rcases c2 with c2 | ⟨c2, d2, s2⟩
  · exact ⟨-1, by simp only [neg_yes c2, if_true], .inl (by omega)⟩
  simp only [neg_no c2, Bool.false_eq_true, if_false]
  obtain ⟨r3, e3, c3⟩ := sz_ResourceS x.2.2.2.1 r2 () c2 (show r2 ≤ 1048576 by omega) h.2.2.2.1
  simp only [e3, some_bind']
  rcases c3 with c3 | ⟨c3, d3, s3⟩
  · exact ⟨-1, by simp only [neg_yes c3, if_true], .inl (by omega)⟩
  simp only [neg_no c3, Bool.false_eq_true, if_false]
  obtain ⟨r4, e4, c4⟩ := sz_IntS x.2.2.2.2.1 r3 () c3 (show r3 ≤ 1048576 by omega) h.2.2.2.2.1
  simp only [e4, some_bind']
  rcases c4 with c4 | ⟨c4, d4, s4⟩
  · exact ⟨-1, by simp only [neg_yes c4, if_true], .inl (by omega)⟩
  simp only [neg_no c4, Bool.false_eq_true, if_false]
  exact ⟨r4, rfl, .inr ⟨c4, by omega, ⟨trivial, s1, s2, s3, s4, trivial⟩⟩⟩
theorem to_IntS (x : (List Int)) (u : Unit) (h : (x.length ≤ 1048576 ∧ ∀ y ∈ x, True)) : laws_toIntS (x, u) () = some (x, ()) := by
  have hx := h.1
  obtain ⟨b, i', e⟩ := copyL (z := (0 : Int)) (F := laws_toIntS_L0) (show x.length ≤ 1099511627776 by omega)
    (fun i hi out hl => by
      unfold laws_toIntS_L0
      simp only [lenI_eq, lt_yes hi, if_true, getI_lt hi, getI_lt (show i < out.length by omega), some_bind', idx_next hi hx])
    (fun out hl => ⟨false, (x.length : Int), by unfold laws_toIntS_L0; simp only [lenI_eq, lt_no, Bool.false_eq_true, if_false]⟩)
  unfold laws_toIntS
  simp only [lenI_eq, eqZ_self, if_true, zerosN (n := x.length) (z := (0 : Int)) (by omega), some_bind', e]
theorem to_Mode (x : D_Mode) (u : Unit) (h : Sm_Mode 1048576 x) : laws_toMode (x, u) () = some (x, ()) := by
  unfold laws_toMode
  simp only [to_IntS _ _ h.2.1, to_IntS _ _ h.2.2.1, some_bind']
theorem to_ModeS (x : (List D_Mode)) (u : Unit) (h : (x.length ≤ 1048576 ∧ ∀ y ∈ x, Sm_Mode 1048576 y)) : laws_toModeS (x, u) () = some (x, ()) := by
  have hx := h.1
  obtain ⟨b, i', e⟩ := copyL (z := ((0 : Int), ([] : (List Int)), ([] : (List Int)), ())) (F := laws_toModeS_L0) (show x.length ≤ 1099511627776 by omega)
    (fun i hi out hl => by
      unfold laws_toModeS_L0
      simp only [lenI_eq, lt_yes hi, if_true, getI_lt hi, getI_lt (show i < out.length by omega), some_bind', idx_next hi hx, to_Mode _ _ (h.2 _ (List.getElem_mem hi))])
    (fun out hl => ⟨false, (x.length : Int), by unfold laws_toModeS_L0; simp only [lenI_eq, lt_no, Bool.false_eq_true, if_false]⟩)
  unfold laws_toModeS
  simp only [lenI_eq, eqZ_self, if_true, zerosN (n := x.length) (z := ((0 : Int), ([] : (List Int)), ([] : (List Int)), ())) (by omega), some_bind', e]
theorem to_Activity (x : D_Activity) (u : Unit) (h : Sm_Activity 1048576 x) : laws_toActivity (x, u) () = some (x, ()) := by
  unfold laws_toActivity
  simp only [to_ModeS _ _ h.2.2.1, some_bind']
theorem to_ActivityS (x : (List D_Activity)) (u : Unit) (h : (x.length ≤ 1048576 ∧ ∀ y ∈ x, Sm_Activity 1048576 y)) : laws_toActivityS (x, u) () = some (x, ()) := by
  have hx := h.1
  obtain ⟨b, i', e⟩ := copyL (z := (([] : List UInt8), (0 : Int), ([] : (List D_Mode)), ())) (F := laws_toActivityS_L0) (show x.length ≤ 1099511627776 by omega)
    (fun i hi out hl => by
      unfold laws_toActivityS_L0
      simp only [lenI_eq, lt_yes hi, if_true, getI_lt hi, getI_lt (show i < out.length by omega), some_bind', idx_next hi hx, to_Activity _ _ (h.2 _ (List.getElem_mem hi))])
    (fun out hl => ⟨false, (x.length : Int), by unfold laws_toActivityS_L0; simp only [lenI_eq, lt_no, Bool.false_eq_true, if_false]⟩)
  unfold laws_toActivityS
  simp only [lenI_eq, eqZ_self, if_true, zerosN (n := x.length) (z := (([] : List UInt8), (0 : Int), ([] : (List D_Mode)), ())) (by omega), some_bind', e]
theorem to_Link (x : D_Link) (u : Unit) : laws_toLink (x, u) () = some (x, ()) := by
  unfold laws_toLink
  rfl
theorem to_LinkS (x : (List D_Link)) (u : Unit) (h : (x.length ≤ 1048576 ∧ ∀ y ∈ x, Sm_Link 1048576 y)) : laws_toLinkS (x, u) () = some (x, ()) := by
  have hx := h.1
  obtain ⟨b, i', e⟩ := copyL (z := ((0 : Int), (0 : Int), false, (0 : Int), ())) (F := laws_toLinkS_L0) (show x.length ≤ 1099511627776 by omega)
    (fun i hi out hl => by
      unfold laws_toLinkS_L0
      simp only [lenI_eq, lt_yes hi, if_true, getI_lt hi, getI_lt (show i < out.length by omega), some_bind', idx_next hi hx, to_Link])
    (fun out hl => ⟨false, (x.length : Int), by unfold laws_toLinkS_L0; simp only [lenI_eq, lt_no, Bool.false_eq_true, if_false]⟩)
  unfold laws_toLinkS
  simp only [lenI_eq, eqZ_self, if_true, zerosN (n := x.length) (z := ((0 : Int), (0 : Int), false, (0 : Int), ())) (by omega), some_bind', e]
theorem to_Step (x : D_Step) (u : Unit) : laws_toStep (x, u) () = some (x, ()) := by
  unfold laws_toStep
  rfl
theorem to_StepS (x : (List D_Step)) (u : Unit) (h : (x.length ≤ 1048576 ∧ ∀ y ∈ x, Sm_Step 1048576 y)) : laws_toStepS (x, u) () = some (x, ()) := by
  have hx := h.1
  obtain ⟨b, i', e⟩ := copyL (z := ((0 : Int), (0 : Int), ())) (F := laws_toStepS_L0) (show x.length ≤ 1099511627776 by omega)
    (fun i hi out hl => by
      unfold laws_toStepS_L0
      simp only [lenI_eq, lt_yes hi, if_true, getI_lt hi, getI_lt (show i < out.length by omega), some_bind', idx_next hi hx, to_Step])
    (fun out hl => ⟨false, (x.length : Int), by unfold laws_toStepS_L0; simp only [lenI_eq, lt_no, Bool.false_eq_true, if_false]⟩)
  unfold laws_toStepS
  simp only [lenI_eq, eqZ_self, if_true, zerosN (n := x.length) (z := ((0 : Int), (0 : Int), ())) (by omega), some_bind', e]
theorem to_IntSS (x : (List (List Int))) (u : Unit) (h : (x.length ≤ 1048576 ∧ ∀ y ∈ x, (y.length ≤ 1048576 ∧ ∀ z ∈ y, True))) : laws_toIntSS (x, u) () = some (x, ()) := by
  have hx := h.1
  obtain ⟨b, i', e⟩ := copyL (z := ([] : (List Int))) (F := laws_toIntSS_L0) (show x.length ≤ 1099511627776 by omega)
    (fun i hi out hl => by
      unfold laws_toIntSS_L0
      simp only [lenI_eq, lt_yes hi, if_true, getI_lt hi, getI_lt (show i < out.length by omega), some_bind', idx_next hi hx, to_IntS _ _ (h.2 _ (List.getElem_mem hi))])
    (fun out hl => ⟨false, (x.length : Int), by unfold laws_toIntSS_L0; simp only [lenI_eq, lt_no, Bool.false_eq_true, if_false]⟩)
  unfold laws_toIntSS
  simp only [lenI_eq, eqZ_self, if_true, zerosN (n := x.length) (z := ([] : (List Int))) (by omega), some_bind', e]
theorem to_Resource (x : D_Resource) (u : Unit) (h : Sm_Resource 1048576 x) : laws_toResource (x, u) () = some (x, ()) := by
  unfold laws_toResource
  simp only [to_StepS _ _ h.1, to_IntSS _ _ h.2.1, some_bind']
theorem to_ResourceS (x : (List D_Resource)) (u : Unit) (h : (x.length ≤ 1048576 ∧ ∀ y ∈ x, Sm_Resource 1048576 y)) : laws_toResourceS (x, u) () = some (x, ()) := by
  have hx := h.1
  obtain ⟨b, i', e⟩ := copyL (z := (([] : (List D_Step)), ([] : (List (List Int))), ())) (F := laws_toResourceS_L0) (show x.length ≤ 1099511627776 by omega)
    (fun i hi out hl => by
      unfold laws_toResourceS_L0
      simp only [lenI_eq, lt_yes hi, if_true, getI_lt hi, getI_lt (show i < out.length by omega), some_bind', idx_next hi hx, to_Resource _ _ (h.2 _ (List.getElem_mem hi))])
    (fun out hl => ⟨false, (x.length : Int), by unfold laws_toResourceS_L0; simp only [lenI_eq, lt_no, Bool.false_eq_true, if_false]⟩)
  unfold laws_toResourceS
  simp only [lenI_eq, eqZ_self, if_true, zerosN (n := x.length) (z := (([] : (List D_Step)), ([] : (List (List Int))), ())) (by omega), some_bind', e]
theorem to_Project (x : D_Project) (u : Unit) (h : Sm_Project 1048576 x) : laws_toProject (x, u) () = some (x, ()) := by
  unfold laws_toProject
  simp only [to_ActivityS _ _ h.2.1, to_LinkS _ _ h.2.2.1, to_ResourceS _ _ h.2.2.2.1, to_IntS _ _ h.2.2.2.2.1, some_bind']
def Sm_Delay (B : Nat) (x : D_Delay) : Prop := True ∧ True ∧ True ∧ True ∧ True
theorem smI_Delay (B : Nat) (x : D_Delay) : Sm_Delay B x := ⟨trivial, trivial, trivial, trivial, trivial⟩
theorem smm_Delay {B B' : Nat} (hB : B ≤ B') (x : D_Delay) (h : Sm_Delay B x) : Sm_Delay B' x := ⟨trivial, trivial, trivial, trivial, trivial⟩
theorem smf_Delay (x : D_Delay) (h : Ty.fit (.st [.int .i64, .int .i64, .int .i64, .int .i64]) x) : Sm_Delay maxLen x := ⟨trivial, trivial, trivial, trivial, trivial⟩
theorem to_Delay (x : D_Delay) (u : Unit) : laws_toDelay (x, u) () = some (x, ()) := by
  unfold laws_toDelay
  rfl
theorem eq_IntS (x : (List Int)) (u : Unit) (h : (x.length ≤ 1099511627776 ∧ ∀ y ∈ x, True)) : laws_eqIntS (x, x, u) () = some (true, ()) := by
  have hx := h.1
  obtain ⟨v, e⟩ := sameL (F := laws_eqIntS_L0) hx
    (fun i hi => by
      unfold laws_eqIntS_L0
      simp only [lenI_eq, lt_yes hi, if_true, getI_lt hi, some_bind', eqZ_self, eqS_self, eqB_self, notB_true, Bool.false_eq_true, if_false, idxN hi hx (Nat.le_refl _)])
    ⟨_, by unfold laws_eqIntS_L0; simp only [lenI_eq, lt_no, Bool.false_eq_true, if_false]; rfl⟩
  unfold laws_eqIntS
  simp only [eqZ_self, eqS_self, eqB_self, notB_true, Bool.false_eq_true, if_false, e, some_bind']
theorem eq_Mode (x : D_Mode) (u : Unit) (h : Sm_Mode 1099511627776 x) : laws_eqMode (x, x, u) () = some (true, ()) := by
  unfold laws_eqMode
  simp only [eqZ_self, eqS_self, eqB_self, notB_true, Bool.false_eq_true, if_false, some_bind', eq_IntS _ _ h.2.1, eq_IntS _ _ h.2.2.1]
theorem eq_ModeS (x : (List D_Mode)) (u : Unit) (h : (x.length ≤ 1099511627776 ∧ ∀ y ∈ x, Sm_Mode 1099511627776 y)) : laws_eqModeS (x, x, u) () = some (true, ()) := by
  have hx := h.1
  obtain ⟨v, e⟩ := sameL (F := laws_eqModeS_L0) hx
    (fun i hi => by
      unfold laws_eqModeS_L0
      simp only [lenI_eq, lt_yes hi, if_true, getI_lt hi, some_bind', eqZ_self, eqS_self, eqB_self, notB_true, Bool.false_eq_true, if_false, idxN hi hx (Nat.le_refl _), eq_Mode _ _ (h.2 _ (List.getElem_mem hi))])
    ⟨_, by unfold laws_eqModeS_L0; simp only [lenI_eq, lt_no, Bool.false_eq_true, if_false]; rfl⟩
  unfold laws_eqModeS
  simp only [eqZ_self, eqS_self, eqB_self, notB_true, Bool.false_eq_true, if_false, e, some_bind']
theorem eq_Activity (x : D_Activity) (u : Unit) (h : Sm_Activity 1099511627776 x) : laws_eqActivity (x, x, u) () = some (true, ()) := by
  unfold laws_eqActivity
  simp only [eqZ_self, eqS_self, eqB_self, notB_true, Bool.false_eq_true, if_false, some_bind', eq_ModeS _ _ h.2.2.1]
theorem eq_ActivityS (x : (List D_Activity)) (u : Unit) (h : (x.length ≤ 1099511627776 ∧ ∀ y ∈ x, Sm_Activity 1099511627776 y)) : laws_eqActivityS (x, x, u) () = some (true, ()) := by
  have hx := h.1
  obtain ⟨v, e⟩ := sameL (F := laws_eqActivityS_L0) hx
    (fun i hi => by
      unfold laws_eqActivityS_L0
      simp only [lenI_eq, lt_yes hi, if_true, getI_lt hi, some_bind', eqZ_self, eqS_self, eqB_self, notB_true, Bool.false_eq_true, if_false, idxN hi hx (Nat.le_refl _), eq_Activity _ _ (h.2 _ (List.getElem_mem hi))])
    ⟨_, by unfold laws_eqActivityS_L0; simp only [lenI_eq, lt_no, Bool.false_eq_true, if_false]; rfl⟩
  unfold laws_eqActivityS
  simp only [eqZ_self, eqS_self, eqB_self, notB_true, Bool.false_eq_true, if_false, e, some_bind']
theorem eq_Link (x : D_Link) (u : Unit) : laws_eqLink (x, x, u) () = some (true, ()) := by
  unfold laws_eqLink
  simp only [eqZ_self, eqS_self, eqB_self, notB_true, Bool.false_eq_true, if_false, some_bind']
theorem eq_LinkS (x : (List D_Link)) (u : Unit) (h : (x.length ≤ 1099511627776 ∧ ∀ y ∈ x, Sm_Link 1099511627776 y)) : laws_eqLinkS (x, x, u) () = some (true, ()) := by
  have hx := h.1
  obtain ⟨v, e⟩ := sameL (F := laws_eqLinkS_L0) hx
    (fun i hi => by
      unfold laws_eqLinkS_L0
      simp only [lenI_eq, lt_yes hi, if_true, getI_lt hi, some_bind', eqZ_self, eqS_self, eqB_self, notB_true, Bool.false_eq_true, if_false, idxN hi hx (Nat.le_refl _), eq_Link])
    ⟨_, by unfold laws_eqLinkS_L0; simp only [lenI_eq, lt_no, Bool.false_eq_true, if_false]; rfl⟩
  unfold laws_eqLinkS
  simp only [eqZ_self, eqS_self, eqB_self, notB_true, Bool.false_eq_true, if_false, e, some_bind']
theorem eq_Step (x : D_Step) (u : Unit) : laws_eqStep (x, x, u) () = some (true, ()) := by
  unfold laws_eqStep
  simp only [eqZ_self, eqS_self, eqB_self, notB_true, Bool.false_eq_true, if_false, some_bind']
theorem eq_StepS (x : (List D_Step)) (u : Unit) (h : (x.length ≤ 1099511627776 ∧ ∀ y ∈ x, Sm_Step 1099511627776 y)) : laws_eqStepS (x, x, u) () = some (true, ()) := by
  have hx := h.1
  obtain ⟨v, e⟩ := sameL (F := laws_eqStepS_L0) hx
    (fun i hi => by
      unfold laws_eqStepS_L0
      simp only [lenI_eq, lt_yes hi, if_true, getI_lt hi, some_bind', eqZ_self, eqS_self, eqB_self, notB_true, Bool.false_eq_true, if_false, idxN hi hx (Nat.le_refl _), eq_Step])
    ⟨_, by unfold laws_eqStepS_L0; simp only [lenI_eq, lt_no, Bool.false_eq_true, if_false]; rfl⟩
  unfold laws_eqStepS
  simp only [eqZ_self, eqS_self, eqB_self, notB_true, Bool.false_eq_true, if_false, e, some_bind']
theorem eq_IntSS (x : (List (List Int))) (u : Unit) (h : (x.length ≤ 1099511627776 ∧ ∀ y ∈ x, (y.length ≤ 1099511627776 ∧ ∀ z ∈ y, True))) : laws_eqIntSS (x, x, u) () = some (true, ()) := by
  have hx := h.1
  obtain ⟨v, e⟩ := sameL (F := laws_eqIntSS_L0) hx
    (fun i hi => by
      unfold laws_eqIntSS_L0
      simp only [lenI_eq, lt_yes hi, if_true, getI_lt hi, some_bind', eqZ_self, eqS_self, eqB_self, notB_true, Bool.false_eq_true, if_false, idxN hi hx (Nat.le_refl _), eq_IntS _ _ (h.2 _ (List.getElem_mem hi))])
    ⟨_, by unfold laws_eqIntSS_L0; simp only [lenI_eq, lt_no, Bool.false_eq_true, if_false]; rfl⟩
  unfold laws_eqIntSS
  simp only [eqZ_self, eqS_self, eqB_self, notB_true, Bool.false_eq_true, if_false, e, some_bind']
theorem eq_Resource (x : D_Resource) (u : Unit) (h : Sm_Resource 1099511627776 x) : laws_eqResource (x, x, u) () = some (true, ()) := by
  unfold laws_eqResource
  simp only [eqZ_self, eqS_self, eqB_self, notB_true, Bool.false_eq_true, if_false, some_bind', eq_StepS _ _ h.1, eq_IntSS _ _ h.2.1]
theorem eq_ResourceS (x : (List D_Resource)) (u : Unit) (h : (x.length ≤ 1099511627776 ∧ ∀ y ∈ x, Sm_Resource 1099511627776 y)) : laws_eqResourceS (x, x, u) () = some (true, ()) := by
  have hx := h.1
  obtain ⟨v, e⟩ := sameL (F := laws_eqResourceS_L0) hx
    (fun i hi => by
      unfold laws_eqResourceS_L0
      simp only [lenI_eq, lt_yes hi, if_true, getI_lt hi, some_bind', eqZ_self, eqS_self, eqB_self, notB_true, Bool.false_eq_true, if_false, idxN hi hx (Nat.le_refl _), eq_Resource _ _ (h.2 _ (List.getElem_mem hi))])
    ⟨_, by unfold laws_eqResourceS_L0; simp only [lenI_eq, lt_no, Bool.false_eq_true, if_false]; rfl⟩
  unfold laws_eqResourceS
  simp only [eqZ_self, eqS_self, eqB_self, notB_true, Bool.false_eq_true, if_false, e, some_bind']
theorem eq_Project (x : D_Project) (u : Unit) (h : Sm_Project 1099511627776 x) : laws_eqProject (x, x, u) () = some (true, ()) := by
  unfold laws_eqProject
  simp only [eqZ_self, eqS_self, eqB_self, notB_true, Bool.false_eq_true, if_false, some_bind', eq_ActivityS _ _ h.2.1, eq_LinkS _ _ h.2.2.1, eq_ResourceS _ _ h.2.2.2.1, eq_IntS _ _ h.2.2.2.2.1]
end Go.Proofs.Ytjgmjljdhgfdhaa
