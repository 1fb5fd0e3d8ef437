/-
  Plain laws of the functions that the law FnExactResultGap reaches: for all data within the bounds of the machine that law returns true.
-/
import Derived.Test.YtooohimfepookaaL2
import Derived.Test.YtooohimfepookaaN29
namespace Go.Proofs.Ytooohimfepookaa
open Go.Abs
set_option linter.unusedVariables false
set_option linter.unusedSimpArgs false

abbrev Lit3 := Int × (Int × (Int × Unit))
abbrev Rul := Int × (Int × (Int × (Int × Unit)))
abbrev Lin := Int × (Rul × (List Lit3 × Unit))
abbrev Rs := Int × (Sch × (Int × (Int × (List Lin × (Int × Unit)))))
def SmLin (l : Lin) : Prop := l.2.2.1.length ≤ 1048576
def SmRs (r : Rs) : Prop := Sm r.2.1 ∧ r.2.2.2.2.1.length ≤ 1048576 ∧ ∀ l ∈ r.2.2.2.2.1, SmLin l

theorem F40_eq (l : Lin) (left : Int) (u : Unit) (h0 : 0 ≤ left) (h1 : left ≤ 1048576) (hx : l.2.2.1.length ≤ maxLen) : ∃ r, F40 (l, left, u) () = some (r, ()) ∧ (r < 0 ∨ (0 ≤ r ∧ r ≤ left ∧ SmLin l)) := by
  unfold F40 F43
  simp only [size_flat _ _ h0 h1 hx]
  by_cases h : left - (l.2.2.1.length : Int) < 0
  · exact ⟨-1, by simp [h, ltZ], .inl (by omega)⟩
  · refine ⟨left - (l.2.2.1.length : Int), by simp only [neg_no (show 0 ≤ left - (l.2.2.1.length : Int) by omega), Bool.false_eq_true, if_false, some_bind'], .inr ⟨by omega, by omega, ?_⟩⟩
    show l.2.2.1.length ≤ 1048576
    omega
theorem F36_eq (x : List Lin) (left : Int) (u : Unit) (h0 : 0 ≤ left) (h1 : left ≤ 1048576) (hx : x.length ≤ maxLen) (hl : ∀ l ∈ x, l.2.2.1.length ≤ maxLen) :
    ∃ r, F36 (x, left, u) () = some (r, ()) ∧ (r < 0 ∨ (0 ≤ r ∧ r ≤ left ∧ x.length ≤ 1048576 ∧ ∀ l ∈ x, SmLin l)) := by
  unfold F36
  simp only [size_flat _ _ h0 h1 hx]
  by_cases h : left - (x.length : Int) < 0
  · exact ⟨-1, by simp only [neg_yes h, if_true], .inl (by omega)⟩
  · simp only [neg_no (show 0 ≤ left - (x.length : Int) by omega), Bool.false_eq_true, if_false]
    have hx' : x.length ≤ 1048576 := by omega
    have hs : ∀ (i : Nat) (hi : i < x.length) (l : Int), 0 ≤ l → l ≤ 1048576 → F36L0 ((i : Int), x, l, ()) = some (.ret ((-1), ())) ∨ ∃ r, 0 ≤ r ∧ r ≤ l ∧ SmLin x[i] ∧ F36L0 ((i : Int), x, l, ()) = some (.norm (((i + 1 : Nat) : Int), x, r, ())) := by
      intro i hi l k0 k1
      obtain ⟨r, e, hr⟩ := F40_eq x[i] l () k0 k1 (hl _ (List.getElem_mem hi))
      unfold F36L0
      simp only [lenI_eq, lt_yes hi, if_true, getI_lt hi, some_bind', e]
      rcases hr with hr | ⟨r0, r1, r2⟩
      · left; simp only [neg_yes hr, if_true]
      · right; exact ⟨r, r0, r1, r2, by simp only [neg_no r0, Bool.false_eq_true, if_false, idx_next hi hx']⟩
    have he : ∀ l : Int, ∃ b i', F36L0 ((x.length : Int), x, l, ()) = some (.exit (Sum.inl (b, i', x, l, ()))) := fun l => ⟨false, (x.length : Int), by unfold F36L0; simp only [lenI_eq, lt_no, Bool.false_eq_true, if_false]⟩
    rcases size_loop SmLin ((-1 : Int), ()) hx' (show 0 ≤ left - (x.length : Int) by omega) (by omega) hs he with e | ⟨b, i', r, k1, k2, k3, e⟩
    · exact ⟨-1, by simp only [e, some_bind'], .inl (by omega)⟩
    · exact ⟨r, by simp only [e, some_bind'], .inr ⟨k1, by omega, hx', k3⟩⟩
theorem F23_eq (x : Rs) (left : Int) (u : Unit) (h0 : 0 ≤ left) (h1 : left ≤ 1048576) (ha : x.2.1.1.length ≤ maxLen) (hb : x.2.1.2.1.length ≤ maxLen) (hx : x.2.2.2.2.1.length ≤ maxLen) (hl : ∀ l ∈ x.2.2.2.2.1, l.2.2.1.length ≤ maxLen) :
    ∃ r, F23 (x, left, u) () = some (r, ()) ∧ (r < 0 ∨ (0 ≤ r ∧ r ≤ left ∧ SmRs x)) := by
  unfold F23
  obtain ⟨r1, e1, c1⟩ := F10_eq x.2.1 left () h0 h1 ha hb
  simp only [e1, some_bind']
  rcases c1 with c1 | ⟨c1, c1', s1⟩
  · exact ⟨-1, by simp only [neg_yes c1, if_true], .inl (by omega)⟩
  · obtain ⟨r2, e2, c2⟩ := F36_eq x.2.2.2.2.1 r1 () c1 (by omega) hx hl
    simp only [neg_no c1, Bool.false_eq_true, if_false, e2, some_bind']
    rcases c2 with c2 | ⟨c2, c2', s2, s3⟩
    · exact ⟨-1, by simp only [neg_yes c2, if_true], .inl (by omega)⟩
    · exact ⟨r2, by simp only [neg_no c2, Bool.false_eq_true, if_false], .inr ⟨c2, by omega, s1, s2, s3⟩⟩

theorem F45_eq (x : List Lit3) (u : Unit) (hx : x.length ≤ 1048576) : F45 (x, u) () = some (x, ()) := by
  obtain ⟨b, i', e⟩ := copy_loop (z := ((0 : Int), (0 : Int), (0 : Int), ())) (F := F45L0) hx
    (fun i h out hl => by
      unfold F45L0 F48
      simp only [lenI_eq, lt_yes h, if_true, getI_lt h, getI_lt (show i < out.length by omega), some_bind', idx_next h hx])
    (fun out hl => ⟨false, (x.length : Int), by unfold F45L0; simp only [lenI_eq, lt_no, Bool.false_eq_true, if_false]⟩)
  unfold F45
  simp only [lenI_eq, eqZ_self, if_true, zerosI_nat (n := x.length) (z := ((0 : Int), (0 : Int), (0 : Int), ())) (by rw [room_eq]; omega), some_bind', e]
theorem F41_eq (l : Lin) (u : Unit) (h : SmLin l) : F41 (l, u) () = some (l, ()) := by
  unfold F41 F44
  simp only [some_bind', F45_eq _ _ h]
theorem F37_eq (x : List Lin) (u : Unit) (hx : x.length ≤ 1048576) (hl : ∀ l ∈ x, SmLin l) : F37 (x, u) () = some (x, ()) := by
  obtain ⟨b, i', e⟩ := copy_loop (z := ((0 : Int), ((0 : Int), (0 : Int), (0 : Int), (0 : Int), ()), ([] : List Lit3), ())) (F := F37L0) hx
    (fun i h out ho => by
      unfold F37L0
      simp only [lenI_eq, lt_yes h, if_true, getI_lt h, getI_lt (show i < out.length by omega), some_bind', F41_eq _ _ (hl _ (List.getElem_mem h)), idx_next h hx])
    (fun out ho => ⟨false, (x.length : Int), by unfold F37L0; simp only [lenI_eq, lt_no, Bool.false_eq_true, if_false]⟩)
  unfold F37
  simp only [lenI_eq, eqZ_self, if_true, zerosI_nat (n := x.length) (z := ((0 : Int), ((0 : Int), (0 : Int), (0 : Int), (0 : Int), ()), ([] : List Lit3), ())) (by rw [room_eq]; omega), some_bind', e]
theorem F25_eq (x : Rs) (u : Unit) (h : SmRs x) : F25 (x, u) () = some (x, ()) := by
  unfold F25
  simp only [F12_eq _ _ h.1, F37_eq _ _ h.2.1 h.2.2, some_bind']

theorem F47_refl (x : List Lit3) (u : Unit) (hx : x.length ≤ 1048576) : F47 (x, x, u) () = some (true, ()) := by
  obtain ⟨v, e⟩ := same_loop (F := F47L0) hx
    (fun i h => by
      unfold F47L0 F49
      simp only [lenI_eq, lt_yes h, if_true, getI_lt h, some_bind', eqZ_self, notB_true, Bool.false_eq_true, if_false, idx_next h hx])
    ⟨_, by unfold F47L0; simp only [lenI_eq, lt_no, Bool.false_eq_true, if_false]; rfl⟩
  unfold F47
  simp only [eqZ_self, notB_true, Bool.false_eq_true, if_false, e, some_bind']
theorem F42_refl (l : Lin) (u : Unit) (h : SmLin l) : F42 (l, l, u) () = some (true, ()) := by
  unfold F42 F46
  simp only [eqZ_self, notB_true, Bool.false_eq_true, if_false, some_bind', F47_refl _ _ h]
theorem F38_refl (x : List Lin) (u : Unit) (hx : x.length ≤ 1048576) (hl : ∀ l ∈ x, SmLin l) : F38 (x, x, u) () = some (true, ()) := by
  obtain ⟨v, e⟩ := same_loop (F := F38L0) hx
    (fun i h => by
      unfold F38L0
      simp only [lenI_eq, lt_yes h, if_true, getI_lt h, some_bind', F42_refl _ _ (hl _ (List.getElem_mem h)), notB_true, Bool.false_eq_true, if_false, idx_next h hx])
    ⟨_, by unfold F38L0; simp only [lenI_eq, lt_no, Bool.false_eq_true, if_false]; rfl⟩
  unfold F38
  simp only [eqZ_self, notB_true, Bool.false_eq_true, if_false, e, some_bind']
theorem F27_refl (x : Rs) (u : Unit) (h : SmRs x) : F27 (x, x, u) () = some (true, ()) := by
  unfold F27
  simp only [eqZ_self, notB_true, Bool.false_eq_true, if_false, some_bind', F14_refl _ _ h.1, F38_refl _ _ h.2.1 h.2.2]
theorem F24_F26 : F24 = F26 := rfl
theorem F26_total (x : Rs) (u : Unit) : ∃ r, F26 (x, u) () = some (r, ()) := by
  unfold F26
  by_cases h1 : notB (eqZ x.1 1) = true
  · by_cases h2 : notB (eqZ x.1 3) = true <;> simp [h1, h2]
  · simp [h1]

theorem law7_plain (x : Rs) (u : Unit) (ha : x.2.1.1.length ≤ maxLen) (hb : x.2.1.2.1.length ≤ maxLen) (hx : x.2.2.2.2.1.length ≤ maxLen) (hl : ∀ l ∈ x.2.2.2.2.1, l.2.2.1.length ≤ maxLen) : F7 (x, u) () = some (true, ()) := by
  obtain ⟨l1, e1, c1⟩ := F23_eq x 1048576 () (by omega) (by omega) ha hb hx hl
  unfold F7
  simp only [e1, some_bind']
  rcases c1 with c1 | ⟨c1, c1', sx⟩
  · simp only [neg_yes c1, if_true]
  · obtain ⟨r, e2⟩ := F26_total x ()
    simp only [neg_no c1, Bool.false_eq_true, if_false, F25_eq x _ sx, some_bind', F24_F26, e2, eqZ_self, notB_true, F27_refl x _ sx]
theorem law7 (x : Ty.dens h7.ps) (h : Ty.fits h7.ps x) : F7 x () = some (true, ()) := by
  obtain ⟨a, u⟩ := x
  obtain ⟨⟨_, ⟨⟨ha1, _⟩, ⟨ha2, _⟩, _⟩, _, _, ⟨hx, hl⟩, _⟩, _⟩ := h
  exact law7_plain a u ha1 ha2 hx fun l hm => (hl l hm).2.2.1.1
end Go.Proofs.Ytooohimfepookaa
