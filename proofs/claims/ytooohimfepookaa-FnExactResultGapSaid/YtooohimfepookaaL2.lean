/-
  Plain laws of the functions that the law FnExactScheduleDistance reaches: for all data within the bounds of the machine that law returns true.
-/
import Derived.Test.YtooohimfepookaaQ1
namespace Go.Proofs.Ytooohimfepookaa
open Go.Abs
set_option linter.unusedVariables false
set_option linter.unusedSimpArgs false

theorem F28_eq (a lo hi : Int) (u : Unit) : F28 (a, lo, hi, u) () = some (decide (lo ≤ a) && decide (a ≤ hi), ()) := by
  unfold F28
  by_cases h : lo ≤ a <;> simp [leZ, h]
theorem F29_eq (a lo hi : Int) (u : Unit) : F29 (a, lo, hi, u) () = some (decide (lo ≤ a) && decide (a ≤ hi), ()) := by
  unfold F29
  by_cases h : lo ≤ a <;> simp [leZ, h]
theorem F33_eq (a : Int) (u : Unit) : F33 (a, u) () = some (decide (0 ≤ a) && decide (a ≤ 60), ()) := by
  unfold F33
  simp [F29_eq]
theorem F31_eq (a b : Int) (u : Unit) : F31 (a, b, u) () = some (maxI a b, ()) := by
  unfold F31 maxI
  by_cases h : b < a
  · have : ¬ b > a := by omega
    simp [ltZ, h, this]
  · by_cases h2 : b > a
    · simp [ltZ, h, h2]
    · have : a = b := by omega
      subst this
      simp [ltZ]
theorem F30_eq (x : List Int) (left : Int) (u : Unit) (h0 : 0 ≤ left) (h1 : left ≤ 1048576) (hx : x.length ≤ maxLen) : F30 (x, left, u) () = some (if left - x.length < 0 then -1 else left - x.length, ()) := by
  unfold F30
  rw [maxLen_eq] at hx
  have e : subZ .i64 left x.length = left - x.length := subZ64 (by omega) (by omega)
  simp only [lenI_eq, e]
  by_cases h : left - (x.length : Int) < 0
  · simp [ltZ, h]
  · simp [ltZ, h]

theorem F32_eq (x : List Int) (u : Unit) (hx : x.length ≤ 1048576) : F32 (x, u) () = some (x, ()) := by
  have hl : ∃ o, loopN (A := (Int × ((List Int) × ((List Int) × Unit)))) big F32L0 (0, (x, (List.replicate x.length 0, ()))) = some o ∧ ∃ b i y u, o = .exit (Sum.inl (b, i, y, x, u)) := by
    refine loopN_count x.length (fun (i : Nat) s => s.1 = (i : Int) ∧ s.2.1 = x ∧ s.2.2.1 = x.take i ++ List.replicate (x.length - i) 0) _ ?_ (by simp) (by rw [big_eq]; omega)
    rintro i ⟨j, y, z, u⟩ hi ⟨h1, h2, hz⟩
    obtain rfl : j = i := h1
    obtain rfl : y = x := h2
    replace hz : z = y.take i ++ List.replicate (y.length - i) 0 := hz
    unfold F32L0
    by_cases h : i < y.length
    · have h' : ltZ (i : Int) (lenI y) = true := by rw [ltZ_iff, lenI_eq]; omega
      have hzl : z.length = y.length := by rw [hz]; simp; omega
      have g1 := getI_lt h
      have g2 : getI z (i : Int) = some z[i] := getI_lt (by omega)
      have g3 : addZ .i64 (i : Int) 1 = ((i + 1 : Nat) : Int) := by rw [addZ64 (by omega) (by omega)]; omega
      simp only [h', if_true, g1, g2, g3, some_bind']
      refine ⟨_, rfl, h, rfl, rfl, ?_⟩
      show setI z (i : Int) (fun _ => y[i]) = _
      rw [hz]
      exact copy_step y 0 h
    · have h' : ltZ (i : Int) (lenI y) = false := by rw [Bool.eq_false_iff, Ne, ltZ_iff, lenI_eq]; omega
      have : i = y.length := by omega
      have hzy : z = y := by rw [hz, this]; simp
      simp only [h', if_false, Bool.false_eq_true]
      exact ⟨_, rfl, _, _, _, _, by rw [hzy]⟩
  obtain ⟨o, ho, b, i, y, v, rfl⟩ := hl
  unfold F32
  simp only [lenI_eq, eqZ_self, if_true, zerosI_nat (n := x.length) (z := (0 : Int)) (by rw [room_eq]; omega), some_bind', ho]

theorem F17_refl (x : List Int) (u : Unit) (hx : x.length ≤ 1048576) : F17 (x, x, u) () = some (true, ()) := by
  have hl : ∃ o, loopN (A := (Int × ((List Int) × ((List Int) × Unit)))) big F17L0 (0, (x, (x, ()))) = some o ∧ ∃ v, o = .exit (Sum.inl v) := by
    refine loopN_count x.length (fun (i : Nat) s => s.1 = (i : Int) ∧ s.2.1 = x ∧ s.2.2.1 = x) _ ?_ (by simp) (by rw [big_eq]; omega)
    rintro i ⟨j, y, z, u⟩ hi ⟨h1, h2, hz⟩
    obtain rfl : j = i := h1
    obtain rfl : y = x := h2
    obtain rfl : z = y := hz
    unfold F17L0
    by_cases h : i < z.length
    · have h' : ltZ (i : Int) (lenI z) = true := by rw [ltZ_iff, lenI_eq]; omega
      have g1 := getI_lt h
      have g3 : addZ .i64 (i : Int) 1 = ((i + 1 : Nat) : Int) := by rw [addZ64 (by omega) (by omega)]; omega
      simp only [h', if_true, g1, g3, some_bind', eqZ_self, notB_true, Bool.false_eq_true, if_false]
      exact ⟨_, rfl, h, rfl, rfl, rfl⟩
    · have h' : ltZ (i : Int) (lenI z) = false := by rw [Bool.eq_false_iff, Ne, ltZ_iff, lenI_eq]; omega
      simp only [h', if_false, Bool.false_eq_true]
      exact ⟨_, rfl, _, rfl⟩
  obtain ⟨o, ho, v, rfl⟩ := hl
  unfold F17
  simp only [eqZ_self, notB_true, Bool.false_eq_true, if_false, ho, some_bind']
abbrev Sch := List Int × (List Int × Unit)
/-- no more than so many elements -/
def Sm (s : Sch) : Prop := s.1.length ≤ 1048576 ∧ s.2.1.length ≤ 1048576
theorem F14_refl (s : Sch) (u : Unit) (h : Sm s) : F14 (s, s, u) () = some (true, ()) := by
  unfold F14
  simp only [F17_refl _ _ h.1, F17_refl _ _ h.2, some_bind', notB_true, Bool.false_eq_true, if_false]
theorem F12_eq (s : Sch) (u : Unit) (h : Sm s) : F12 (s, u) () = some (s, ()) := by
  unfold F12
  simp only [F32_eq _ _ h.1, F32_eq _ _ h.2, some_bind']
/-- what is left of the measure: less than nothing, or the schedule is small -/
theorem F10_eq (s : Sch) (left : Int) (u : Unit) (h0 : 0 ≤ left) (h1 : left ≤ 1048576) (hx : s.1.length ≤ maxLen) (hy : s.2.1.length ≤ maxLen) :
    ∃ r, F10 (s, left, u) () = some (r, ()) ∧ (r < 0 ∨ (0 ≤ r ∧ r ≤ left ∧ Sm s)) := by
  unfold F10
  simp only [F30_eq _ _ _ h0 h1 hx, some_bind']
  by_cases h : left - (s.1.length : Int) < 0
  · refine ⟨-1, ?_, .inl (by omega)⟩
    simp [h, ltZ]
  · have hn : ltZ (left - (s.1.length : Int)) 0 = false := by rw [Bool.eq_false_iff, Ne, ltZ_iff]; exact h
    simp only [h, if_false, hn, Bool.false_eq_true]
    rw [F30_eq _ _ _ (by omega) (by omega) hy]
    simp only [some_bind']
    by_cases h' : left - (s.1.length : Int) - (s.2.1.length : Int) < 0
    · refine ⟨-1, ?_, .inl (by omega)⟩
      simp [h', ltZ]
    · have hn' : ltZ (left - (s.1.length : Int) - (s.2.1.length : Int)) 0 = false := by rw [Bool.eq_false_iff, Ne, ltZ_iff]; exact h'
      simp only [h', if_false, hn', Bool.false_eq_true]
      exact ⟨_, rfl, .inr ⟨by omega, by omega, by constructor <;> omega⟩⟩

def okT (p : Int) : Bool := decide (0 ≤ p) && decide (p ≤ 60)
abbrev DS := Int × (Int × (List Int × (Sch × (Int × Unit))))
/-- one round of the distance -/
def dstep (i n : Int) (a : List Int) (o : Sch) (s p q : Int) : Out DS ((Bool × DS) ⊕ Empty) (Int × Unit) :=
  if okT p && okT q then .norm (addZ .i64 i 1, n, a, o, addZ .i64 s (maxI (subZ .i64 p q) (subZ .i64 q p)), ()) else .ret (-1, ())
theorem F11_step {i n : Int} {a : List Int} {o : Sch} {s p q : Int} {u : Unit} (h : ltZ i n = true) (hp : getI a i = some p) (hq : getI o.1 i = some q) : F11L0 (i, n, a, o, s, u) = some (dstep i n a o s p q) := by
  unfold F11L0 dstep okT
  simp only [h, if_true, hp, hq, some_bind', F28_eq, F31_eq]
  generalize (decide (0 ≤ p) && decide (p ≤ 60)) = b
  generalize (decide (0 ≤ q) && decide (q ≤ 60)) = c
  cases b <;> cases c <;> simp [notB]
theorem F13_step {i n : Int} {a : List Int} {o : Sch} {s p q : Int} {u : Unit} (h : ltZ i n = true) (hp : getI a i = some p) (hq : getI o.1 i = some q) : F13L0 (i, n, a, o, s, u) = some (dstep i n a o s p q) := by
  unfold F13L0 dstep okT
  simp only [h, if_true, hp, hq, some_bind', F33_eq]
  generalize (decide (0 ≤ p) && decide (p ≤ 60)) = b
  generalize (decide (0 ≤ q) && decide (q ≤ 60)) = c
  cases b <;> cases c <;> simp [notB, hq]
theorem F11_end {i n : Int} {a : List Int} {o : Sch} {s : Int} {u : Unit} (h : ltZ i n = false) : F11L0 (i, n, a, o, s, u) = some (.exit (Sum.inl (false, i, n, a, o, s, ()))) ∧ F13L0 (i, n, a, o, s, u) = some (.exit (Sum.inl (false, i, n, a, o, s, ()))) := by
  unfold F11L0 F13L0
  simp only [h, Bool.false_eq_true, if_false, and_self]

/-- the reference's distance and the program's -/
theorem dist_eq (x y : Sch) (u : Unit) (hx : Sm x) (hy : Sm y) : ∃ r, F11 (x, y, u) () = some (r, ()) ∧ F13 (x, y, u) () = some (r, ()) := by
  unfold F11 F13
  simp only [lenI_eq]
  by_cases hl : (x.1.length : Int) = y.1.length
  · have h0 : notB (eqZ (x.1.length : Int) (y.1.length : Int)) = false := by rw [hl, eqZ_self]; rfl
    simp only [h0, Bool.false_eq_true, if_false]
    have hl' : x.1.length = y.1.length := by exact_mod_cast hl
    have hs : ∀ i : Nat, i < x.1.length → ltZ (i : Int) (x.1.length : Int) = true ∧ ∃ p q, getI x.1 (i : Int) = some p ∧ getI y.1 (i : Int) = some q := fun i hi => ⟨by rw [ltZ_iff]; omega, _, _, getI_lt hi, getI_lt (by omega)⟩
    have hnext : ∀ i : Nat, i < x.1.length → addZ .i64 (i : Int) 1 = ((i + 1 : Nat) : Int) := fun i hi => by have := hx.1; rw [addZ64 (by omega) (by omega)]; omega
    have hc : loopN (A := DS) big F13L0 (0, (x.1.length : Int), x.1, y, 0, ()) = loopN (A := DS) big F11L0 (0, (x.1.length : Int), x.1, y, 0, ()) := by
      refine loopN_congr (fun s => ∃ i : Nat, i ≤ x.1.length ∧ s.1 = (i : Int) ∧ s.2.1 = (x.1.length : Int) ∧ s.2.2.1 = x.1 ∧ s.2.2.2.1 = y) ?_ big ⟨0, by omega, rfl, rfl, rfl, rfl⟩
      rintro ⟨j, n, a, o, s, v⟩ ⟨i, hi, h1, h2, h3, h4⟩
      obtain rfl : j = i := h1
      obtain rfl : n = (x.1.length : Int) := h2
      obtain rfl : a = x.1 := h3
      obtain rfl : o = y := h4
      by_cases hlt : i < x.1.length
      · obtain ⟨g0, p, q, g1, g2⟩ := hs i hlt
        rw [F11_step g0 g1 g2, F13_step g0 g1 g2]
        refine ⟨rfl, fun s' hs' => ?_⟩
        unfold dstep at hs'
        split at hs'
        · cases hs'
          exact ⟨i + 1, by omega, hnext i hlt, rfl, rfl, rfl⟩
        · cases hs'
      · have g0 : ltZ (i : Int) (x.1.length : Int) = false := by rw [Bool.eq_false_iff, Ne, ltZ_iff]; omega
        rw [(F11_end g0).1, (F11_end g0).2]
        exact ⟨rfl, fun s' hs' => by cases hs'⟩
    have ht : ∃ o, loopN (A := DS) big F11L0 (0, (x.1.length : Int), x.1, y, 0, ()) = some o ∧ ∃ r, (o = .ret (r, ()) ∨ ∃ b i n a o' u, o = .exit (Sum.inl (b, i, n, a, o', r, u))) := by
      refine loopN_count x.1.length (fun (i : Nat) s => s.1 = (i : Int) ∧ s.2.1 = (x.1.length : Int) ∧ s.2.2.1 = x.1 ∧ s.2.2.2.1 = y) _ ?_ ⟨rfl, rfl, rfl, rfl⟩ (by have := hx.1; rw [big_eq]; omega)
      rintro i ⟨j, n, a, o, s, v⟩ hi ⟨h1, h2, h3, h4⟩
      obtain rfl : j = i := h1
      obtain rfl : n = (x.1.length : Int) := h2
      obtain rfl : a = x.1 := h3
      obtain rfl : o = y := h4
      by_cases hlt : i < x.1.length
      · obtain ⟨g0, p, q, g1, g2⟩ := hs i hlt
        refine ⟨_, F11_step g0 g1 g2, ?_⟩
        unfold dstep
        split
        · rename_i he
          split at he
          · cases he
            exact ⟨hlt, hnext i hlt, rfl, rfl, rfl⟩
          · cases he
        · rename_i he
          split at he <;> cases he
        · rename_i he
          split at he
          · cases he
          · cases he
            exact ⟨_, .inl rfl⟩
      · have g0 : ltZ (i : Int) (x.1.length : Int) = false := by rw [Bool.eq_false_iff, Ne, ltZ_iff]; omega
        exact ⟨_, (F11_end g0).1, _, .inr ⟨_, _, _, _, _, _, rfl⟩⟩
    obtain ⟨o, ho, r, hr⟩ := ht
    rw [hc, ho]
    rcases hr with rfl | ⟨b, i, n, a, o', v, rfl⟩
    · exact ⟨r, rfl, rfl⟩
    · exact ⟨r, rfl, rfl⟩
  · have h0 : notB (eqZ (x.1.length : Int) (y.1.length : Int)) = true := by rw [notB_iff, eqZ_iff]; exact hl
    have hl2 : ¬ (y.1.length : Int) = x.1.length := fun h => hl h.symm
    have h1 : notB (eqZ (y.1.length : Int) (x.1.length : Int)) = true := by rw [notB_iff, eqZ_iff]; exact hl2
    simp only [h0, h1, if_true]
    exact ⟨_, rfl, rfl⟩

theorem law4_plain (a b : Sch) (u : Unit) (ha1 : a.1.length ≤ maxLen) (ha2 : a.2.1.length ≤ maxLen) (hb1 : b.1.length ≤ maxLen) (hb2 : b.2.1.length ≤ maxLen) : F4 (a, b, u) () = some (true, ()) := by
  obtain ⟨l1, e1, c1⟩ := F10_eq a 1048576 () (by omega) (by omega) ha1 ha2
  unfold F4
  rw [e1]
  simp only [some_bind']
  rcases c1 with c1 | ⟨c1, c1', sa⟩
  · have : ltZ l1 0 = true := by rw [ltZ_iff]; exact c1
    simp only [this, if_true]
  · have n1 : ltZ l1 0 = false := by rw [Bool.eq_false_iff, Ne, ltZ_iff]; omega
    simp only [n1, Bool.false_eq_true, if_false]
    obtain ⟨l2, e2, c2⟩ := F10_eq b l1 () c1 (by omega) hb1 hb2
    rw [e2]
    simp only [some_bind']
    rcases c2 with c2 | ⟨c2, c2', sb⟩
    · have : ltZ l2 0 = true := by rw [ltZ_iff]; exact c2
      simp only [this, if_true]
    · have n2 : ltZ l2 0 = false := by rw [Bool.eq_false_iff, Ne, ltZ_iff]; omega
      obtain ⟨r, d1, d2⟩ := dist_eq a b () sa sb
      simp only [n2, Bool.false_eq_true, if_false, F12_eq a _ sa, F12_eq b _ sb, some_bind', d1, d2, eqZ_self, notB_true, F14_refl a _ sa, F14_refl b _ sb]
theorem law4 (x : Ty.dens h4.ps) (h : Ty.fits h4.ps x) : F4 x () = some (true, ()) := by
  obtain ⟨a, b, u⟩ := x
  obtain ⟨⟨⟨ha1, _⟩, ⟨ha2, _⟩, _⟩, ⟨⟨hb1, _⟩, ⟨hb2, _⟩, _⟩, _⟩ := h
  exact law4_plain a b u ha1 ha2 hb1 hb2
end Go.Proofs.Ytooohimfepookaa
