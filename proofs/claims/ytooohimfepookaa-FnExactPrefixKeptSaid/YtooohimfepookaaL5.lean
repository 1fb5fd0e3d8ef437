/-
  Plain laws of the functions that the law FnExactStartedBefore reaches: for all data within the bounds of the machine that law returns true.
-/
import Derived.Test.YtooohimfepookaaL2
namespace Go.Proofs.Ytooohimfepookaa
open Go.Abs
set_option linter.unusedVariables false
set_option linter.unusedSimpArgs false

/-- k, k + 1 and so on, n numbers -/
def iota (k : Int) (n : Nat) : List Int := (List.range n).map fun (j : Nat) => k + (j : Int)
theorem iota_length (k : Int) (n : Nat) : (iota k n).length = n := by simp [iota]
theorem iota_get (k : Int) {n i : Nat} (h : i < n) : (iota k n)[i]? = some (k + (i : Int)) := by simp [iota, h]
theorem mark_step (k : Int) (l : List Int) {i : Nat} (h : i < l.length) : setI (iota k i ++ l.drop i) (i : Int) (fun _ => k + (i : Int)) = iota k (i + 1) ++ l.drop (i + 1) := by
  rw [setI_nat]
  apply List.ext_getElem?
  intro j
  simp only [List.getElem?_modify, List.getElem?_append, iota_length, List.getElem?_drop]
  by_cases hj : i = j
  · subst hj
    rw [if_neg (by omega), if_pos (by omega), iota_get k (by omega), List.getElem?_eq_getElem (show i + (i - i) < l.length by omega)]
    simp
  · by_cases hlt : j < i
    · rw [if_pos hlt, if_pos (by omega), iota_get k hlt, iota_get k (by omega)]
      simp [hj]
    · rw [if_neg hlt, if_neg (by omega), show i + 1 + (j - (i + 1)) = i + (j - i) by omega]
      simp [hj]

theorem F19_eq (l : List Int) (k : Int) (u : Unit) (hl : l.length ≤ 1048576) (h0 : 0 ≤ k) (h1 : k ≤ 1099511627776) : F19 (l, k, u) () = some (k + l.length, iota k l.length) := by
  have hL : ∃ o, loopN (A := (Int × (Int × ((List Int) × Unit)))) big F19L0 (0, (k, (l, ()))) = some o ∧ ∃ b i u, o = .exit (Sum.inl (b, i, k + l.length, iota k l.length, u)) := by
    refine loopN_count l.length (fun (i : Nat) s => s.1 = (i : Int) ∧ s.2.1 = k + i ∧ s.2.2.1 = iota k i ++ l.drop i) _ ?_ ⟨rfl, by simp, by simp [iota]⟩ (by rw [big_eq]; omega)
    rintro i ⟨j, q, z, u⟩ hi ⟨h1, h2, hz⟩
    obtain rfl : j = i := h1
    obtain rfl : q = k + i := h2
    obtain rfl : z = iota k i ++ l.drop i := hz
    have hzl : (iota k i ++ l.drop i).length = l.length := by simp [iota]; omega
    unfold F19L0
    simp only [lenI_eq, hzl]
    by_cases h : i < l.length
    · have h' : ltZ (i : Int) (l.length : Int) = true := by rw [ltZ_iff]; omega
      have g2 : getI (iota k i ++ l.drop i) (i : Int) = some _ := getI_lt (by omega)
      have g3 : addZ .i64 (i : Int) 1 = ((i + 1 : Nat) : Int) := by rw [addZ64 (by omega) (by omega)]; omega
      have g4 : addZ .i64 (k + (i : Int)) 1 = k + ((i + 1 : Nat) : Int) := by rw [addZ64 (by omega) (by omega)]; omega
      simp only [h', if_true, g2, g3, g4, some_bind']
      exact ⟨_, rfl, h, rfl, rfl, mark_step k l h⟩
    · have h' : ltZ (i : Int) (l.length : Int) = false := by rw [Bool.eq_false_iff, Ne, ltZ_iff]; omega
      have hi' : i = l.length := by omega
      subst hi'
      simp only [h', if_false, Bool.false_eq_true]
      refine ⟨_, rfl, false, (l.length : Int), (), ?_⟩
      simp
  obtain ⟨o, ho, b, i, v, rfl⟩ := hL
  unfold F19
  simp only [ho, some_bind']
theorem F20_eq (n : Nat) (k : Int) (u : Unit) (hl : n ≤ 1048576) (h0 : 0 ≤ k) (h1 : k ≤ 1099511627776) : F20 (iota k n, k, u) () = some (k + n, ()) := by
  have hL : ∃ o, loopN (A := (Int × ((List Int) × (Int × Unit)))) big F20L0 (0, (iota k n, (k, ()))) = some o ∧ ∃ b i l u, o = .exit (Sum.inl (b, i, l, k + n, u)) := by
    refine loopN_count n (fun (i : Nat) s => s.1 = (i : Int) ∧ s.2.1 = iota k n ∧ s.2.2.1 = k + i) _ ?_ ⟨rfl, rfl, by simp⟩ (by rw [big_eq]; omega)
    rintro i ⟨j, z, q, u⟩ hi ⟨h1, h2, hz⟩
    obtain rfl : j = i := h1
    obtain rfl : z = iota k n := h2
    obtain rfl : q = k + i := hz
    unfold F20L0
    simp only [lenI_eq, iota_length]
    by_cases h : i < n
    · have h' : ltZ (i : Int) (n : Int) = true := by rw [ltZ_iff]; omega
      have g2 : getI (iota k n) (i : Int) = some (k + (i : Int)) := by rw [getI_nat, iota_get k h]
      have g3 : addZ .i64 (i : Int) 1 = ((i + 1 : Nat) : Int) := by rw [addZ64 (by omega) (by omega)]; omega
      have g4 : addZ .i64 (k + (i : Int)) 1 = k + ((i + 1 : Nat) : Int) := by rw [addZ64 (by omega) (by omega)]; omega
      simp only [h', if_true, g2, g3, g4, some_bind', eqZ_self, notB_true, Bool.false_eq_true, if_false]
      exact ⟨_, rfl, h, rfl, rfl, rfl⟩
    · have h' : ltZ (i : Int) (n : Int) = false := by rw [Bool.eq_false_iff, Ne, ltZ_iff]; omega
      have hi' : i = n := by omega
      subst hi'
      simp only [h', if_false, Bool.false_eq_true]
      exact ⟨_, rfl, _, _, _, _, rfl⟩
  obtain ⟨o, ho, b, i, l, v, rfl⟩ := hL
  unfold F20
  simp only [ho, some_bind']
theorem F18_eq (s : Sch) (k : Int) (u : Unit) (h : Sm s) (h0 : 0 ≤ k) (h1 : k ≤ 1048576) : F18 (s, k, u) () = some (k + s.1.length + s.2.1.length, iota k s.1.length, iota (k + s.1.length) s.2.1.length, s.2.2) := by
  unfold F18
  have := h.1
  simp only [F19_eq _ _ _ h.1 h0 (by omega), some_bind', F19_eq _ _ _ h.2 (show 0 ≤ k + (s.1.length : Int) by omega) (by omega)]

theorem F16_total (s : Sch) (at_ : Int) (u : Unit) (h : Sm s) : ∃ l, F16 (s, at_, u) () = some (l, ()) ∧ l.length ≤ s.1.length := by
  have hh := h.1
  have hL : ∃ o, loopN (A := (Int × (Int × ((List Int) × (Int × ((List Int) × Unit)))))) big F16L0 (0, ((s.1.length : Int), (s.1, (at_, ([], ()))))) = some o ∧ ∃ b i n a t l u, o = .exit (Sum.inl (b, i, n, a, t, l, u)) ∧ l.length ≤ s.1.length := by
    refine loopN_count s.1.length (fun (i : Nat) q => q.1 = (i : Int) ∧ q.2.1 = (s.1.length : Int) ∧ q.2.2.1 = s.1 ∧ q.2.2.2.2.1.length ≤ i) _ ?_ ⟨rfl, rfl, rfl, by simp⟩ (by rw [big_eq]; omega)
    rintro i ⟨j, n, a, t, l, u⟩ hi ⟨h1, h2, h3, h4⟩
    obtain rfl : j = i := h1
    obtain rfl : n = (s.1.length : Int) := h2
    obtain rfl : a = s.1 := h3
    replace h4 : l.length ≤ i := h4
    unfold F16L0
    by_cases h : i < s.1.length
    · have h' : ltZ (i : Int) (s.1.length : Int) = true := by rw [ltZ_iff]; omega
      have g2 := getI_lt h
      have g3 : addZ .i64 (i : Int) 1 = ((i + 1 : Nat) : Int) := by rw [addZ64 (by omega) (by omega)]; omega
      have g4 : addI l [(i : Int)] = some (l ++ [(i : Int)]) := addI_ok (by rw [room_eq]; simp; omega)
      simp only [h', if_true, g2, g3, g4, some_bind']
      by_cases hc : ltZ s.1[i] t = true
      · simp only [hc, if_true, some_bind', g3]
        exact ⟨_, rfl, h, rfl, rfl, rfl, by simp; omega⟩
      · rw [Bool.not_eq_true] at hc
        simp only [hc, Bool.false_eq_true, if_false, some_bind', g3]
        exact ⟨_, rfl, h, rfl, rfl, rfl, by simp; omega⟩
    · have h' : ltZ (i : Int) (s.1.length : Int) = false := by rw [Bool.eq_false_iff, Ne, ltZ_iff]; omega
      simp only [h', if_false, Bool.false_eq_true]
      exact ⟨_, rfl, _, _, _, _, _, _, _, rfl, by omega⟩
  obtain ⟨o, ho, b, i, n, a, t, l, v, rfl, hl⟩ := hL
  refine ⟨l, ?_, hl⟩
  unfold F16
  simp only [lenI_eq, ho, some_bind']
theorem F15_F16 : F15 = F16 := rfl

theorem law5_plain (a : Sch) (t : Int) (u : Unit) (ha1 : a.1.length ≤ maxLen) (ha2 : a.2.1.length ≤ maxLen) : F5 (a, t, u) () = some (true, ()) := by
  obtain ⟨l1, e1, c1⟩ := F10_eq a 1048576 () (by omega) (by omega) ha1 ha2
  unfold F5
  rw [e1]
  simp only [some_bind']
  rcases c1 with c1 | ⟨c1, c1', sa⟩
  · have : ltZ l1 0 = true := by rw [ltZ_iff]; exact c1
    simp only [this, if_true]
  · have n1 : ltZ l1 0 = false := by rw [Bool.eq_false_iff, Ne, ltZ_iff]; omega
    obtain ⟨l, e2, hl⟩ := F16_total a t () sa
    have hl' : l.length ≤ 1048576 := Nat.le_trans hl sa.1
    have n2 : ltZ ((1 : Int) + a.1.length + a.2.1.length) 0 = false := by rw [Bool.eq_false_iff, Ne, ltZ_iff]; omega
    have n3 : ltZ ((1 : Int) + l.length) 0 = false := by rw [Bool.eq_false_iff, Ne, ltZ_iff]; omega
    simp only [n1, Bool.false_eq_true, if_false, F12_eq a _ sa, some_bind', F15_F16, e2, F17_refl l _ hl', notB_true, F14_refl a _ sa, F18_eq a 1 _ sa (by omega) (by omega), n2, F19_eq l 1 _ hl' (by omega) (by omega), F20_eq l.length 1 _ hl' (by omega) (by omega), n3, eqZ_self]
theorem law5 (x : Ty.dens h5.ps) (h : Ty.fits h5.ps x) : F5 x () = some (true, ()) := by
  obtain ⟨a, t, u⟩ := x
  obtain ⟨⟨⟨ha1, _⟩, ⟨ha2, _⟩, _⟩, _⟩ := h
  exact law5_plain a t u ha1 ha2
end Go.Proofs.Ytooohimfepookaa
