/-
  Plain laws: what the functions that draw answer. No condition.
-/
import Derived.Test.Ytmbknefcilojkaag3LGenP
import Derived.Test.YtmbknefcilojkaaN37
namespace Go.Proofs.Ytmbknefcilojkaa
open Go.Abs
set_option linter.unusedVariables false
set_option linter.unusedSimpArgs false

/-- a generator's cursor: where it stands in its list -/
def CurOk (c : D_l01Cur) : Prop := 0 ≤ c.2.1 ∧ c.1.length ≤ 1048576 ∧ c.2.1 ≤ 1048576
theorem l01Byte_eq (c : D_l01Cur) (h : CurOk c) : ∃ k : Nat, k ≤ 255 ∧ ∃ c', CurOk c' ∧ spec_l01Byte (c, ()) () = some ((k : Int), c') := by
  obtain ⟨b, i, hh, u⟩ := c
  obtain ⟨h1, h2, h3⟩ := h
  simp only at h1 h2 h3
  unfold spec_l01Byte
  simp only
  obtain ⟨v0, e0⟩ := shr_some (addZ .i64 (mulZ .i64 hh 6364136223846793005) 1442695040888963407) 33
  obtain ⟨v1, e1⟩ := shr_some (addZ .i64 (mulZ .i64 hh 6364136223846793005) 1442695040888963407) 45
  have e0' : shiftI false .i64 (addZ .i64 (mulZ .i64 hh 6364136223846793005) 1442695040888963407) 33 = some v0 := e0
  have e1' : shiftI false .i64 (addZ .i64 (mulZ .i64 hh 6364136223846793005) 1442695040888963407) 45 = some v1 := e1
  rw [e0', Option.bind_some, e1', Option.bind_some]
  by_cases hlt : ltZ i (lenI b) = true
  · rw [if_pos hlt]
    have hl : i < (b.length : Int) := by rw [ltZ_iff, lenI_eq] at hlt; exact hlt
    obtain ⟨j, rfl⟩ : ∃ j : Nat, i = (j : Int) := ⟨i.toNat, by omega⟩
    have hj : j < b.length := by omega
    have hg : getI b (j : Int) = some b[j] := by
      simp [getI, hj]
    rw [hg]
    simp only [Option.bind_some]
    obtain ⟨k, hk, e⟩ := and255 (addZ .i64 (bitsI .and .i64 (bitsI .xor .i64 v0 v1) 255) (wrapI .i64 b[j]))
    refine ⟨k, hk, _, ⟨?_, ?_, ?_⟩, by rw [e]⟩
    · have : addZ .i64 (j : Int) 1 = (j : Int) + 1 := wrap64 (by omega) (by omega)
      simp only [this]; omega
    · exact h2
    · have : addZ .i64 (j : Int) 1 = (j : Int) + 1 := wrap64 (by omega) (by omega)
      simp only [this]; omega
  · rw [if_neg hlt]
    simp only [Option.bind_some]
    obtain ⟨k, hk, e⟩ := and255 (bitsI .xor .i64 v0 v1)
    exact ⟨k, hk, _, ⟨h1, h2, h3⟩, by rw [e]⟩
/-- a number below n, n at least 1 and at most 256 -/
theorem l01Below_eq (c : D_l01Cur) (h : CurOk c) (n : Nat) (h0 : 0 < n) (hn : n ≤ 256) : ∃ k : Nat, k < n ∧ ∃ c', CurOk c' ∧ spec_l01Below (c, ((n : Int), ())) () = some ((k : Int), c') := by
  unfold spec_l01Below
  have e1 : leZ (n : Int) 0 = false := by rw [Bool.eq_false_iff, Ne, leZ_iff]; omega
  have e2 : leZ (n : Int) 256 = true := by rw [leZ_iff]; omega
  simp only [e1, e2, if_true, Bool.false_eq_true, if_false]
  obtain ⟨k, hk, c', hc', e⟩ := l01Byte_eq c h
  rw [e]
  simp only [Option.bind_some, remZ_nat k n h0]
  exact ⟨k % n, Nat.mod_lt _ h0, c', hc', rfl⟩
theorem l01Once_eq (c : D_l01Cur) (h : CurOk c) (n : Nat) (h0 : 0 < n) (hn : n ≤ 256) : ∃ b : Bool, ∃ c', CurOk c' ∧ spec_l01Once (c, ((n : Int), ())) () = some (b, c') := by
  unfold spec_l01Once
  obtain ⟨k, hk, c', hc', e⟩ := l01Below_eq c h n h0 hn
  simp only [e, Option.bind_some]
  exact ⟨_, c', hc', rfl⟩
/-- the cursor at the start -/
theorem l01New_eq (b : List Int) (hb : b.length ≤ 1048576) : ∃ c', CurOk c' ∧ spec_l01New (b, ()) () = some (c', ()) := by
  unfold spec_l01New
  obtain ⟨o, ho, hR⟩ := loopN_count (A := (Int × ((List Int) × (Int × Unit)))) (F := spec_l01New_L0) b.length
    (fun j s => s.1 = (j : Int) ∧ s.2.1 = b)
    (fun o => ∃ bo i h, o = .exit (.inl (bo, (i, (b, (h, ())))))) (fun j s hj hI => by
      obtain ⟨i, b', h, u⟩ := s
      obtain ⟨rfl, rfl⟩ := hI
      unfold spec_l01New_L0
      simp only
      by_cases h1 : ltZ (j : Int) (lenI b') = true
      · rw [if_pos h1]
        simp only [Option.bind_some]
        by_cases h2 : ltZ (j : Int) 4000 = true
        · rw [if_pos h2]
          have hl : j < b'.length := by rw [ltZ_iff, lenI_eq] at h1; omega
          have hg : getI b' (j : Int) = some b'[j] := by simp [getI, hl]
          rw [hg]
          refine ⟨_, rfl, hl, ?_, rfl⟩
          show addZ .i64 (j : Int) 1 = _
          rw [addZ64 (by omega) (by omega)]; omega
        · rw [if_neg h2]
          exact ⟨_, rfl, _, _, _, rfl⟩
      · rw [if_neg h1]
        simp only [Option.bind_some, Bool.false_eq_true, if_false]
        exact ⟨_, rfl, _, _, _, rfl⟩)
    (s := (0, (b, ((addZ .i64 1950 (lenI b)), ())))) ⟨rfl, rfl⟩ (Nat.lt_of_le_of_lt hb (by decide))
  obtain ⟨bo, i, h, rfl⟩ := hR
  simp only
  rw [ho]
  exact ⟨_, ⟨Int.le_refl 0, hb, (by show (0 : Int) ≤ 1048576; decide)⟩, rfl⟩
theorem stepsB_snoc (l : List D_Step) (s : D_Step) (hl : 1 ≤ l.length) (h7 : l.length ≤ 7) (h : stepsB l = true) (h1 : 0 ≤ s.1 ∧ s.1 ≤ 60) (h2 : 0 ≤ s.2.1 ∧ s.2.1 ≤ 20) (hlt : (l[l.length - 1]'(by omega)).1 < s.1) : stepsB (l ++ [s]) = true := by
  unfold stepsB at h ⊢
  simp only [Bool.and_eq_true, List.all_eq_true, List.mem_range] at h ⊢
  obtain ⟨⟨ha, hf⟩, -⟩ := h
  refine ⟨⟨fun i hi => ?_, ?_⟩, inB_iff.2 (by simp; omega)⟩
  · simp only [List.length_append, List.length_singleton] at hi
    by_cases hin : i < l.length
    · have := ha i hin
      unfold stepI at this ⊢
      rw [List.getElem?_append_left hin]
      cases i with
      | zero => exact this
      | succ j =>
        have e : (l ++ [s])[j]? = l[j]? := List.getElem?_append_left (by omega)
        simp only [e] at this ⊢
        exact this
    · obtain rfl : i = l.length := by omega
      unfold stepI
      rw [List.getElem?_append_right (Nat.le_refl _)]
      simp only [Nat.sub_self, List.getElem?_cons_zero, Bool.and_eq_true]
      refine ⟨⟨inB_iff.2 h1, inB_iff.2 h2⟩, ?_⟩
      obtain ⟨j, hj⟩ : ∃ j, l.length = j + 1 := ⟨l.length - 1, by omega⟩
      have hjl : j < l.length := by omega
      rw [hj]
      simp only
      rw [List.getElem?_append_left hjl, List.getElem?_eq_getElem hjl]
      have e : l[l.length - 1] = l[j] := by congr 1; omega
      rw [e] at hlt
      have : leZ s.1 l[j].1 = false := by rw [Bool.eq_false_iff, Ne, leZ_iff]; omega
      simp only [this]; rfl
  · unfold firstB at hf ⊢
    rw [List.getElem?_append_left (by omega)]
    exact hf
/-- steps that are drawn, j of them behind the first -/
def StG (j : Nat) (l : List D_Step) : Prop := ∃ h : l.length = j + 1, stepsB l = true ∧ 0 ≤ (l[j]'(by omega)).1 ∧ (l[j]'(by omega)).1 ≤ 9 * j
theorem l03Draw_eq (c : D_l01Cur) (h : CurOk c) : ∃ l c', stepsB l = true ∧ l.length ≤ 3 ∧ CurOk c' ∧ spec_l03Draw (c, ()) () = some (l, c') := by
  unfold spec_l03Draw
  obtain ⟨k0, hk0, c0, hc0, e0⟩ := l01Below_eq c h 4 (by omega) (by omega)
  obtain ⟨k1, hk1, c1, hc1, e1⟩ := l01Below_eq c0 hc0 6 (by omega) (by omega)
  have e0' : spec_l01Below (c, (4, ())) () = some ((k0 : Int), c0) := e0
  have e1' : spec_l01Below (c0, (6, ())) () = some ((k1 : Int), c1) := e1
  simp only [e0', Option.bind_some, e1']
  have eq : quoZ .i64 (k1 : Int) 2 = some ((k1 / 2 : Nat) : Int) := by
    unfold quoZ
    rw [if_neg (by decide)]
    have : ((k1 : Int).tdiv 2) = ((k1 / 2 : Nat) : Int) := rfl
    rw [this]
    exact congrArg some (wrap64 (by omega) (by omega))
  rw [eq, Option.bind_some]
  obtain ⟨m, hm⟩ : ∃ m, m = k1 / 2 := ⟨_, rfl⟩
  have hm2 : m ≤ 2 := by omega
  rw [← hm]
  have hcap : addZ .i64 1 (k0 : Int) = 1 + (k0 : Int) := addZ64 (by omega) (by omega)
  rw [hcap]
  have hst : stepsB [((0 : Int), (1 + (k0 : Int), ()))] = true := by
    have h1 : inB (1 + (k0 : Int)) 0 20 = true := inB_iff.2 (by omega)
    unfold stepsB
    simp [stepI, firstB, h1]
    try decide
  obtain ⟨o, ho, hR⟩ := loopN_count (A := (Int × ((List D_Step) × (D_l01Cur × Unit)))) (F := spec_l03Draw_L0) m
    (fun j s => s.1 = (m : Int) - j ∧ StG j s.2.1 ∧ CurOk s.2.2.1)
    (fun o => ∃ bo i l c', o = .exit (.inl (bo, (i, (l, (c', ()))))) ∧ stepsB l = true ∧ l.length ≤ 3 ∧ CurOk c') (fun j s hj hI => by
      obtain ⟨i, l, cc, u⟩ := s
      obtain ⟨hi, ⟨hl, hs, ha0, ha1⟩, hc⟩ := hI
      simp only at hi hl hs ha0 ha1 hc
      unfold spec_l03Draw_L0
      simp only
      by_cases hlt : ltZ 0 i = true
      · rw [if_pos hlt]
        have hjm : j < m := by rw [ltZ_iff] at hlt; omega
        have hsub : subZ .i64 (lenI l) 1 = (j : Int) := by
          rw [lenI_eq, subZ64 (by omega) (by omega)]; omega
        have hjl : j < l.length := by omega
        have hg : getI l (j : Int) = some l[j] := by simp [getI, hjl]
        obtain ⟨a, ha, c2, hc2, e2⟩ := l01Below_eq cc hc 9 (by omega) (by omega)
        obtain ⟨b, hb, c3, hc3, e3⟩ := l01Below_eq c2 hc2 5 (by omega) (by omega)
        have e2' : spec_l01Below (cc, (9, ())) () = some ((a : Int), c2) := e2
        have e3' : spec_l01Below (c2, (5, ())) () = some ((b : Int), c3) := e3
        simp only [hsub, hg, Option.bind_some, e2', e3']
        have hx : addZ .i64 (addZ .i64 l[j].1 1) (a : Int) = l[j].1 + 1 + a := by
          rw [addZ64 (x := l[j].1) (by omega) (by omega), addZ64 (by omega) (by omega)]
        rw [hx, addI_ok (by simp only [List.length_singleton]; exact Nat.le_trans (show l.length + 1 ≤ 4 by omega) (by decide)), Option.bind_some]
        refine ⟨_, rfl, hjm, ?_, ⟨?_, ?_, ?_, ?_⟩, hc3⟩
        · simp only
          rw [hi, subZ64 (by omega) (by omega)]; omega
        · simp; omega
        · refine stepsB_snoc l _ (by omega) (by omega) hs ⟨?_, ?_⟩ ⟨?_, ?_⟩ ?_
          · simp only; omega
          · simp only; omega
          · simp only; omega
          · simp only; omega
          · have e : l[l.length - 1] = l[j] := by congr 1; omega
            rw [e]; simp only; omega
        · simp only
          rw [List.getElem_append_right (by omega)]
          simp only [hl, Nat.sub_self, List.getElem_cons_zero]; omega
        · simp only
          rw [List.getElem_append_right (by omega)]
          simp only [hl, Nat.sub_self, List.getElem_cons_zero]; omega
      · rw [if_neg hlt]
        exact ⟨_, rfl, _, _, _, _, rfl, hs, by omega, hc⟩)
    (s := ((m : Int), (((0, ((1 + (k0 : Int)), ())) :: []), (c1, ())))) ⟨by simp, ⟨rfl, hst, by simp, by simp⟩, hc1⟩ (Nat.lt_of_le_of_lt hm2 (by decide))
  obtain ⟨bo, i, l, c', rfl, h1, h2, h3⟩ := hR
  rw [ho]
  exact ⟨l, c', h1, h2, h3, rfl⟩
end Go.Proofs.Ytmbknefcilojkaa
