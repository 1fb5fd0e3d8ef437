/-
  Plain laws: numbers read from texts, in the program and in the reference. Condition: the text is no longer than 2 to the 30.
-/
import Derived.Test.YtbkefganebmlnaaGreatDoorp3LNum
import Derived.Test.YtbkefganebmlnaaGreatDoorp3LFmt
namespace Go.Proofs.YtbkefganebmlnaaGreatDoor
open Go.Abs
set_option linter.unusedVariables false
set_option linter.unusedSimpArgs false

theorem ParseInt_impl (s : List UInt8) (u : Unit) (hl : s.length ≤ 1073741824) : impl_ParseInt (s, u) () = some (((pI s).1, (pI s).2, ()), ()) := by
  unfold impl_ParseInt parseF
  exact if_pos (show s.length ≤ 1099511627776 by omega)
theorem fmtV_in {n : Int} (h1 : -100000 ≤ n) (h2 : n ≤ 100000) : fmtV n = Lib.itoa n := by
  unfold fmtV
  rw [if_pos (inB_iff.2 ⟨h1, h2⟩)]
theorem fmtV_eq {n : Int} {s : List UInt8} (h : fmtV n = s) (hs : s ≠ []) : -100000 ≤ n ∧ n ≤ 100000 ∧ Lib.itoa n = s := by
  unfold fmtV at h
  split at h
  · rename_i hb
    have := inB_iff.1 hb
    exact ⟨this.1, this.2, h⟩
  · exact absurd h.symm hs
theorem digV_snoc (l : List UInt8) (c : UInt8) : digV 0 (l ++ [c]) = digV 0 l * 10 + (c.toNat - 48) := by
  unfold digV
  rw [List.foldl_append]
  rfl
theorem digV_lt : ∀ (l : List UInt8), (∀ c ∈ l, isDig c) → digV 0 l < 10 ^ l.length := by
  have key : ∀ (l : List UInt8) (acc : Nat), (∀ c ∈ l, isDig c) → digV acc l < (acc + 1) * 10 ^ l.length := by
    intro l
    induction l with
    | nil => intro acc _; simp [digV]
    | cons c l ih =>
      intro acc h
      have hc := h c (by simp)
      unfold isDig at hc
      have := ih (acc * 10 + (c.toNat - 48)) fun x hx => h x (by simp [hx])
      have e : digV acc (c :: l) = digV (acc * 10 + (c.toNat - 48)) l := rfl
      rw [e]
      refine Nat.lt_of_lt_of_le this ?_
      rw [List.length_cons, Nat.pow_succ, Nat.mul_comm (10 ^ l.length) 10, ← Nat.mul_assoc]
      exact Nat.mul_le_mul_right _ (by omega)
  intro l h
  have := key l 0 h
  simpa using this
/-- the bytes behind the sign -/
def sgnN (neg : Bool) : Nat := if neg = true then 1 else 0
theorem pi_loop (s : List UInt8) (neg : Bool) (hl : s.length ≤ 1073741824) (hneg : neg = true → s ≠ []) :
    (∃ b, (∀ A : Type, loopN (A := A) big spec_ParseInt_L0 (0, neg, s, 0, ()) = some (.exit b)) ∧ ∃ n : Nat, n ≤ 1000000000 ∧ b = Sum.inl (false, (s.length : Int), neg, s, (n : Int), ()) ∧ n = digV 0 (s.drop (sgnN neg))) ∨
    ∃ c, (∀ A : Type, loopN (A := A) big spec_ParseInt_L0 (0, neg, s, 0, ()) = some (.ret c)) ∧ c = ((0, false, ()), ()) ∧ ¬ ((∀ c ∈ s.drop (sgnN neg), isDig c) ∧ s.length ≤ 8) := by
  have one := one_loop (F := spec_ParseInt_L0) (fun i (n : Nat) => ((i : Int), neg, s, (n : Int), ())) s.length
    (fun i n => n = digV 0 ((s.take i).drop (sgnN neg)) ∧ (∀ c ∈ (s.take i).drop (sgnN neg), isDig c) ∧ (sgnN neg < i → s.length ≤ 8))
    (fun b => ∃ n : Nat, n ≤ 1000000000 ∧ b = Sum.inl (false, (s.length : Int), neg, s, (n : Int), ()) ∧ n = digV 0 (s.drop (sgnN neg)))
    (fun c => c = ((0, false, ()), ()) ∧ ¬ ((∀ c ∈ s.drop (sgnN neg), isDig c) ∧ s.length ≤ 8)) (by omega)
    (fun i n hi hI => by
      obtain ⟨k1, k2, k3⟩ := hI
      have hn : n < 100000000 := by
        rw [k1]
        refine Nat.lt_of_lt_of_le (digV_lt _ k2) ?_
        by_cases hsi : sgnN neg < i
        · have h8 := k3 hsi
          have : ((s.take i).drop (sgnN neg)).length ≤ 8 := by rw [List.length_drop, List.length_take]; omega
          exact Nat.pow_le_pow_right (by omega) this
        · have : ((s.take i).drop (sgnN neg)).length = 0 := by rw [List.length_drop, List.length_take]; omega
          rw [this]
          omega
      by_cases hi' : i < s.length
      · have hix := idxN hi' (Nat.le_refl _) (show s.length ≤ 1099511627776 by omega)
        have hb : s[i].toNat < 256 := UInt8.toNat_lt _
        have hw : subZ .i64 (wrapI .i64 (s[i].toNat : Int)) 48 = (s[i].toNat : Int) - 48 := by
          have : wrapI .i64 (s[i].toNat : Int) = (s[i].toNat : Int) := wrap64 (by omega) (by omega)
          rw [this, subZ64 (by omega) (by omega)]
        -- is the first byte a sign?
        by_cases h0 : i = 0 ∧ neg = true
        · obtain ⟨rfl, hng⟩ := h0
          refine .inl ⟨n, hi', ?_, ?_, ?_, ?_⟩
          · have e0 : eqZ ((0 : Nat) : Int) 0 = true := rfl
            unfold spec_ParseInt_L0
            simp only [lenI_eq, lt_yes hi', if_true, byteAt_lt hi', some_bind', e0, hng, hix]
          · rw [k1]
            simp [sgnN, hng, digV]
          · intro c hc
            have : ((s.take (0 + 1)).drop (sgnN neg)).length = 0 := by rw [List.length_drop, List.length_take]; simp only [sgnN, hng, if_true]; omega
            rw [List.eq_nil_of_length_eq_zero this] at hc
            simp at hc
          · intro h
            simp [sgnN, hng] at h
        · have hflag : ∀ (X : Type) (a b : Option X), (if eqZ (i : Int) 0 = true then a else b) = a → neg = false ∨ i ≠ 0 := fun _ _ _ _ => by
            by_cases e : i = 0
            · exact .inl (by cases neg with | true => exact absurd ⟨e, rfl⟩ h0 | false => rfl)
            · exact .inr e
          have hs : sgnN neg ≤ i := by
            unfold sgnN
            split
            · rename_i hng
              rcases Nat.eq_zero_or_pos i with e | e
              · exact absurd ⟨e, hng⟩ h0
              · omega
            · omega
          have hsn : (s.take (i + 1)).drop (sgnN neg) = (s.take i).drop (sgnN neg) ++ [s[i]] := by
            rw [List.take_succ_eq_append_getElem hi', List.drop_append_of_le_length (by rw [List.length_take]; omega)]
          have hmem : s[i] ∈ s.drop (sgnN neg) := by
            have e : s[i] = (s.drop (sgnN neg))[i - sgnN neg]'(by rw [List.length_drop]; omega) := by
              rw [List.getElem_drop]
              congr 1
              omega
            rw [e]
            exact List.getElem_mem _
          have step : (neg = false ∨ eqZ (i : Int) 0 = false) := by
            cases neg with
            | false => exact .inl rfl
            | true =>
              right
              rw [Bool.eq_false_iff, Ne, eqZ_iff]
              intro e
              exact h0 ⟨by omega, rfl⟩
          by_cases d1 : s[i].toNat < 48
          · refine .inr (.inr ⟨((0, false, ()), ()), ?_, rfl, fun h => ?_⟩)
            · have e1 : ltZ ((s[i].toNat : Int) - 48) 0 = true := by rw [ltZ_iff]; omega
              unfold spec_ParseInt_L0
              rcases step with e | e
              · rcases tf (eqZ (i : Int) 0) with q | q <;> simp only [lenI_eq, lt_yes hi', if_true, byteAt_lt hi', some_bind', e, q, hw, e1, Bool.false_eq_true, if_false]
              · simp only [lenI_eq, lt_yes hi', if_true, byteAt_lt hi', some_bind', e, hw, e1, Bool.false_eq_true, if_false]
            · have := h.1 _ hmem
              unfold isDig at this
              omega
          · have e1 : ltZ ((s[i].toNat : Int) - 48) 0 = false := by rw [Bool.eq_false_iff, Ne, ltZ_iff]; omega
            by_cases d2 : 57 < s[i].toNat
            · refine .inr (.inr ⟨((0, false, ()), ()), ?_, rfl, fun h => ?_⟩)
              · have e2 : ltZ 9 ((s[i].toNat : Int) - 48) = true := by rw [ltZ_iff]; omega
                unfold spec_ParseInt_L0
                rcases step with e | e
                · rcases tf (eqZ (i : Int) 0) with q | q <;> simp only [lenI_eq, lt_yes hi', if_true, byteAt_lt hi', some_bind', e, q, hw, e1, e2, Bool.false_eq_true, if_false]
                · simp only [lenI_eq, lt_yes hi', if_true, byteAt_lt hi', some_bind', e, hw, e1, e2, Bool.false_eq_true, if_false]
              · have := h.1 _ hmem
                unfold isDig at this
                omega
            · have e2 : ltZ 9 ((s[i].toNat : Int) - 48) = false := by rw [Bool.eq_false_iff, Ne, ltZ_iff]; omega
              by_cases d3 : 8 < s.length
              · refine .inr (.inr ⟨((0, false, ()), ()), ?_, rfl, fun h => by have := h.2; omega⟩)
                have e3 : ltZ 8 (s.length : Int) = true := by rw [ltZ_iff]; omega
                unfold spec_ParseInt_L0
                rcases step with e | e
                · rcases tf (eqZ (i : Int) 0) with q | q <;> simp only [lenI_eq, lt_yes hi', if_true, byteAt_lt hi', some_bind', e, q, hw, e1, e2, e3, Bool.false_eq_true, if_false]
                · simp only [lenI_eq, lt_yes hi', if_true, byteAt_lt hi', some_bind', e, hw, e1, e2, e3, Bool.false_eq_true, if_false]
              · have e3 : ltZ 8 (s.length : Int) = false := by rw [Bool.eq_false_iff, Ne, ltZ_iff]; omega
                have em : addZ .i64 (mulZ .i64 (n : Int) 10) ((s[i].toNat : Int) - 48) = ((n * 10 + (s[i].toNat - 48) : Nat) : Int) := by
                  have : mulZ .i64 (n : Int) 10 = (n : Int) * 10 := wrap64 (by omega) (by omega)
                  rw [this, addZ64 (by omega) (by omega)]
                  omega
                refine .inl ⟨n * 10 + (s[i].toNat - 48), hi', ?_, ?_, ?_, fun _ => by omega⟩
                · unfold spec_ParseInt_L0
                  rcases step with e | e
                  · rcases tf (eqZ (i : Int) 0) with q | q <;> simp only [lenI_eq, lt_yes hi', if_true, byteAt_lt hi', some_bind', e, q, hw, e1, e2, e3, Bool.false_eq_true, if_false, em, hix]
                  · simp only [lenI_eq, lt_yes hi', if_true, byteAt_lt hi', some_bind', e, hw, e1, e2, e3, Bool.false_eq_true, if_false, em, hix]
                · rw [hsn, digV_snoc, ← k1]
                · intro c hc
                  rw [hsn] at hc
                  rcases List.mem_append.1 hc with hc | hc
                  · exact k2 c hc
                  · rw [List.mem_singleton.1 hc]
                    unfold isDig
                    omega
      · obtain rfl : i = s.length := by omega
        refine .inr (.inl ⟨_, ?_, n, by omega, rfl, ?_⟩)
        · unfold spec_ParseInt_L0
          simp only [lenI_eq, lt_no, Bool.false_eq_true, if_false]
        · rw [k1, List.take_length])
    (a := 0) (s := (0, neg, s, 0, ())) rfl ⟨by simp [digV], fun c hc => by simp at hc, fun h => absurd h (by omega)⟩
  exact one
def headNeg (s : List UInt8) : Bool := match s with | c :: _ => decide (c.toNat = 45) | [] => false
theorem itoa_shape {n : Int} (h1 : -100000 ≤ n) (h2 : n ≤ 100000) : ∃ (m : Nat) (neg : Bool), m ≤ 100000 ∧ (n = if neg = true then -(m : Int) else (m : Int)) ∧ (Lib.itoa n).drop (sgnN neg) = Lib.decDigits m ∧ (Lib.itoa n).length ≤ 7 ∧
    neg = headNeg (Lib.itoa n) := by
  by_cases hn : n < 0
  · obtain ⟨m, rfl⟩ : ∃ m : Nat, n = -(m : Int) := ⟨n.natAbs, by omega⟩
    have e : Lib.itoa (-(m : Int)) = 45 :: Lib.decDigits m := by
      unfold Lib.itoa
      rw [if_pos hn]
      simp
    have hl := dec_len6 (u := m) (by omega)
    refine ⟨m, true, by omega, by simp, ?_, ?_, ?_⟩
    · rw [e]; rfl
    · rw [e, List.length_cons]; omega
    · rw [e]; rfl
  · obtain ⟨m, rfl⟩ : ∃ m : Nat, n = (m : Int) := ⟨n.toNat, by omega⟩
    have e : Lib.itoa (m : Int) = Lib.decDigits m := by
      unfold Lib.itoa
      rw [if_neg hn]
      simp
    have hl := dec_len6 (u := m) (by omega)
    refine ⟨m, false, by omega, by simp, ?_, ?_, ?_⟩
    · rw [e]; rfl
    · rw [e]; omega
    · rw [e]
      have hd := (dec_digs m).1
      cases hs : Lib.decDigits m with
      | nil => rfl
      | cons c r =>
        rw [hs] at hd
        have := hd c (by simp)
        unfold isDig at this
        show false = decide (c.toNat = 45)
        rw [eq_comm, decide_eq_false_iff_not]
        omega
theorem ParseInt_spec (s : List UInt8) (u : Unit) (hl : s.length ≤ 1073741824) : spec_ParseInt (s, u) () = some (((pI s).1, (pI s).2, ()), ()) := by
  obtain ⟨neg, hneg, hnn⟩ : ∃ neg : Bool, neg = headNeg s ∧ (neg = true → s ≠ []) := by
    cases s with
    | nil => exact ⟨false, rfl, fun h => by cases h⟩
    | cons c r => exact ⟨_, rfl, fun _ => by simp⟩
  have hfirst : (if ltZ 0 (lenI s) = true then (Option.bind (byteAt s 0) fun v0 => (some (eqZ v0 45, s, (0 : Int), ()))) else (some (false, s, (0 : Int), ()))) = some (neg, s, 0, ()) := by
    cases s with
    | nil =>
      have e : ltZ 0 (lenI ([] : List UInt8)) = false := rfl
      rw [e, hneg]
      rfl
    | cons c r =>
      have e : ltZ 0 (lenI (c :: r)) = true := by rw [ltZ_iff, lenI_eq, List.length_cons]; omega
      have eb : byteAt (c :: r) 0 = some (c.toNat : Int) := byteAt_lt (l := c :: r) (i := 0) (by simp)
      rw [e, if_pos rfl, eb, hneg]
      simp only [Option.bind_some]
      congr 2
      rw [eqZ_dec]
      exact decide_eq_decide.2 (by omega)
  have hfn : ∀ n : Int, spec_FormatInt (n, ()) () = some (fmtV n, ()) := fun n => FormatInt_spec n ()
  unfold spec_ParseInt
  rw [hfirst]
  simp only [some_bind']
  rcases pi_loop s neg hl hnn with ⟨b, e, n, hn, rfl, hv⟩ | ⟨c, e, rfl, hnd⟩
  · -- the loop goes through
    have hsub : subZ .i64 0 (n : Int) = -(n : Int) := by rw [subZ64 (by omega) (by omega)]; omega
    have fin : ∀ v : Int, v = (if neg = true then -(n : Int) else (n : Int)) →
        (if eqS s [] = true then some (true, v, ()) else Option.bind (Option.bind (spec_FormatInt (v, ()) ()) fun v13 => some v13.1) fun v14 => some (notB (eqS v14 s), v, ())).bind (fun v15 => if v15.1 = true then some (((0 : Int), false, ()), ()) else some ((v15.2.1, true, ()), ())) = some (((pI s).1, (pI s).2, ()), ()) := fun v hvv => by
      by_cases hs : s = []
      · subst hs
        have ep : pI [] = (0, false) := rfl
        have e0 : eqS ([] : List UInt8) [] = true := rfl
        rw [ep, if_pos e0]
        rfl
      · have e0 : eqS s [] = false := by
          unfold eqS
          simp [hs]
        rw [if_neg (by rw [e0]; simp), hfn]
        simp only [some_bind']
        rcases pI_cases s with ⟨hp, hno⟩ | ⟨m, h1, h2, rfl, hp⟩
        · have e1 : eqS (fmtV v) s = false := by
            unfold eqS
            rw [Bool.eq_false_iff, Ne, beq_iff_eq]
            intro hf
            obtain ⟨g1, g2, g3⟩ := fmtV_eq hf hs
            exact hno v g1 g2 g3
          rw [e1, hp]
          rfl
        · obtain ⟨m', neg', hm', em, ed, -, en⟩ := itoa_shape h1 h2
          have hnn' : neg' = neg := en.trans hneg.symm
          subst hnn'
          have hval : n = m' := by rw [hv, ed, (dec_digs m').2]
          have hvm : v = m := by rw [hvv, em, hval]
          have e1 : eqS (fmtV v) (Lib.itoa m) = true := by
            unfold eqS
            rw [hvm, fmtV_in h1 h2]
            simp
          rw [e1, hp, hvm]
          rfl
    cases hng : neg with
    | true =>
      rw [hng] at e fin
      simp only [e, some_bind', if_true, hsub]
      exact fin _ (by simp)
    | false =>
      rw [hng] at e fin
      simp only [e, some_bind', Bool.false_eq_true, if_false]
      exact fin _ (by simp)
  · -- a byte that is no digit, or too many
    have hp : pI s = (0, false) := by
      rcases pI_cases s with ⟨hp, -⟩ | ⟨m, h1, h2, rfl, -⟩
      · exact hp
      · exfalso
        obtain ⟨m', neg', hm', em, ed, hl7, en⟩ := itoa_shape h1 h2
        have hnn' : neg' = neg := en.trans hneg.symm
        subst hnn'
        exact hnd ⟨by rw [ed]; exact (dec_digs m').1, by omega⟩
    simp only [e, some_bind', hp]
end Go.Proofs.YtbkefganebmlnaaGreatDoor
