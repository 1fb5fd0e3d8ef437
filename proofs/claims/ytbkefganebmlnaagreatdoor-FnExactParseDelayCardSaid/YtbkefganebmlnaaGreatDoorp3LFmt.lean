/-
  Plain laws: numbers as text, in the program and in the reference. No condition.
-/
import Derived.Test.YtbkefganebmlnaaGreatDoorN37
import Derived.Test.YtbkefganebmlnaaGreatDoorp3W
namespace Go.Proofs.YtbkefganebmlnaaGreatDoor
open Go.Abs
set_option linter.unusedVariables false
set_option linter.unusedSimpArgs false

theorem fmt_in (x lo hi : Int) (u : Unit) : spec_l01In (x, lo, hi, u) () = some (inB x lo hi, ()) := by
  unfold spec_l01In inB
  rcases tf (leZ lo x) with h | h <;> simp [h]
theorem fmt_within (x lo hi : Int) (u : Unit) : impl_within (x, lo, hi, u) () = some (inB x lo hi, ()) := by
  unfold impl_within inB
  rcases tf (leZ lo x) with h | h <;> simp [h]
/-- a number as text -/
def fmtV (n : Int) : List UInt8 := if inB n (-100000) 100000 = true then Lib.itoa n else []
theorem dec_small {u : Nat} (h : u < 10) : Lib.decDigits u = [UInt8.ofNat (48 + u)] := by rw [Lib.decDigits, dif_pos h]
theorem dec_big {u : Nat} (h : ¬ u < 10) : Lib.decDigits u = Lib.decDigits (u / 10) ++ [UInt8.ofNat (48 + u % 10)] := by rw [Lib.decDigits, dif_neg h]
theorem dec_length : ∀ (k u : Nat), u < 10 ^ (k + 1) → (Lib.decDigits u).length ≤ k + 1
  | 0, u, h => by rw [dec_small (by simpa using h)]; simp
  | k + 1, u, h => by
    by_cases h1 : u < 10
    · rw [dec_small h1]; simp
    · rw [dec_big h1]
      have := dec_length k (u / 10) (by rw [Nat.pow_succ] at h; omega)
      simp only [List.length_append, List.length_singleton]
      omega
theorem dec_len6 {u : Nat} (h : u ≤ 100000) : (Lib.decDigits u).length ≤ 6 := dec_length 5 u (by omega)
theorem dec_ne (u : Nat) : 1 ≤ (Lib.decDigits u).length := by
  by_cases h1 : u < 10
  · rw [dec_small h1]; simp
  · rw [dec_big h1]; simp
theorem fmtV_len (n : Int) : (fmtV n).length ≤ 7 := by
  unfold fmtV
  split
  · rename_i h
    have h := inB_iff.1 h
    unfold Lib.itoa
    split
    · have := dec_len6 (u := n.natAbs) (by omega)
      simp only [List.length_cons]
      omega
    · have := dec_len6 (u := n.toNat) (by omega)
      omega
  · simp
theorem digit_byte {d : Nat} (h : d < 10) : ofBytes [wrapI .u8 (addZ .i64 48 (d : Int))] = [UInt8.ofNat (48 + d)] := by
  have e1 : addZ .i64 48 (d : Int) = ((48 + d : Nat) : Int) := by rw [addZ64 (by omega) (by omega)]; omega
  have e2 : wrapI .u8 ((48 + d : Nat) : Int) = ((48 + d : Nat) : Int) := by
    show IntKind.u8.wrap _ = _
    rw [IntKind.wrap_u8]
    omega
  rw [e1, e2]
  rfl
def leadD (n : Nat) : Nat := ((Lib.decDigits n).headD 0).toNat - 48
theorem lead_of {n d : Nat} {s : List UInt8} (hd : d < 10) (h : UInt8.ofNat (48 + d) :: s = Lib.decDigits n) : d = leadD n ∧ s = (Lib.decDigits n).tail := by
  unfold leadD
  rw [← h]
  refine ⟨?_, rfl⟩
  show d = (UInt8.ofNat (48 + d)).toNat - 48
  rw [UInt8.toNat_ofNat']
  omega
theorem fmt_loop (n0 : Nat) (h0 : n0 ≤ 100000) : leadD n0 < 10 ∧ UInt8.ofNat (48 + leadD n0) :: (Lib.decDigits n0).tail = Lib.decDigits n0 ∧
    ∀ A : Type, loopN (A := A) big spec_FormatInt_L0 ((n0 : Int), [], ()) = some (.exit (Sum.inl (false, (leadD n0 : Int), (Lib.decDigits n0).tail, ()))) := by
  have hlen := dec_len6 h0
  have key : ∀ A : Type, ∃ (d : Nat) (s : List UInt8), d < 10 ∧ UInt8.ofNat (48 + d) :: s = Lib.decDigits n0 ∧ loopN (A := A) big spec_FormatInt_L0 ((n0 : Int), [], ()) = some (.exit (Sum.inl (false, (d : Int), s, ()))) := fun A => by
    obtain ⟨o, ho, d, s, h1, h2, h3⟩ := loopN_run (A := A) (F := spec_FormatInt_L0) (fun t => ∃ (n : Nat) (s : List UInt8), t = ((n : Int), s, ()) ∧ n ≤ 100000 ∧ Lib.decDigits n ++ s = Lib.decDigits n0) (fun t => t.1.toNat)
      (fun o => ∃ (d : Nat) (s : List UInt8), d < 10 ∧ UInt8.ofNat (48 + d) :: s = Lib.decDigits n0 ∧ o = .exit (Sum.inl (false, (d : Int), s, ())))
      (fun t hI => by
        obtain ⟨n, s, rfl, hb, hs⟩ := hI
        have hsl : s.length ≤ 6 := by
          have := congrArg List.length hs
          simp only [List.length_append] at this
          omega
        by_cases hn : n < 10
        · have hl : ltZ 9 (n : Int) = false := by rw [Bool.eq_false_iff, Ne, ltZ_iff]; omega
          refine ⟨.exit (Sum.inl (false, (n : Int), s, ())), ?_, n, s, hn, by rw [← hs, dec_small hn]; rfl, rfl⟩
          unfold spec_FormatInt_L0
          simp only [hl, Bool.false_eq_true, if_false]
        · have hl : ltZ 9 (n : Int) = true := by rw [ltZ_iff]; omega
          have hr : remZ (n : Int) 10 = some ((n % 10 : Nat) : Int) := remZ_nat n 10 (by omega)
          have hq : quoZ .i64 (n : Int) 10 = some ((n / 10 : Nat) : Int) := by
            unfold quoZ
            rw [if_neg (by omega)]
            have e : (n : Int).tdiv 10 = ((n / 10 : Nat) : Int) := by rfl
            rw [e]
            congr 1
            exact wrap64 (by omega) (by omega)
          have ha : addI [UInt8.ofNat (48 + n % 10)] s = some (UInt8.ofNat (48 + n % 10) :: s) := addI_ok (by rw [room_eq]; simp; omega)
          refine ⟨.norm (((n / 10 : Nat) : Int), UInt8.ofNat (48 + n % 10) :: s, ()), ?_, ⟨n / 10, _, rfl, by omega, by rw [← hs, dec_big hn]; simp⟩, ?_⟩
          · unfold spec_FormatInt_L0
            simp only [hl, if_true, hr, some_bind', digit_byte (Nat.mod_lt n (by omega : 0 < 10)), ha, hq]
          · show (((n / 10 : Nat) : Int)).toNat < ((n : Nat) : Int).toNat
            omega)
      big ((n0 : Int), [], ()) ⟨n0, [], rfl, h0, by simp⟩ (by show ((n0 : Nat) : Int).toNat < big; rw [big_eq]; omega)
    exact ⟨d, s, h1, h2, by rw [ho, h3]⟩
  obtain ⟨d, s, h1, h2, -⟩ := key Unit
  obtain ⟨e1, e2⟩ := lead_of h1 h2
  refine ⟨by omega, by rw [← e1, ← e2]; exact h2, fun A => ?_⟩
  obtain ⟨d', s', k1, k2, k3⟩ := key A
  obtain ⟨f1, f2⟩ := lead_of k1 k2
  rw [k3, f1, f2]
theorem r1_L0 : spec_FormatInt_r1_L0 = spec_FormatInt_L0 := rfl
theorem FormatInt_r1 (n : Nat) (h : n ≤ 100000) (u : Unit) : spec_FormatInt_r1 ((n : Int), u) () = some (Lib.decDigits n, ()) := by
  have hin : inB (n : Int) (-100000) 100000 = true := inB_iff.2 (by omega)
  have hl : ltZ (n : Int) 0 = false := by rw [Bool.eq_false_iff, Ne, ltZ_iff]; omega
  obtain ⟨h1, h2, h3⟩ := fmt_loop n h
  have hlen := dec_len6 h
  have ha : addI [UInt8.ofNat (48 + leadD n)] (Lib.decDigits n).tail = some (UInt8.ofNat (48 + leadD n) :: (Lib.decDigits n).tail) := addI_ok (by
    have := congrArg List.length h2
    simp only [List.length_cons] at this
    rw [room_eq]; simp only [List.length_singleton]; omega)
  unfold spec_FormatInt_r1
  simp only [fmt_in, some_bind', hin, notB_true, Bool.false_eq_true, if_false, hl, r1_L0, h3, digit_byte h1, ha, h2]
theorem FormatInt_spec (n : Int) (u : Unit) : spec_FormatInt (n, u) () = some (fmtV n, ()) := by
  unfold spec_FormatInt fmtV
  simp only [fmt_in, some_bind']
  rcases tf (inB n (-100000) 100000) with h | h
  · simp [h, notB]
  have hb := inB_iff.1 h
  by_cases hn : n < 0
  · obtain ⟨m, rfl⟩ : ∃ m : Nat, n = -(m : Int) := ⟨n.natAbs, by omega⟩
    have hl : ltZ (-(m : Int)) 0 = true := by rw [ltZ_iff]; omega
    have hs : subZ .i64 0 (-(m : Int)) = (m : Int) := by rw [subZ64 (by omega) (by omega)]; omega
    have hm := dec_len6 (u := m) (by omega)
    have ha : addI [45] (Lib.decDigits m) = some (45 :: Lib.decDigits m) := addI_ok (by rw [room_eq]; simp; omega)
    have hi : Lib.itoa (-(m : Int)) = 45 :: Lib.decDigits m := by
      unfold Lib.itoa
      rw [if_pos hn]
      simp
    simp only [h, notB_true, Bool.false_eq_true, if_false, if_true, hl, hs, FormatInt_r1 m (by omega), some_bind', ha, hi]
  · obtain ⟨m, rfl⟩ : ∃ m : Nat, n = (m : Int) := ⟨n.toNat, by omega⟩
    have hl : ltZ (m : Int) 0 = false := by rw [Bool.eq_false_iff, Ne, ltZ_iff]; omega
    obtain ⟨h1, h2, h3⟩ := fmt_loop m (by omega)
    have hlen := dec_len6 (u := m) (by omega)
    have ha : addI [UInt8.ofNat (48 + leadD m)] (Lib.decDigits m).tail = some (UInt8.ofNat (48 + leadD m) :: (Lib.decDigits m).tail) := addI_ok (by
      have := congrArg List.length h2
      simp only [List.length_cons] at this
      rw [room_eq]; simp only [List.length_singleton]; omega)
    simp only [h, notB_true, Bool.false_eq_true, if_false, if_true, hl, h3, some_bind', digit_byte h1, ha, h2, Lib.itoa_nonneg]
theorem FormatInt_impl (n : Int) (u : Unit) : impl_FormatInt (n, u) () = some (fmtV n, ()) := by
  unfold impl_FormatInt fmtV
  simp only [fmt_within, some_bind']
  rcases tf (inB n (-100000) 100000) with h | h
  · simp [h, notB]
  have hb := inB_iff.1 h
  have hi : ∀ u, strconv_Itoa (n, u) () = some (Lib.itoa n, ()) := fun u => by
    unfold strconv_Itoa itoaF
    exact if_pos ⟨by show -9223372036854775808 ≤ n; omega, by show n ≤ 9223372036854775807; omega⟩
  simp only [h, notB_true, Bool.false_eq_true, if_false, if_true, hi, some_bind']
end Go.Proofs.YtbkefganebmlnaaGreatDoor
