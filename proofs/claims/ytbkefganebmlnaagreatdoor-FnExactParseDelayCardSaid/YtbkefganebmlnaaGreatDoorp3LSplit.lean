/-
  Plain laws: a text cut at a byte, in the program and in the reference. Condition: the text is no longer than 2 to the 30.
-/
import Derived.Test.YtbkefganebmlnaaGreatDoorp3LNum
import Derived.Test.YtbkefganebmlnaaGreatDoorp3W
namespace Go.Proofs.YtbkefganebmlnaaGreatDoor
open Go.Abs
set_option linter.unusedVariables false
set_option linter.unusedSimpArgs false

theorem big_twoS : ∃ n, big = n + 1 + 1 := ⟨18446744073709551614, rfl⟩
theorem loop_one {σ A B C : Type} {F : σ → Option (Out σ B C)} {s : σ} {b : B} (h : F s = some (.exit b)) : loopN (A := A) big F s = some (.exit b) := by
  obtain ⟨n, hn⟩ := big_twoS
  rw [hn]
  simp only [loopN, h]
  rfl
theorem loop_two {σ A B C : Type} {F : σ → Option (Out σ B C)} {s s' : σ} {b : B} (h : F s = some (.norm s')) (h' : F s' = some (.exit b)) : loopN (A := A) big F s = some (.exit b) := by
  obtain ⟨n, hn⟩ := big_twoS
  rw [hn]
  simp only [loopN, h, h', Option.bind_some]
/-- one byte further -/
def splF (s : List UInt8) (b : UInt8) (i : Nat) (x : List (List UInt8) × Nat) : List (List UInt8) × Nat := match s[i]? with
  | some c => if c = b then (x.1 ++ [(s.take i).drop x.2], i + 1) else x
  | none => x
theorem spl_fold (s : List UInt8) (b : UInt8) : ∀ (k i : Nat) (x : List (List UInt8) × Nat), i + k = s.length → x.2 ≤ i →
    (foldN (splF s b) k i x).1 ++ [(s.take s.length).drop (foldN (splF s b) k i x).2] = x.1 ++ addH ((s.take i).drop x.2) (splR b (s.drop i))
  | 0, i, x, h, hx => by
    obtain rfl : i = s.length := by omega
    simp [foldN, splR, addH]
  | k + 1, i, x, h, hx => by
    have hi : i < s.length := by omega
    show (foldN (splF s b) k (i + 1) (splF s b i x)).1 ++ [(s.take s.length).drop (foldN (splF s b) k (i + 1) (splF s b i x)).2] = _
    have hd : s.drop i = s[i] :: s.drop (i + 1) := List.drop_eq_getElem_cons hi
    have hsp : splR b (s.drop i) = if s[i] = b then [] :: splR b (s.drop (i + 1)) else addH [s[i]] (splR b (s.drop (i + 1))) := by rw [hd]; rfl
    have hf : splF s b i x = if s[i] = b then (x.1 ++ [(s.take i).drop x.2], i + 1) else x := by
      unfold splF
      rw [List.getElem?_eq_getElem hi]
    by_cases hc : s[i] = b
    · rw [if_pos hc] at hsp hf
      rw [hf, hsp, spl_fold s b k (i + 1) _ (by omega) (Nat.le_refl _)]
      have e : (s.take (i + 1)).drop (i + 1) = [] := List.drop_eq_nil_iff.2 (by rw [List.length_take]; omega)
      rw [e, addH_nil (splR_ne b _)]
      simp [addH]
    · rw [if_neg hc] at hsp hf
      rw [hf, hsp, spl_fold s b k (i + 1) _ (by omega) (by omega), addH_add]
      have e : (s.take (i + 1)).drop x.2 = (s.take i).drop x.2 ++ [s[i]] := by
        rw [List.take_succ_eq_append_getElem hi, List.drop_append_of_le_length (by rw [List.length_take]; omega)]
      rw [e]
theorem spl_all (s : List UInt8) (b : UInt8) : (foldN (splF s b) s.length 0 ([], 0)).1 ++ [(s.take s.length).drop (foldN (splF s b) s.length 0 ([], 0)).2] = splR b s := by
  have := spl_fold s b s.length 0 ([], 0) (by omega) (Nat.le_refl _)
  rw [this]
  simp [addH_nil (splR_ne b s)]
theorem cut_to {s : List UInt8} {a i : Nat} (h1 : a ≤ i) (h2 : i ≤ s.length) : cutI s (a : Int) (i : Int) = some ((s.take i).drop a) := by
  unfold cutI
  rw [if_pos (by omega)]
  simp
theorem idx_one (b : UInt8) (c : UInt8) (u : Unit) : strings_IndexByte ([b], (c.toNat : Int), u) () = some (if b = c then 0 else -1, ()) := by
  unfold strings_IndexByte idxbF
  have e : ((c.toNat : Int)).toNat.toUInt8 = c := by
    rw [Int.toNat_natCast]
    exact UInt8.ofNat_toNat
  show some (Lib.indexByte [b] ((c.toNat : Int)).toNat.toUInt8, ()) = _
  rw [e]
  unfold Lib.indexByte
  by_cases h : b = c
  · simp [h]
  · simp [h, Lib.indexByte]
theorem spl_inv {s : List UInt8} {b : UInt8} {i : Nat} {x : List (List UInt8) × Nat} (h : x.2 ≤ i ∧ x.1.length ≤ i) : (splF s b i x).2 ≤ i + 1 ∧ (splF s b i x).1.length ≤ i + 1 := by
  unfold splF
  cases s[i]? with
  | none => simp only; omega
  | some c =>
    simp only
    split
    · simp; omega
    · omega
theorem Split_impl (s : List UInt8) (b : UInt8) (u : Unit) (hl : s.length ≤ 1073741824) : impl_SplitAny (s, [b], u) () = some (splR b s, ()) := by
  have key := fun A : Type => fold_loop (A := A) (F := impl_SplitAny_L0) (fun i (x : List (List UInt8) × Nat) => ((i : Int), (s.length : Int), [b], x.1, s, (x.2 : Int), ())) s.length (fun i x => x.2 ≤ i ∧ x.1.length ≤ i) (splF s b)
    (fun x => Sum.inl (false, (s.length : Int), (s.length : Int), [b], x.1, s, (x.2 : Int), ())) (by omega)
    (fun i x hi hI => by
      refine ⟨?_, spl_inv hI⟩
      have hix := idxN hi (Nat.le_refl _) (show s.length ≤ 1099511627776 by omega)
      have ha : addI x.1 [(s.take i).drop x.2] = some (x.1 ++ [(s.take i).drop x.2]) := addI_ok (by rw [room_eq]; simp; omega)
      unfold impl_SplitAny_L0 splF
      rw [List.getElem?_eq_getElem hi]
      simp only [lt_yes hi, if_true, byteAt_lt hi, some_bind', idx_one]
      by_cases hc : s[i] = b
      · have e0 : (if b = s[i] then (0 : Int) else -1) = 0 := if_pos hc.symm
        have e1 : leZ 0 0 = true := rfl
        simp only [e0, e1, if_true, cut_to hI.1 (Nat.le_of_lt hi), some_bind', ha, hix, if_pos hc]
      · have e0 : (if b = s[i] then (0 : Int) else -1) = -1 := if_neg fun e => hc e.symm
        have e1 : leZ 0 (-1) = false := rfl
        simp only [e0, e1, Bool.false_eq_true, if_false, some_bind', hix, if_neg hc])
    (fun x hI => by
      unfold impl_SplitAny_L0
      simp only [lt_no, Bool.false_eq_true, if_false]) (a := ([], 0)) ⟨by simp, by simp⟩
  have l0 := fun A => (key A).1
  obtain ⟨i1, i2⟩ := (key Unit).2
  have z : ((0 : Nat) : Int) = 0 := rfl
  simp only [z] at l0
  have ha : ∀ y, addI (foldN (splF s b) s.length 0 ([], 0)).1 [y] = some ((foldN (splF s b) s.length 0 ([], 0)).1 ++ [y]) := fun y => addI_ok (by rw [room_eq]; simp; omega)
  unfold impl_SplitAny
  simp only [lenI_eq, l0, some_bind', cut_to i1 (Nat.le_refl _), ha, spl_all]
theorem Split_spec (s : List UInt8) (b : UInt8) (u : Unit) (hl : s.length ≤ 1073741824) : spec_SplitAny (s, [b], u) () = some (splR b s, ()) := by
  have one : lenI [b] = ((1 : Nat) : Int) := rfl
  have hb : byteAt [b] ((0 : Nat) : Int) = some (b.toNat : Int) := byteAt_lt (l := [b]) (i := 0) (by simp)
  have key := fun A : Type => fold_loop (A := A) (F := spec_SplitAny_L1) (fun i (x : List (List UInt8) × Nat) => ((i : Int), [b], x.1, s, (x.2 : Int), ())) s.length (fun i x => x.2 ≤ i ∧ x.1.length ≤ i) (splF s b)
    (fun x => Sum.inl (false, (s.length : Int), [b], x.1, s, (x.2 : Int), ())) (by omega)
    (fun i x hi hI => by
      refine ⟨?_, spl_inv hI⟩
      have hix := idxN hi (Nat.le_refl _) (show s.length ≤ 1099511627776 by omega)
      have ha : addI x.1 [(s.take i).drop x.2] = some (x.1 ++ [(s.take i).drop x.2]) := addI_ok (by rw [room_eq]; simp; omega)
      have z : ((0 : Nat) : Int) = 0 := rfl
      by_cases hc : s[i] = b
      · have e0 : eqZ (s[i].toNat : Int) (b.toNat : Int) = true := by rw [hc]; exact eqZ_self _
        have l0 := fun A : Type => loop_one (A := A) (F := spec_SplitAny_L0) (s := (((0 : Nat) : Int), (i : Int), [b], x.1, s, (x.2 : Int), ())) (b := Sum.inr (Sum.inl ((i : Int), [b], x.1 ++ [(s.take i).drop x.2], s, ((i + 1 : Nat) : Int), ()))) (by
          unfold spec_SplitAny_L0
          simp only [one, lt_yes (show 0 < 1 by omega), if_true, byteAt_lt hi, hb, some_bind', e0, cut_to hI.1 (Nat.le_of_lt hi), ha, hix])
        simp only [z] at l0
        unfold spec_SplitAny_L1 splF
        rw [List.getElem?_eq_getElem hi]
        simp only [lenI_eq, lt_yes hi, if_true, l0, some_bind', hix, if_pos hc]
      · have e0 : eqZ (s[i].toNat : Int) (b.toNat : Int) = false := by
          rw [Bool.eq_false_iff, Ne, eqZ_iff]
          intro e
          exact hc (UInt8.toNat_inj.1 (by omega))
        have l0 := fun A : Type => loop_two (A := A) (F := spec_SplitAny_L0) (s := (((0 : Nat) : Int), (i : Int), [b], x.1, s, (x.2 : Int), ())) (s' := (((1 : Nat) : Int), (i : Int), [b], x.1, s, (x.2 : Int), ())) (b := Sum.inl (false, ((1 : Nat) : Int), (i : Int), [b], x.1, s, (x.2 : Int), ())) (by
          unfold spec_SplitAny_L0
          simp only [one, lt_yes (show 0 < 1 by omega), if_true, byteAt_lt hi, hb, some_bind', e0, Bool.false_eq_true, if_false, idxN (show 0 < 1 by omega) (Nat.le_refl _) (show 1 ≤ 1099511627776 by omega)])
          (by
          unfold spec_SplitAny_L0
          simp only [one, lt_no, Bool.false_eq_true, if_false])
        simp only [z] at l0
        unfold spec_SplitAny_L1 splF
        rw [List.getElem?_eq_getElem hi]
        simp only [lenI_eq, lt_yes hi, if_true, l0, some_bind', hix, if_neg hc])
    (fun x hI => by
      unfold spec_SplitAny_L1
      simp only [lenI_eq, lt_no, Bool.false_eq_true, if_false]) (a := ([], 0)) ⟨by simp, by simp⟩
  have l0 := fun A => (key A).1
  obtain ⟨i1, i2⟩ := (key Unit).2
  have z : ((0 : Nat) : Int) = 0 := rfl
  simp only [z] at l0
  have ha : ∀ y, addI (foldN (splF s b) s.length 0 ([], 0)).1 [y] = some ((foldN (splF s b) s.length 0 ([], 0)).1 ++ [y]) := fun y => addI_ok (by rw [room_eq]; simp; omega)
  unfold spec_SplitAny
  simp only [lenI_eq, l0, some_bind', cut_to i1 (Nat.le_refl _), ha, spl_all]
end Go.Proofs.YtbkefganebmlnaaGreatDoor
