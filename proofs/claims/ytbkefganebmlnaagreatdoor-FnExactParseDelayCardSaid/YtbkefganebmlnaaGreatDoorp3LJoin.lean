/-
  Plain laws: texts joined, in the program and in the reference. Condition: the texts are short.
-/
import Derived.Test.YtbkefganebmlnaaGreatDoorN37
import Derived.Test.YtbkefganebmlnaaGreatDoorp3W
namespace Go.Proofs.YtbkefganebmlnaaGreatDoor
open Go.Abs
set_option linter.unusedVariables false
set_option linter.unusedSimpArgs false

theorem joinTail_len {sep : List UInt8} {B : Nat} : ∀ {xs : List (List UInt8)}, (∀ x ∈ xs, x.length + sep.length ≤ B) → (Lib.joinTail sep xs).length ≤ xs.length * B
  | [], _ => by simp [Lib.joinTail]
  | x :: xs, h => by
    have ih := joinTail_len (xs := xs) fun x hx => h x (by simp [hx])
    have h0 := h x (by simp)
    have e : Lib.joinTail sep (x :: xs) = sep ++ x ++ Lib.joinTail sep xs := by simp [Lib.joinTail]
    rw [e]
    simp only [List.length_append, List.length_cons, Nat.succ_mul]
    omega
theorem join_len {sep : List UInt8} {B : Nat} {xs : List (List UInt8)} (h : ∀ x ∈ xs, x.length + sep.length ≤ B) : (Lib.join xs sep).length ≤ xs.length * B := by
  cases xs with
  | nil => simp [Lib.join_nil]
  | cons x xs =>
    rw [Lib.join_cons]
    have h1 := joinTail_len (xs := xs) fun x hx => h x (by simp [hx])
    have h0 := h x (by simp)
    simp only [List.length_append, List.length_cons, Nat.succ_mul]
    omega
/-- what is joined after so many -/
def joinN (xs : List (List UInt8)) (sep : List UInt8) (i : Nat) (a : List UInt8) : List UInt8 := (if 0 < i then a ++ sep else a) ++ (xs[i]?).getD []
theorem joinN_tail (xs : List (List UInt8)) (sep : List UInt8) : ∀ (k i : Nat) (a : List UInt8), 0 < i → i + k = xs.length → foldN (joinN xs sep) k i a = a ++ Lib.joinTail sep (xs.drop i)
  | 0, i, a, _, h => by
    have : xs.drop i = [] := List.drop_eq_nil_iff.2 (by omega)
    rw [this]
    simp [foldN, Lib.joinTail]
  | k + 1, i, a, hi, h => by
    have hlt : i < xs.length := by omega
    show foldN (joinN xs sep) k (i + 1) (joinN xs sep i a) = _
    rw [joinN_tail xs sep k (i + 1) _ (by omega) (by omega), List.drop_eq_getElem_cons hlt]
    unfold joinN
    rw [if_pos hi, List.getElem?_eq_getElem hlt]
    show a ++ sep ++ xs[i] ++ Lib.joinTail sep (xs.drop (i + 1)) = a ++ (sep ++ xs[i] ++ Lib.joinTail sep (xs.drop (i + 1)))
    simp only [List.append_assoc]
theorem joinN_all (xs : List (List UInt8)) (sep : List UInt8) : foldN (joinN xs sep) xs.length 0 [] = Lib.join xs sep := by
  cases xs with
  | nil => rfl
  | cons x xs =>
    show foldN (joinN (x :: xs) sep) xs.length 1 (joinN (x :: xs) sep 0 []) = _
    rw [joinN_tail (x :: xs) sep xs.length 1 _ (by omega) (by simp; omega), Lib.join_cons]
    unfold joinN
    simp
theorem Join_spec (xs : List (List UInt8)) (sep : List UInt8) (u : Unit) (hn : xs.length ≤ 4096) (hx : ∀ x ∈ xs, x.length ≤ 2048) (hs : sep.length ≤ 2048) : spec_Join (xs, sep, u) () = some (Lib.join xs sep, ()) := by
  have l0 := fun A : Type => (fold_loop (A := A) (F := spec_Join_L0) (fun i (a : List UInt8) => ((i : Int), (xs.length : Int), xs, sep, a, ())) xs.length (fun i a => a.length ≤ i * 4096) (joinN xs sep) (fun a => Sum.inl (false, (xs.length : Int), (xs.length : Int), xs, sep, a, ())) (by omega)
    (fun i a hi ha => by
      have h1 := hx _ (List.getElem_mem hi)
      have k1 : ∀ y : List UInt8, y.length ≤ 16781312 → addI y xs[i] = some (y ++ xs[i]) := fun y hy => addI_ok (by rw [room_eq]; omega)
      have k2 : addI a sep = some (a ++ sep) := addI_ok (by rw [room_eq]; omega)
      unfold joinN
      rw [List.getElem?_eq_getElem hi]
      constructor
      · unfold spec_Join_L0
        by_cases h0 : 0 < i
        · have hl : ltZ 0 (i : Int) = true := by rw [ltZ_iff]; omega
          simp only [lt_yes hi, if_true, getI_lt hi, some_bind', hl, k2, k1 (a ++ sep) (by simp only [List.length_append]; omega), if_pos h0, Option.getD_some, idxN hi (Nat.le_refl _) (show xs.length ≤ 1099511627776 by omega)]
        · have hl : ltZ 0 (i : Int) = false := by rw [Bool.eq_false_iff, Ne, ltZ_iff]; omega
          simp only [lt_yes hi, if_true, getI_lt hi, some_bind', hl, Bool.false_eq_true, if_false, k1 a (by omega), if_neg h0, Option.getD_some, idxN hi (Nat.le_refl _) (show xs.length ≤ 1099511627776 by omega)]
      · rw [Option.getD_some, List.length_append]
        by_cases h0 : 0 < i
        · rw [if_pos h0, List.length_append]; omega
        · rw [if_neg h0]; omega)
    (fun a _ => by
      unfold spec_Join_L0
      simp only [lt_no, Bool.false_eq_true, if_false])
    (a := []) (by simp)).1
  have e0 : (((0 : Nat) : Int), (xs.length : Int), xs, sep, ([] : List UInt8), ()) = ((0 : Int), (xs.length : Int), xs, sep, ([] : List UInt8), ()) := rfl
  rw [e0, joinN_all] at l0
  unfold spec_Join
  simp only [lenI_eq, l0, some_bind']
theorem Join_impl (xs : List (List UInt8)) (sep : List UInt8) (u : Unit) (hn : xs.length ≤ 4096) (hx : ∀ x ∈ xs, x.length ≤ 2048) (hs : sep.length ≤ 2048) : strings_Join (xs, sep, u) () = some (Lib.join xs sep, ()) := by
  have hl := join_len (B := 4096) (xs := xs) (sep := sep) fun x h => by have := hx x h; omega
  unfold strings_Join joinF
  exact if_pos ⟨by show xs.length ≤ _; omega, by show (Lib.join xs sep).length ≤ _; omega⟩
end Go.Proofs.YtbkefganebmlnaaGreatDoor
