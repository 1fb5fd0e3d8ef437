/-
  Plain laws: greatest values and sums of runs of numbers. No condition.
-/
import Derived.Test.Ytmbknefcilojkaag4LSumP
namespace Go.Proofs.Ytmbknefcilojkaa
open Go.Abs
set_option linter.unusedVariables false
set_option linter.unusedSimpArgs false

theorem maxI_le (x y : Int) : x ≤ maxI x y ∧ y ≤ maxI x y := by
  unfold maxI
  split <;> omega
theorem foldl_max_ge {α : Type} (f : α → Int) : ∀ (l : List α) (a : Int), a ≤ l.foldl (fun m x => maxI m (f x)) a ∧ ∀ x ∈ l, f x ≤ l.foldl (fun m x => maxI m (f x)) a
  | [], a => ⟨Int.le_refl _, by simp⟩
  | y :: l, a => by
    obtain ⟨h1, h2⟩ := foldl_max_ge f l (maxI a (f y))
    obtain ⟨k1, k2⟩ := maxI_le a (f y)
    simp only [List.foldl_cons]
    refine ⟨Int.le_trans k1 h1, fun x hx => ?_⟩
    rcases List.mem_cons.1 hx with rfl | hx
    · exact Int.le_trans k2 h1
    · exact h2 x hx
theorem foldN_max_ge (g : Nat → Int) : ∀ (k i : Nat) (a : Int), a ≤ foldN (fun t m => maxI m (g t)) k i a ∧ ∀ t, i ≤ t → t < i + k → g t ≤ foldN (fun t m => maxI m (g t)) k i a
  | 0, i, a => ⟨Int.le_refl _, fun t h1 h2 => absurd h2 (by omega)⟩
  | k + 1, i, a => by
    obtain ⟨h1, h2⟩ := foldN_max_ge g k (i + 1) (maxI a (g i))
    obtain ⟨k1, k2⟩ := maxI_le a (g i)
    simp only [foldN]
    refine ⟨Int.le_trans k1 h1, fun t ht1 ht2 => ?_⟩
    rcases Nat.lt_or_ge i t with hlt | hge
    · exact h2 t (by omega) (by omega)
    · obtain rfl : t = i := by omega
      exact Int.le_trans k2 h1
theorem foldN_snoc {α : Type} (f : Nat → α → α) : ∀ (k i : Nat) (a : α), foldN f (k + 1) i a = f (i + k) (foldN f k i a)
  | 0, i, a => rfl
  | k + 1, i, a => by
    show foldN f (k + 1) (i + 1) (f i a) = f (i + (k + 1)) (foldN f k (i + 1) (f i a))
    rw [foldN_snoc f k (i + 1) (f i a)]
    congr 1
    omega
theorem foldN_sum (g : Nat → Nat) : ∀ n, foldN (fun i a => a + g i) n 0 0 = sumN g n
  | 0 => rfl
  | n + 1 => by rw [foldN_snoc, foldN_sum g n, Nat.zero_add]; rfl
end Go.Proofs.Ytmbknefcilojkaa
