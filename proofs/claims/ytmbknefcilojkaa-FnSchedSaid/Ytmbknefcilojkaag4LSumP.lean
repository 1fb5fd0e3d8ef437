/-
  Plain laws: what is used adds up over the activities. Condition: no list is longer than 2 to the 40; starts and ends within the span that is gone through.
-/
import Derived.Test.Ytmbknefcilojkaag4LRun
namespace Go.Proofs.Ytmbknefcilojkaa
open Go.Abs
set_option linter.unusedVariables false
set_option linter.unusedSimpArgs false

def sumN (f : Nat → Nat) : Nat → Nat
  | 0 => 0
  | n + 1 => sumN f n + f n
theorem sumN_congr {f g : Nat → Nat} : ∀ {n : Nat}, (∀ i, i < n → f i = g i) → sumN f n = sumN g n
  | 0, _ => rfl
  | n + 1, h => by
    simp only [sumN]
    rw [sumN_congr fun i hi => h i (by omega), h n (by omega)]
theorem sumN_add (f g : Nat → Nat) : ∀ n, sumN (fun i => f i + g i) n = sumN f n + sumN g n
  | 0 => rfl
  | n + 1 => by
    simp only [sumN]
    rw [sumN_add f g n]
    omega
theorem sumN_le {f : Nat → Nat} {c : Nat} : ∀ {n : Nat}, (∀ i, i < n → f i ≤ c) → sumN f n ≤ n * c
  | 0, _ => by simp [sumN]
  | n + 1, h => by
    have h1 := sumN_le (n := n) fun i hi => h i (by omega)
    have h2 := h n (by omega)
    simp only [sumN, Nat.succ_mul]
    omega
/-- two sums in the other order -/
theorem sumN_swap (f : Nat → Nat → Nat) (m : Nat) : ∀ n, sumN (fun t => sumN (f t) m) n = sumN (fun i => sumN (fun t => f t i) n) m
  | 0 => by
    simp only [sumN]
    induction m with
    | zero => rfl
    | succ m ih => simp only [sumN]; omega
  | n + 1 => by
    simp only [sumN]
    rw [sumN_swap f m n, ← sumN_add]
/-- one that runs from x on for d rounds is met d times -/
theorem sumN_run (x d c : Nat) : ∀ n, sumN (fun t => if x ≤ t ∧ t < x + d then c else 0) n = (min n (x + d) - min n x) * c
  | 0 => by simp [sumN]
  | n + 1 => by
    simp only [sumN]
    rw [sumN_run x d c n]
    by_cases h : x ≤ n ∧ n < x + d
    · rw [if_pos h]
      have e1 : min (n + 1) (x + d) - min (n + 1) x = (min n (x + d) - min n x) + 1 := by omega
      rw [e1, Nat.succ_mul]
    · rw [if_neg h]
      have e1 : min (n + 1) (x + d) - min (n + 1) x = min n (x + d) - min n x := by omega
      rw [e1]
      omega
theorem sumN_run_all {x d n : Nat} (c : Nat) (h : x + d ≤ n) : sumN (fun t => if x ≤ t ∧ t < x + d then c else 0) n = d * c := by
  rw [sumN_run]
  congr 1
  omega
/-- a sum over those of the first n that are kept -/
theorem fold_sum (q : Int → Bool) (u : Int → Int) (U : Nat → Nat) (c : Nat) : ∀ (n : Nat) (s : Nat), (∀ i, i < n → u (i : Int) = (U i : Int) ∧ U i ≤ c) → s + n * c ≤ 1000000 →
    ((iotaI n).filter q).foldl (fun n a => addZ .i64 n (u a)) (s : Int) = ((s + sumN (fun i => if q (i : Int) = true then U i else 0) n : Nat) : Int)
  | 0, s, _, _ => by simp [iotaI, sumN]
  | n + 1, s, h, hb => by
    rw [Nat.succ_mul] at hb
    have ih := fold_sum q u U c n s (fun i hi => h i (by omega)) (by omega)
    obtain ⟨h1, h2⟩ := h n (by omega)
    rw [iotaI_succ, List.filter_append, List.foldl_append, ih]
    have hle : sumN (fun i => if q (i : Int) = true then U i else 0) n ≤ n * c := sumN_le fun i hi => by
      split
      · exact (h i (by omega)).2
      · omega
    simp only [sumN]
    rcases tf (q (n : Int)) with hq | hq
    · simp [hq]
    · simp only [List.filter_cons, hq, if_true, List.filter_nil, List.foldl_cons, List.foldl_nil, h1]
      rw [addZ64 (by omega) (by omega)]
      omega
end Go.Proofs.Ytmbknefcilojkaa
