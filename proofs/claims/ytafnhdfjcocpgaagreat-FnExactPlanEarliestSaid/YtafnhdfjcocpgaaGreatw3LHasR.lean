/-
  Plain laws: has a set a number. Condition: no list is longer than 2 to the 40.
-/
import Derived.Test.YtafnhdfjcocpgaaGreatw3LProj2
import Derived.Test.YtafnhdfjcocpgaaGreatN36
namespace Go.Proofs.YtafnhdfjcocpgaaGreat
open Go.Abs
set_option linter.unusedVariables false
set_option linter.unusedSimpArgs false

def hasR (l : List Int) (n : Int) : Bool := l.any fun x => eqZ x n
theorem eqZ_commR (x y : Int) : eqZ x y = eqZ y x := by
  rw [eqZ_dec, eqZ_dec]
  congr 1
  exact propext ⟨Eq.symm, Eq.symm⟩
theorem all_notR {E : Type} (q : E → Bool) (l : List E) : (l.all fun x => notB (q x)) = notB (l.any q) := by
  induction l with
  | nil => rfl
  | cons x l ih =>
    simp only [List.all_cons, List.any_cons, ih]
    cases q x <;> simp [notB]
theorem SetHasR_spec (l : List Int) (n : Int) (u : Unit) (hl : l.length ≤ 1099511627776) : spec_SetHas (l, n, u) () = some (hasR l n, ()) := by
  have l0 := fun A : Type => allS (A := A) (F := spec_SetHas_L0) (fun i => ((i : Int), (l.length : Int), l, n, ())) (0, (l.length : Int), l, n, ()) l (fun x => notB (eqZ x n)) (Sum.inl (false, (l.length : Int), (l.length : Int), l, n, ())) (true, ()) rfl hl
    (fun i hi => by
      unfold spec_SetHas_L0
      simp only [lt_yes hi, if_true, getI_lt hi, some_bind', idxN hi hl (Nat.le_refl _)]
      cases eqZ l[i] n <;> rfl)
    (by unfold spec_SetHas_L0; simp only [lt_no, Bool.false_eq_true, if_false])
  unfold spec_SetHas hasR
  simp only [lenI_eq, l0, all_notR]
  cases l.any (fun x => eqZ x n) <;> rfl
end Go.Proofs.YtafnhdfjcocpgaaGreat
