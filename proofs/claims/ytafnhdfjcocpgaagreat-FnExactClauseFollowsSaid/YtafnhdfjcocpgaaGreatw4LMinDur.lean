/-
  Plain laws: the least and the greatest duration of the modes of an activity that are left, in the program and in the reference. Condition: no list is longer than 2 to the 40.
-/
import Derived.Test.YtafnhdfjcocpgaaGreatw4LMix
namespace Go.Proofs.YtafnhdfjcocpgaaGreat
open Go.Abs
set_option linter.unusedVariables false
set_option linter.unusedSimpArgs false

/-- the best so far, if there is one -/
def durStep (c : Int → Int → Bool) (s : Bool × Int) (m : D_Mode) : Bool × Int := if (notB s.1 || c m.1 s.2) = true then (true, m.1) else s
def choF (a : D_Activity) (ms : List Int) (i : Nat) (out : List D_Mode) : List D_Mode := match a.2.2.1[i]? with | some m => if hasB ms (i : Int) = true then out ++ [m] else out | none => out
/-- the modes that are left -/
def choL (a : D_Activity) (ms : List Int) : List D_Mode := foldN (choF a ms) a.2.2.1.length 0 []
def durV (c : Int → Int → Bool) (a : D_Activity) (ms : List Int) : Int := ((choL a ms).foldl (durStep c) (false, 0)).2
def durF (c : Int → Int → Bool) (a : D_Activity) (ms : List Int) (i : Nat) (s : Bool × Int) : Bool × Int := match a.2.2.1[i]? with | some m => if hasB ms (i : Int) = true then durStep c s m else s | none => s
theorem dur_fold (c : Int → Int → Bool) (a : D_Activity) (ms : List Int) (s0 : Bool × Int) : ∀ (k i : Nat) (out : List D_Mode), foldN (durF c a ms) k i (out.foldl (durStep c) s0) = (foldN (choF a ms) k i out).foldl (durStep c) s0
  | 0, _, _ => rfl
  | k + 1, i, out => by
    simp only [foldN]
    rw [← dur_fold c a ms s0 k (i + 1)]
    congr 1
    unfold durF choF
    cases a.2.2.1[i]? with
    | none => rfl
    | some m =>
      simp only
      split
      · rw [List.foldl_append]; rfl
      · rfl
theorem choL_len (a : D_Activity) (ms : List Int) : (choL a ms).length ≤ a.2.2.1.length := by
  have : ∀ (k i : Nat) (out : List D_Mode), (foldN (choF a ms) k i out).length ≤ out.length + k := by
    intro k
    induction k with
    | zero => intro i out; exact Nat.le_refl _
    | succ k ih =>
      intro i out
      simp only [foldN]
      refine Nat.le_trans (ih _ _) ?_
      have : (choF a ms i out).length ≤ out.length + 1 := by
        unfold choF
        cases a.2.2.1[i]? with
        | none => simp
        | some m => simp only; split <;> simp
      omega
  have := this a.2.2.1.length 0 []
  rw [List.length_nil, Nat.zero_add] at this
  exact this
theorem chosen_eq (a : D_Activity) (ms : List Int) (u : Unit) (ha : a.2.2.1.length ≤ 1000000) (hm : ms.length ≤ 1099511627776) : impl_chosen (a, ms, u) () = some (choL a ms, ()) := by
  have l0 := fun A : Type => (fold_loop (A := A) (F := impl_chosen_L0) (fun i out => ((i : Int), (a.2.2.1.length : Int), a.2.2.1, ms, out, ())) a.2.2.1.length (fun i out => out.length ≤ i) (choF a ms) (fun out => Sum.inl (false, (a.2.2.1.length : Int), (a.2.2.1.length : Int), a.2.2.1, ms, out, ())) (by omega)
    (fun i out hi ho => by
      unfold choF
      rw [List.getElem?_eq_getElem hi]
      have ha' : addI out [a.2.2.1[i]] = some (out ++ [a.2.2.1[i]]) := addI_ok (by rw [room_eq]; simp; omega)
      constructor
      · unfold impl_chosen_L0
        simp only [lt_yes hi, if_true, getI_lt hi, some_bind', SetHas_impl _ _ _ hm]
        rcases tf (hasB ms (i : Int)) with h | h <;> simp [-Int.natCast_add, h, ha', idxN hi (show a.2.2.1.length ≤ 1099511627776 by omega) (Nat.le_refl _)]
      · simp only
        split
        · simp; omega
        · omega)
    (fun out ho => by
      unfold impl_chosen_L0
      simp only [lt_no, Bool.false_eq_true, if_false])
    (a := []) (Nat.le_refl _)).1
  have e0 : (((0 : Nat) : Int), (a.2.2.1.length : Int), a.2.2.1, ms, ([] : List D_Mode), ()) = ((0 : Int), (a.2.2.1.length : Int), a.2.2.1, ms, ([] : List D_Mode), ()) := rfl
  rw [e0] at l0
  unfold impl_chosen choL
  simp only [lenI_eq, l0, some_bind']
theorem step_flag {c : Int → Int → Bool} {s : Bool × Int} {m : D_Mode} : (durStep c s m).1 = true := by
  obtain ⟨f, n⟩ := s
  unfold durStep
  cases f <;> cases h : c m.1 n <;> simp [notB, h]
theorem MinDuration_impl (a : D_Activity) (ms : List Int) (u : Unit) (ha : a.2.2.1.length ≤ 1000000) (hm : ms.length ≤ 1099511627776) : impl_MinDuration (a, ms, u) () = some (durV (fun x n => ltZ x n) a ms, ()) := by
  have hcl := choL_len a ms
  have l0 := fun A : Type => (fold_list (A := A) (F := impl_MinDuration_L0) (fun i (s : Bool × Int) => ((i : Int), ((choL a ms).length : Int), choL a ms, s.2, ())) (choL a ms) (fun i s => notB s.1 = eqZ (i : Int) 0) (durStep fun x n => ltZ x n) (fun s => Sum.inl (false, ((choL a ms).length : Int), ((choL a ms).length : Int), choL a ms, s.2, ())) (by omega)
    (fun i s hi hs => by
      refine ⟨?_, ?_⟩
      · unfold impl_MinDuration_L0
        simp only [lt_yes hi, if_true, getI_lt hi, some_bind', ← hs]
        obtain ⟨f, n⟩ := s
        unfold durStep
        simp only
        rcases tf (notB f) with h | h <;> rcases tf (ltZ (choL a ms)[i].1 n) with h' | h' <;> simp [-Int.natCast_add, h, h', idxN hi (show (choL a ms).length ≤ 1099511627776 by omega) (Nat.le_refl _)]
      · rw [step_flag, notB_true]
        exact (eqZ_ne (by omega)).symm)
    (fun s hs => by
      unfold impl_MinDuration_L0
      simp only [lt_no, Bool.false_eq_true, if_false])
    (a := (false, 0)) (s := (0, ((choL a ms).length : Int), choL a ms, 0, ())) rfl rfl).1
  unfold impl_MinDuration durV
  simp only [chosen_eq _ _ _ ha hm, some_bind', lenI_eq, l0]
theorem MinDuration_spec (a : D_Activity) (ms : List Int) (u : Unit) (ha : a.2.2.1.length ≤ 1000000) (hm : ms.length ≤ 1099511627776) : spec_MinDuration (a, ms, u) () = some (durV (fun x n => ltZ x n) a ms, ()) := by
  have l0 := fun A : Type => (fold_loop (A := A) (F := spec_MinDuration_L0) (fun i (s : Bool × Int) => ((i : Int), (a.2.2.1.length : Int), a.2.2.1, ms, s.1, s.2, ())) a.2.2.1.length (fun _ _ => True) (durF (fun x n => ltZ x n) a ms) (fun s => Sum.inl (false, (a.2.2.1.length : Int), (a.2.2.1.length : Int), a.2.2.1, ms, s.1, s.2, ())) (by omega)
    (fun i s hi _ => by
      refine ⟨?_, trivial⟩
      obtain ⟨f, n⟩ := s
      unfold spec_MinDuration_L0 durF durStep
      rw [List.getElem?_eq_getElem hi]
      simp only [lt_yes hi, if_true, getI_lt hi, some_bind', SetHas_spec _ _ _ hm]
      rcases tf (hasB ms (i : Int)) with h | h <;> rcases tf (notB f) with h1 | h1 <;> rcases tf (ltZ a.2.2.1[i].1 n) with h2 | h2 <;> simp [-Int.natCast_add, h, h1, h2, idxN hi (show a.2.2.1.length ≤ 1099511627776 by omega) (Nat.le_refl _)])
    (fun s _ => by
      unfold spec_MinDuration_L0
      simp only [lt_no, Bool.false_eq_true, if_false])
    (a := (false, 0)) trivial).1
  have e0 : (((0 : Nat) : Int), (a.2.2.1.length : Int), a.2.2.1, ms, false, (0 : Int), ()) = ((0 : Int), (a.2.2.1.length : Int), a.2.2.1, ms, false, (0 : Int), ()) := rfl
  simp only [e0] at l0
  have e1 := dur_fold (fun x n => ltZ x n) a ms (false, 0) a.2.2.1.length 0 []
  simp only [List.foldl_nil] at e1
  unfold spec_MinDuration durV choL
  simp only [lenI_eq, l0, some_bind', e1]
end Go.Proofs.YtafnhdfjcocpgaaGreat
