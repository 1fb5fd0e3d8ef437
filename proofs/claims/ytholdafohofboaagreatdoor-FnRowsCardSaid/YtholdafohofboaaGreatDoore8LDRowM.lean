/-
  Plain laws: numbers in a row, lists that hold a number, sets, domains (several small texts in one). Condition: no list is longer than 2 to the 40.
-/
import Derived.Test.YtholdafohofboaaGreatDoore8LSetM
import Derived.Test.YtholdafohofboaaGreatDoore8LBoxM
namespace Go.Proofs.YtholdafohofboaaGreatDoor
open Go.Abs
set_option linter.unusedVariables false
set_option linter.unusedSimpArgs false

/-- the best so far, if there is one -/
def durStep (c : Int → Int → Bool) (s : Bool × Int) (m : D_Mode) : Bool × Int := if (notB s.1 || c m.1 s.2) = true then (true, m.1) else s
def choF (a : D_Activity) (ms : List Int) (i : Nat) (out : List D_Mode) : List D_Mode := match a.2.2.1[i]? with | some m => if hasB ms (i : Int) = true then out ++ [m] else out | none => out
/-- the modes that are left -/
def choL (a : D_Activity) (ms : List Int) : List D_Mode := foldN (choF a ms) a.2.2.1.length 0 []
def durV (c : Int → Int → Bool) (a : D_Activity) (ms : List Int) : Int := ((choL a ms).foldl (durStep c) (false, 0)).2
def durF (c : Int → Int → Bool) (a : D_Activity) (ms : List Int) (i : Nat) (s : Bool × Int) : Bool × Int := match a.2.2.1[i]? with | some m => if hasB ms (i : Int) = true then durStep c s m else s | none => s
theorem dur_fold (c : Int → Int → Bool) (a : D_Activity) (ms : List Int) (s0 : Bool × Int) : ∀ (k i : Nat) (out : List D_Mode), foldN (durF c a ms) k i (out.foldl (durStep c) s0) = (foldN (choF a ms) k i out).foldl (durStep c) s0
  | 0, _, _ => rfl
  | k + 1, i, out => by
    simp only [foldN]
    rw [← dur_fold c a ms s0 k (i + 1)]
    congr 1
    unfold durF choF
    cases a.2.2.1[i]? with
    | none => rfl
    | some m =>
      simp only
      split
      · rw [List.foldl_append]; rfl
      · rfl
theorem choL_len (a : D_Activity) (ms : List Int) : (choL a ms).length ≤ a.2.2.1.length := by
  have : ∀ (k i : Nat) (out : List D_Mode), (foldN (choF a ms) k i out).length ≤ out.length + k := by
    intro k
    induction k with
    | zero => intro i out; exact Nat.le_refl _
    | succ k ih =>
      intro i out
      simp only [foldN]
      refine Nat.le_trans (ih _ _) ?_
      have : (choF a ms i out).length ≤ out.length + 1 := by
        unfold choF
        cases a.2.2.1[i]? with
        | none => simp
        | some m => simp only; split <;> simp
      omega
  have := this a.2.2.1.length 0 []
  rw [List.length_nil, Nat.zero_add] at this
  exact this
theorem chosen_eq (a : D_Activity) (ms : List Int) (u : Unit) (ha : a.2.2.1.length ≤ 1000000) (hm : ms.length ≤ 1099511627776) : impl_chosen (a, ms, u) () = some (choL a ms, ()) := by
  have l0 := fun A : Type => (fold_loop (A := A) (F := impl_chosen_L0) (fun i out => ((i : Int), (a.2.2.1.length : Int), a.2.2.1, ms, out, ())) a.2.2.1.length (fun i out => out.length ≤ i) (choF a ms) (fun out => Sum.inl (false, (a.2.2.1.length : Int), (a.2.2.1.length : Int), a.2.2.1, ms, out, ())) (by omega)
    (fun i out hi ho => by
      unfold choF
      rw [List.getElem?_eq_getElem hi]
      have ha' : addI out [a.2.2.1[i]] = some (out ++ [a.2.2.1[i]]) := addI_ok (by rw [room_eq]; simp; omega)
      constructor
      · unfold impl_chosen_L0
        simp only [lt_yes hi, if_true, getI_lt hi, some_bind', SetHas_impl _ _ _ hm]
        rcases tf (hasB ms (i : Int)) with h | h <;> simp [-Int.natCast_add, h, ha', idxN hi (show a.2.2.1.length ≤ 1099511627776 by omega) (Nat.le_refl _)]
      · simp only
        split
        · simp; omega
        · omega)
    (fun out ho => by
      unfold impl_chosen_L0
      simp only [lt_no, Bool.false_eq_true, if_false])
    (a := []) (Nat.le_refl _)).1
  have e0 : (((0 : Nat) : Int), (a.2.2.1.length : Int), a.2.2.1, ms, ([] : List D_Mode), ()) = ((0 : Int), (a.2.2.1.length : Int), a.2.2.1, ms, ([] : List D_Mode), ()) := rfl
  rw [e0] at l0
  unfold impl_chosen choL
  simp only [lenI_eq, l0, some_bind']
theorem step_flag {c : Int → Int → Bool} {s : Bool × Int} {m : D_Mode} : (durStep c s m).1 = true := by
  obtain ⟨f, n⟩ := s
  unfold durStep
  cases f <;> cases h : c m.1 n <;> simp [notB, h]
theorem MinDuration_impl (a : D_Activity) (ms : List Int) (u : Unit) (ha : a.2.2.1.length ≤ 1000000) (hm : ms.length ≤ 1099511627776) : impl_MinDuration (a, ms, u) () = some (durV (fun x n => ltZ x n) a ms, ()) := by
  have hcl := choL_len a ms
  have l0 := fun A : Type => (fold_list (A := A) (F := impl_MinDuration_L0) (fun i (s : Bool × Int) => ((i : Int), ((choL a ms).length : Int), choL a ms, s.2, ())) (choL a ms) (fun i s => notB s.1 = eqZ (i : Int) 0) (durStep fun x n => ltZ x n) (fun s => Sum.inl (false, ((choL a ms).length : Int), ((choL a ms).length : Int), choL a ms, s.2, ())) (by omega)
    (fun i s hi hs => by
      refine ⟨?_, ?_⟩
      · unfold impl_MinDuration_L0
        simp only [lt_yes hi, if_true, getI_lt hi, some_bind', ← hs]
        obtain ⟨f, n⟩ := s
        unfold durStep
        simp only
        rcases tf (notB f) with h | h <;> rcases tf (ltZ (choL a ms)[i].1 n) with h' | h' <;> simp [-Int.natCast_add, h, h', idxN hi (show (choL a ms).length ≤ 1099511627776 by omega) (Nat.le_refl _)]
      · rw [step_flag, notB_true]
        exact (eqZ_ne (by omega)).symm)
    (fun s hs => by
      unfold impl_MinDuration_L0
      simp only [lt_no, Bool.false_eq_true, if_false])
    (a := (false, 0)) (s := (0, ((choL a ms).length : Int), choL a ms, 0, ())) rfl rfl).1
  unfold impl_MinDuration durV
  simp only [chosen_eq _ _ _ ha hm, some_bind', lenI_eq, l0]
theorem MaxDuration_impl (a : D_Activity) (ms : List Int) (u : Unit) (ha : a.2.2.1.length ≤ 1000000) (hm : ms.length ≤ 1099511627776) : impl_MaxDuration (a, ms, u) () = some (durV (fun x n => ltZ n x) a ms, ()) := by
  have hcl := choL_len a ms
  have l0 := fun A : Type => (fold_list (A := A) (F := impl_MaxDuration_L0) (fun i (s : Bool × Int) => ((i : Int), ((choL a ms).length : Int), choL a ms, s.2, ())) (choL a ms) (fun i s => notB s.1 = eqZ (i : Int) 0) (durStep fun x n => ltZ n x) (fun s => Sum.inl (false, ((choL a ms).length : Int), ((choL a ms).length : Int), choL a ms, s.2, ())) (by omega)
    (fun i s hi hs => by
      refine ⟨?_, ?_⟩
      · unfold impl_MaxDuration_L0
        simp only [lt_yes hi, if_true, getI_lt hi, some_bind', ← hs]
        obtain ⟨f, n⟩ := s
        unfold durStep
        simp only
        rcases tf (notB f) with h | h <;> rcases tf (ltZ n (choL a ms)[i].1) with h' | h' <;> simp [-Int.natCast_add, h, h', idxN hi (show (choL a ms).length ≤ 1099511627776 by omega) (Nat.le_refl _)]
      · rw [step_flag, notB_true]
        exact (eqZ_ne (by omega)).symm)
    (fun s hs => by
      unfold impl_MaxDuration_L0
      simp only [lt_no, Bool.false_eq_true, if_false])
    (a := (false, 0)) (s := (0, ((choL a ms).length : Int), choL a ms, 0, ())) rfl rfl).1
  unfold impl_MaxDuration durV
  simp only [chosen_eq _ _ _ ha hm, some_bind', lenI_eq, l0]
open Go.Abs
set_option linter.unusedVariables false
set_option linter.unusedSimpArgs false

def rowCD (x y lo last : Int) (t : Nat) (out : List UInt8) : List UInt8 := out ++ (if (leZ x (t : Int) && ltZ (t : Int) y) = true then [35] else if (leZ lo (t : Int) && ltZ (t : Int) last) = true then [45] else [46])
theorem rowCD_len (x y lo last : Int) (t : Nat) (out : List UInt8) : (rowCD x y lo last t out).length = out.length + 1 := by
  unfold rowCD
  rw [List.length_append]
  congr 1
  split
  · rfl
  · split <;> rfl
theorem foldN_rowCD_len (x y lo last : Int) : ∀ (k i : Nat) (out : List UInt8), (foldN (rowCD x y lo last) k i out).length = out.length + k
  | 0, i, out => rfl
  | k + 1, i, out => by
    show (foldN (rowCD x y lo last) k (i + 1) (rowCD x y lo last i out)).length = _
    rw [foldN_rowCD_len x y lo last k (i + 1), rowCD_len]
    omega
theorem GenB.usable {p : D_Project} {b : D_Domain} (hP : GenP 6 p) (hB : GenB p b) (u : Unit) : impl_isUsable (p, b, u) () = some (true, ()) := by
  have hp : Sm_Project 1099511627776 p := hP.sm (by omega) (by omega)
  have hbs : Sm_Domain 1099511627776 b := hB.toGenB0.sm hP (by omega)
  have hal := hP.al
  have hne : emptyB b = false := hB.l.not_empty_of (f := mnB b) (g := fun _ => 0) fun i hi => by
    obtain ⟨v1, v2⟩ := hB.range hi
    have hml := (hP.a i hi).ml
    refine ⟨Int.le_refl _, v2.1, ?_⟩
    rw [hB.toGenB0.mo hi, hasB_iff]
    exact List.mem_map.2 ⟨0, List.mem_range.2 (by omega), rfl⟩
  unfold impl_isUsable
  simp only [DomainForm_impl _ _ _ hp hbs, hB.toGenB0.dom hP, DomainEmpty_impl _ _ hbs, hne, some_bind', if_true, notB_false]
theorem DomainRow_G {p : D_Project} {b : D_Domain} (hP : GenP 6 p) (hB : GenB p b) : ∃ v : List UInt8, (v.length : Int) = p.1 ∧ ∀ u, impl_DomainRow (p, b, 0, u) () = some (v, ()) := by
  have hp : Sm_Project 1099511627776 p := hP.sm (by omega) (by omega)
  have hal := hP.al
  have hdl := hP.dl
  have hi : 0 < p.2.1.length := by omega
  have hml := (hP.a 0 hi).ml
  obtain ⟨g1, g2, g3⟩ := hB.l.get hi
  replace g1 : getI b.1 0 = some (mnB b 0) := g1
  replace g2 : getI b.2.1 0 = some (mxB b 0) := g2
  replace g3 : getI b.2.2.1 0 = some (moB b 0) := g3
  have g4 : getI p.2.1 0 = some p.2.1[0] := getI_lt hi
  have hin : inB 0 0 (subZ .i64 (lenI p.2.1) 1) = true := by
    rw [inB_iff, lenI_eq, subZ64 (by omega) (by omega)]
    omega
  have hms : (moB b 0).length ≤ 1099511627776 := by
    rw [hB.toGenB0.mo hi, iotaI_length]
    omega
  have mni := fun u => MinDuration_impl p.2.1[0] (moB b 0) u (by omega) hms
  have mxi := fun u => MaxDuration_impl p.2.1[0] (moB b 0) u (by omega) hms
  generalize durV (fun x n => ltZ x n) p.2.1[0] (moB b 0) = dmin at mni
  generalize durV (fun x n => ltZ n x) p.2.1[0] (moB b 0) = dmax at mxi
  generalize mnB b 0 = x at g1
  generalize mxB b 0 = y at g2
  obtain ⟨n, hn⟩ : ∃ n : Nat, p.1 = (n : Int) := ⟨p.1.toNat, by omega⟩
  have hn60 : n ≤ 60 := by omega
  have loopI : ∀ A : Type, loopN (A := A) big impl_DomainRow_L0 (0, p.1, y, addZ .i64 x dmin, b, 0, addZ .i64 y dmax, [], ()) = some (.exit (Sum.inl (false, (n : Int), p.1, y, addZ .i64 x dmin, b, 0, addZ .i64 y dmax, foldN (rowCD y (addZ .i64 x dmin) x (addZ .i64 y dmax)) n 0 [], ()))) := by
    intro A
    have l0 := (fold_loop (A := A) (F := impl_DomainRow_L0) (fun k out => ((k : Int), p.1, y, addZ .i64 x dmin, b, (0 : Int), addZ .i64 y dmax, out, ())) n (fun k out => out.length = k) (rowCD y (addZ .i64 x dmin) x (addZ .i64 y dmax)) (fun out => Sum.inl (false, (n : Int), p.1, y, addZ .i64 x dmin, b, (0 : Int), addZ .i64 y dmax, out, ())) (by omega)
      (fun k out hk ho => by
        have hl : ltZ (k : Int) p.1 = true := by rw [hn]; exact lt_yes hk
        have a1 : ∀ c : UInt8, addI out [c] = some (out ++ [c]) := fun c => addI_ok (by rw [room_eq]; simp; omega)
        refine ⟨?_, by rw [rowCD_len, ho]⟩
        unfold impl_DomainRow_L0 rowCD
        simp only [hl, if_true]
        rcases tf (leZ y (k : Int)) with q1 | q1 <;> rcases tf (ltZ (k : Int) (addZ .i64 x dmin)) with q2 | q2 <;> rcases tf (leZ x (k : Int)) with q3 | q3 <;> rcases tf (ltZ (k : Int) (addZ .i64 y dmax)) with q4 | q4 <;>
          simp [-Int.natCast_add, q1, q2, q3, q4, a1, g1, idxN hk (Nat.le_refl _) (show n ≤ 1099511627776 by omega)])
      (fun out ho => by
        have hl : ltZ (n : Int) p.1 = false := by rw [hn]; exact lt_no n
        unfold impl_DomainRow_L0
        simp only [hl, Bool.false_eq_true, if_false])
      (a := []) rfl).1
    exact l0
  refine ⟨foldN (rowCD y (addZ .i64 x dmin) x (addZ .i64 y dmax)) n 0 [], ?_, fun u => ?_⟩
  · rw [foldN_rowCD_len, hn]
    simp
  · unfold impl_DomainRow impl_Project_compulsory impl_Project_duration
    simp only [hB.usable hP, hasActivity_eq, hin, notB_true, Bool.false_eq_true, if_false, some_bind', g1, g2, g3, g4, mni, mxi, loopI]
end Go.Proofs.YtholdafohofboaaGreatDoor
