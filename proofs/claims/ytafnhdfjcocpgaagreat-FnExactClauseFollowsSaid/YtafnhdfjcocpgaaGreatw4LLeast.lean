/-
  Plain laws: the least of what the modes of an activity that are left use or consume, in the program and in the reference. Condition: no list is longer than 2 to the 40; each mode has a number at the place asked for.
-/
import Derived.Test.YtafnhdfjcocpgaaGreatw4LMinDur
import Derived.Test.YtafnhdfjcocpgaaGreatw4LMach
namespace Go.Proofs.YtafnhdfjcocpgaaGreat
open Go.Abs
set_option linter.unusedVariables false
set_option linter.unusedSimpArgs false

def lstStep (val : D_Mode → Int) (s : Bool × Int) (m : D_Mode) : Bool × Int := if (notB s.1 || ltZ (val m) s.2) = true then (true, val m) else s
def lstV (val : D_Mode → Int) (a : D_Activity) (ms : List Int) : Int := ((choL a ms).foldl (lstStep val) (false, 0)).2
def lstF (val : D_Mode → Int) (a : D_Activity) (ms : List Int) (i : Nat) (s : Bool × Int) : Bool × Int := match a.2.2.1[i]? with | some m => if hasB ms (i : Int) = true then lstStep val s m else s | none => s
theorem lst_fold (val : D_Mode → Int) (a : D_Activity) (ms : List Int) (s0 : Bool × Int) : ∀ (k i : Nat) (out : List D_Mode), foldN (lstF val a ms) k i (out.foldl (lstStep val) s0) = (foldN (choF a ms) k i out).foldl (lstStep val) s0
  | 0, _, _ => rfl
  | k + 1, i, out => by
    simp only [foldN]
    rw [← lst_fold val a ms s0 k (i + 1)]
    congr 1
    unfold lstF choF
    cases a.2.2.1[i]? with
    | none => rfl
    | some m =>
      simp only
      split
      · rw [List.foldl_append]; rfl
      · rfl
theorem lst_flag {val : D_Mode → Int} {s : Bool × Int} {m : D_Mode} : (lstStep val s m).1 = true := by
  obtain ⟨f, n⟩ := s
  unfold lstStep
  cases f <;> cases h : ltZ (val m) n <;> simp [notB, h]
theorem choL_mem {a : D_Activity} {ms : List Int} : ∀ m ∈ choL a ms, m ∈ a.2.2.1 := by
  have : ∀ (k i : Nat) (out : List D_Mode), (∀ m ∈ out, m ∈ a.2.2.1) → ∀ m ∈ foldN (choF a ms) k i out, m ∈ a.2.2.1 := by
    intro k
    induction k with
    | zero => intro i out h; exact h
    | succ k ih =>
      intro i out h
      refine ih (i + 1) _ fun m hm => ?_
      unfold choF at hm
      cases hx : a.2.2.1[i]? with
      | none => rw [hx] at hm; exact h m hm
      | some x =>
        rw [hx] at hm
        simp only at hm
        split at hm
        · rcases List.mem_append.1 hm with hm | hm
          · exact h m hm
          · rw [List.mem_singleton.1 hm]; exact List.mem_of_getElem? hx
        · exact h m hm
  exact this _ 0 [] (by simp)
theorem leastOf_impl (L : List D_Mode) (f : (D_Mode × Unit) → Option (Int × Bool × Unit)) (val : D_Mode → Int) (u : Unit) (hl : L.length ≤ 1000000) (hf : ∀ m ∈ L, f (m, ()) = some (val m, true, ())) : impl_leastOf (L, f, u) () = some ((L.foldl (lstStep val) (false, 0)).2, ()) := by
  have l0 := fun A : Type => (fold_list (A := A) (F := impl_leastOf_L0) (fun i (s : Bool × Int) => ((i : Int), (L.length : Int), L, f, s.2, ())) L (fun i s => notB s.1 = eqZ (i : Int) 0) (lstStep val) (fun s => Sum.inl (false, (L.length : Int), (L.length : Int), L, f, s.2, ())) (by omega)
    (fun i s hi hs => by
      refine ⟨?_, ?_⟩
      · unfold impl_leastOf_L0
        simp only [lt_yes hi, if_true, getI_lt hi, some_bind', hf _ (List.getElem_mem hi), notB_true, Bool.false_eq_true, if_false, ← hs]
        obtain ⟨fl, n⟩ := s
        unfold lstStep
        simp only
        rcases tf (notB fl) with h | h <;> rcases tf (ltZ (val L[i]) n) with h' | h' <;> simp [-Int.natCast_add, h, h', idxN hi (show L.length ≤ 1099511627776 by omega) (Nat.le_refl _)]
      · rw [lst_flag, notB_true]
        exact (eqZ_ne (by omega)).symm)
    (fun s hs => by
      unfold impl_leastOf_L0
      simp only [lt_no, Bool.false_eq_true, if_false])
    (a := (false, 0)) (s := (0, (L.length : Int), L, f, 0, ())) rfl rfl).1
  unfold impl_leastOf
  simp only [lenI_eq, l0, some_bind']
/-- what a mode has at a place of what is taken -/
def atV (take : Bool) (k : Int) (m : D_Mode) : Int := (getI (if take = true then m.2.2.1 else m.2.1) k).getD 0
theorem Least_spec (a : D_Activity) (ms : List Int) (k : Int) (take : Bool) (u : Unit) (ha : a.2.2.1.length ≤ 1000000) (hm : ms.length ≤ 1099511627776)
    (hk : ∀ m ∈ a.2.2.1, inB k 0 (subZ .i64 (lenI (if take = true then m.2.2.1 else m.2.1)) 1) = true ∧ getI (if take = true then m.2.2.1 else m.2.1) k = some (atV take k m)) : spec_l04Least (a, ms, k, take, false, u) () = some (lstV (atV take k) a ms, ()) := by
  have l0 := fun A : Type => (fold_loop (A := A) (F := spec_l04Least_L0) (fun i (s : Bool × Int) => (s.1, (i : Int), (a.2.2.1.length : Int), a.2.2.1, ms, take, k, false, s.2, ())) a.2.2.1.length (fun _ _ => True) (lstF (atV take k) a ms) (fun s => Sum.inl (false, s.1, (a.2.2.1.length : Int), (a.2.2.1.length : Int), a.2.2.1, ms, take, k, false, s.2, ())) (by omega)
    (fun i s hi _ => by
      refine ⟨?_, trivial⟩
      obtain ⟨f, n⟩ := s
      have h9 := hk _ (List.getElem_mem hi)
      unfold spec_l04Least_L0 lstF lstStep
      rw [List.getElem?_eq_getElem hi]
      simp only [lt_yes hi, if_true, getI_lt hi, some_bind', SetHas_spec _ _ _ hm]
      generalize atV take k a.2.2.1[i] = v at *
      rcases tf take with rfl | rfl
      · simp only [Bool.false_eq_true, if_false] at h9
        rcases tf (hasB ms (i : Int)) with h | h <;> rcases tf f with rfl | rfl <;> rcases tf (ltZ v n) with h2 | h2 <;> simp [-Int.natCast_add, notB_true, notB_false, l01In_eq, h, h2, h9.1, h9.2, idxN hi (show a.2.2.1.length ≤ 1099511627776 by omega) (Nat.le_refl _)]
      · simp only [if_true] at h9
        rcases tf (hasB ms (i : Int)) with h | h <;> rcases tf f with rfl | rfl <;> rcases tf (ltZ v n) with h2 | h2 <;> simp [-Int.natCast_add, notB_true, notB_false, l01In_eq, h, h2, h9.1, h9.2, idxN hi (show a.2.2.1.length ≤ 1099511627776 by omega) (Nat.le_refl _)])
    (fun s _ => by
      unfold spec_l04Least_L0
      simp only [lt_no, Bool.false_eq_true, if_false])
    (a := (false, 0)) trivial).1
  have e0 : (false, ((0 : Nat) : Int), (a.2.2.1.length : Int), a.2.2.1, ms, take, k, false, (0 : Int), ()) = (false, (0 : Int), (a.2.2.1.length : Int), a.2.2.1, ms, take, k, false, (0 : Int), ()) := rfl
  simp only [e0] at l0
  have e1 := lst_fold (atV take k) a ms (false, 0) a.2.2.1.length 0 []
  simp only [List.foldl_nil] at e1
  unfold spec_l04Least lstV choL
  simp only [lenI_eq, l0, some_bind', e1]
theorem element_eq (l : List Int) (k : Int) (u : Unit) {v : Int} (h1 : inB k 0 (subZ .i64 (lenI l) 1) = true) (h2 : getI l k = some v) : impl_element (l, k, u) () = some ((v, true, ()), ()) := by
  unfold impl_element
  simp only [within_eq, h1, h2, some_bind', notB_true, Bool.false_eq_true, if_false]
theorem MinUsage_both (a : D_Activity) (ms : List Int) (k : Int) (ha : a.2.2.1.length ≤ 1000000) (hm : ms.length ≤ 1099511627776)
    (hk : ∀ m ∈ a.2.2.1, inB k 0 (subZ .i64 (lenI m.2.1) 1) = true ∧ getI m.2.1 k = some (atV false k m)) : (∀ u, spec_MinUsage (a, ms, k, u) () = some (lstV (atV false k) a ms, ())) ∧ ∀ u, impl_MinUsage (a, ms, k, u) () = some (lstV (atV false k) a ms, ()) := by
  have hcl := choL_len a ms
  have hL := fun u => Least_spec a ms k false u ha hm (fun m hm => by simpa using hk m hm)
  have hO := fun u => leastOf_impl (choL a ms) (fun v2 => (Option.bind (impl_MinUsage_1 v2 (k, ())) fun v3 => (some v3.1))) (atV false k) u (by omega) (fun m hmc => by
    have := hk m (choL_mem m hmc)
    unfold impl_MinUsage_1
    simp only [element_eq _ _ _ this.1 this.2, some_bind'])
  refine ⟨fun u => ?_, fun u => ?_⟩
  · unfold spec_MinUsage
    simp only [hL, some_bind']
  · unfold impl_MinUsage
    simp only [chosen_eq _ _ _ ha hm, some_bind', hO]
    rfl
theorem MinConsumption_both (a : D_Activity) (ms : List Int) (k : Int) (ha : a.2.2.1.length ≤ 1000000) (hm : ms.length ≤ 1099511627776)
    (hk : ∀ m ∈ a.2.2.1, inB k 0 (subZ .i64 (lenI m.2.2.1) 1) = true ∧ getI m.2.2.1 k = some (atV true k m)) : (∀ u, spec_MinConsumption (a, ms, k, u) () = some (lstV (atV true k) a ms, ())) ∧ ∀ u, impl_MinConsumption (a, ms, k, u) () = some (lstV (atV true k) a ms, ()) := by
  have hcl := choL_len a ms
  have hL := fun u => Least_spec a ms k true u ha hm (fun m hm => by simpa using hk m hm)
  have hO := fun u => leastOf_impl (choL a ms) (fun v2 => (Option.bind (impl_MinConsumption_1 v2 (k, ())) fun v3 => (some v3.1))) (atV true k) u (by omega) (fun m hmc => by
    have := hk m (choL_mem m hmc)
    unfold impl_MinConsumption_1
    simp only [element_eq _ _ _ this.1 this.2, some_bind'])
  refine ⟨fun u => ?_, fun u => ?_⟩
  · unfold spec_MinConsumption
    simp only [hL, some_bind']
  · unfold impl_MinConsumption
    simp only [chosen_eq _ _ _ ha hm, some_bind', hO]
    rfl
/-- what the modes of a valid project have -/
theorem mode_atM {p : D_Project} (h : projB p = true) {i : Nat} (hi : i < p.2.1.length) : ∀ m ∈ p.2.1[i].2.2.1, 1 ≤ m.1 ∧ m.1 ≤ 12 ∧ m.2.1.length = p.2.2.2.1.length ∧ m.2.2.1.length = p.2.2.2.2.1.length ∧ (∀ x ∈ m.2.1, 0 ≤ x ∧ x ≤ 20) ∧ ∀ x ∈ m.2.2.1, 0 ≤ x ∧ x ≤ 20 := by
  unfold projB at h
  simp only [Bool.and_eq_true] at h
  have := h.1.1.1.2
  rw [List.all_eq_true] at this
  have := this i (by simpa using hi)
  unfold actI at this
  rw [List.getElem?_eq_getElem hi] at this
  simp only [Bool.and_eq_true] at this
  have h1 := this.1
  unfold actB at h1
  simp only [Bool.and_eq_true] at h1
  intro m hm
  have h2 := List.all_eq_true.1 h1.1 m hm
  unfold modeB at h2
  simp only [Bool.and_eq_true, eqZ_dec, decide_eq_true_eq, lenI_eq] at h2
  have h3 := inB_iff.1 h2.1.1
  refine ⟨h3.1, h3.2, by have := h2.1.2.2; omega, by have := h2.2.2; omega, fun x hx => inB_iff.1 (List.all_eq_true.1 h2.1.2.1 x hx), fun x hx => inB_iff.1 (List.all_eq_true.1 h2.2.1 x hx)⟩
theorem usage_atM {p : D_Project} (hp : Sm_Project 1099511627776 p) (h : projB p = true) {i j : Nat} (hi : i < p.2.1.length) (hj : j < p.2.2.2.1.length) : ∀ m ∈ p.2.1[i].2.2.1, inB (j : Int) 0 (subZ .i64 (lenI m.2.1) 1) = true ∧ getI m.2.1 (j : Int) = some (atV false (j : Int) m) ∧ 0 ≤ atV false (j : Int) m ∧ atV false (j : Int) m ≤ 20 := fun m hm => by
  obtain ⟨-, -, h1, -, h2, -⟩ := mode_atM h hi m hm
  have hr := hp.2.2.2.1.1
  have hj' : j < m.2.1.length := by omega
  have e : atV false (j : Int) m = m.2.1[j] := by
    unfold atV
    simp only [Bool.false_eq_true, if_false, getI_lt hj', Option.getD_some]
  refine ⟨inB_atP (by omega) hj', by rw [e, getI_lt hj'], ?_, ?_⟩
  · rw [e]; exact (h2 _ (List.getElem_mem hj')).1
  · rw [e]; exact (h2 _ (List.getElem_mem hj')).2
theorem cons_atM {p : D_Project} (hp : Sm_Project 1099511627776 p) (h : projB p = true) {i j : Nat} (hi : i < p.2.1.length) (hj : j < p.2.2.2.2.1.length) : ∀ m ∈ p.2.1[i].2.2.1, inB (j : Int) 0 (subZ .i64 (lenI m.2.2.1) 1) = true ∧ getI m.2.2.1 (j : Int) = some (atV true (j : Int) m) := fun m hm => by
  obtain ⟨-, -, -, h1, -, -⟩ := mode_atM h hi m hm
  have hr := hp.2.2.2.2.1.1
  have hj' : j < m.2.2.1.length := by omega
  have e : atV true (j : Int) m = m.2.2.1[j] := by
    unfold atV
    simp only [if_true, getI_lt hj', Option.getD_some]
  exact ⟨inB_atP (by omega) hj', by rw [e, getI_lt hj']⟩
theorem mode_len {p : D_Project} (h : projB p = true) {i : Nat} (hi : i < p.2.1.length) : p.2.1[i].2.2.1.length ≤ 3 := by
  unfold projB at h
  simp only [Bool.and_eq_true] at h
  have := h.1.1.1.2
  rw [List.all_eq_true] at this
  have := this i (by simpa using hi)
  unfold actI at this
  rw [List.getElem?_eq_getElem hi] at this
  simp only [Bool.and_eq_true] at this
  have h1 := this.1
  unfold actB at h1
  simp only [Bool.and_eq_true] at h1
  have := inB_iff.1 h1.2.2
  omega
end Go.Proofs.YtafnhdfjcocpgaaGreat
