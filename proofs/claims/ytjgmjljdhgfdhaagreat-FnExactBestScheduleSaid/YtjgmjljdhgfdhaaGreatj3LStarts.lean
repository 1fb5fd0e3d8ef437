/-
  Plain laws: all lists of starts; what the lists of modes hold: in the program and in the reference. Condition: no list is longer than 2 to the 40.
-/
import Derived.Test.YtjgmjljdhgfdhaaGreatj3LModes
namespace Go.Proofs.YtjgmjljdhgfdhaaGreat
open Go.Abs
set_option linter.unusedVariables false
set_option linter.unusedSimpArgs false

theorem foldl_flat0 {α β : Type} (f : α → List β) (l : List α) : l.foldl (fun out x => out ++ f x) [] = l.flatMap f := by
  rw [foldl_flat]
  rfl
/-- so many rounds -/
def startsV (n m : Nat) : List (List Int) := foldN (fun _ out => stepL (m + 1) out) n 0 [[]]
theorem stepL_len {k i : Nat} {out : List (List Int)} (h : ∀ l ∈ out, l.length = i) : ∀ l ∈ stepL k out, l.length = i + 1 := by
  intro l hl
  unfold stepL moreL at hl
  simp only [List.mem_flatMap, List.mem_map] at hl
  obtain ⟨l0, h0, m, -, rfl⟩ := hl
  have := h l0 h0
  simp
  omega
theorem pow13 (i : Nat) (h : i ≤ 3) : 13 ^ i ≤ 2197 := Nat.le_trans (Nat.pow_le_pow_right (by omega) h) (by decide)
theorem starts_inv {m : Nat} (hm : m ≤ 12) : ∀ (k i : Nat) (out : List (List Int)), i + k ≤ 3 → out.length ≤ 13 ^ i → (∀ l ∈ out, l.length = i) → (foldN (fun _ out => stepL (m + 1) out) k i out).length ≤ 13 ^ (i + k) ∧ ∀ l ∈ foldN (fun _ out => stepL (m + 1) out) k i out, l.length = i + k
  | 0, i, out, _, h1, h2 => ⟨h1, h2⟩
  | k + 1, i, out, hk, h1, h2 => by
    simp only [foldN]
    have := starts_inv hm k (i + 1) (stepL (m + 1) out) (by omega) (by
      rw [stepL_length, Nat.pow_succ]
      exact Nat.mul_le_mul h1 (by omega)) (stepL_len h2)
    rw [show i + 1 + k = i + (k + 1) by omega] at this
    exact this
theorem startsV_ok {n m : Nat} (hn : n ≤ 3) (hm : m ≤ 12) : (startsV n m).length ≤ 2197 ∧ ∀ l ∈ startsV n m, l.length = n := by
  have := starts_inv hm n 0 [[]] (by omega) (by simp) (by simp)
  rw [Nat.zero_add] at this
  exact ⟨Nat.le_trans this.1 (pow13 n hn), this.2⟩
theorem Starts_spec (n m : Nat) (u : Unit) (hn : n ≤ 3) (hm : m ≤ 12) : spec_l32Starts ((n : Int), (m : Int), u) () = some (startsV n m, ()) := by
  have l2 := fun A : Type => (fold_loop (A := A) (F := spec_l32Starts_L2) (fun i out => (((n - i : Nat) : Int), (m : Int), out, ())) n (fun i out => out.length ≤ 13 ^ i ∧ ∀ l ∈ out, l.length = i) (fun _ out => stepL (m + 1) out) (fun out => Sum.inl (false, ((n - n : Nat) : Int), (m : Int), out, ())) (by omega)
    (fun i out hi ho => by
      obtain ⟨ho1, ho2⟩ := ho
      have ho3 : out.length ≤ 2197 := Nat.le_trans ho1 (pow13 i (by omega))
      refine ⟨?_, ?_, stepL_len ho2⟩
      · have l1 := fun A : Type => (fold_list (A := A) (F := spec_l32Starts_L1) (fun j nxt => ((j : Int), (out.length : Int), out, nxt, ((n - i : Nat) : Int), (m : Int), ())) out (fun j nxt => nxt.length = j * (m + 1)) (fun nxt l => nxt ++ moreL (m + 1) l) (fun nxt => Sum.inl (false, (out.length : Int), (out.length : Int), out, nxt, ((n - i : Nat) : Int), (m : Int), ())) (by omega)
          (fun j nxt hj hx => by
            have hl := ho2 _ (List.getElem_mem hj)
            have hx3 : nxt.length ≤ 30000 := by
              have := Nat.mul_le_mul (show j ≤ 2197 by omega) (show m + 1 ≤ 13 by omega)
              omega
            refine ⟨?_, by rw [List.length_append, moreL_length, hx, Nat.succ_mul]⟩
            have l0 := fun A : Type => (fold_loop (A := A) (F := spec_l32Starts_L0) (fun t nxt => ((t : Int), out[j], (j : Int), (out.length : Int), out, nxt, ((n - i : Nat) : Int), (m : Int), ())) (m + 1) (fun t y => y.length = nxt.length + t) (fun t y => y ++ [out[j] ++ [(t : Int)]]) (fun y => Sum.inl (false, ((m + 1 : Nat) : Int), out[j], (j : Int), (out.length : Int), out, y, ((n - i : Nat) : Int), (m : Int), ())) (by omega)
              (fun t y ht hy => by
                have hle : leZ (t : Int) (m : Int) = true := by rw [leZ_iff]; omega
                refine ⟨?_, by simp [hy]; omega⟩
                unfold spec_l32Starts_L0
                simp only [hle, if_true, addNil out[j] (by omega), addOne out[j] _ (by omega), addOne y _ (show y.length ≤ 1048576 by omega), some_bind', idxN ht (Nat.le_refl _) (show m + 1 ≤ 1099511627776 by omega)])
              (fun y hy => by
                have hle : leZ ((m + 1 : Nat) : Int) (m : Int) = false := by rw [Bool.eq_false_iff, Ne, leZ_iff]; omega
                unfold spec_l32Starts_L0
                simp only [hle, Bool.false_eq_true, if_false])
              (a := nxt) rfl).1
            have e0 : (((0 : Nat) : Int), out[j], (j : Int), (out.length : Int), out, nxt, ((n - i : Nat) : Int), (m : Int), ()) = ((0 : Int), out[j], (j : Int), (out.length : Int), out, nxt, ((n - i : Nat) : Int), (m : Int), ()) := rfl
            rw [e0] at l0
            have e1 := foldN_iota (fun (y : List (List Int)) (x : Int) => y ++ [out[j] ++ [x]]) (m + 1) nxt
            unfold spec_l32Starts_L1
            simp only [lt_yes hj, if_true, getI_lt hj, some_bind', l0, e1, foldl_app_map, idxN hj (show out.length ≤ 1099511627776 by omega) (Nat.le_refl _)]
            rfl)
          (fun nxt hx => by
            unfold spec_l32Starts_L1
            simp only [lt_no, Bool.false_eq_true, if_false])
          (a := []) (s := (0, (out.length : Int), out, [], ((n - i : Nat) : Int), (m : Int), ())) rfl (by simp)).1
        have hpos : ltZ 0 ((n - i : Nat) : Int) = true := by rw [ltZ_iff]; omega
        have hsub : subZ .i64 ((n - i : Nat) : Int) 1 = ((n - (i + 1) : Nat) : Int) := by rw [subZ64 (by omega) (by omega)]; omega
        unfold spec_l32Starts_L2
        simp only [hpos, if_true, lenI_eq, l1, some_bind', foldl_flat0, hsub]
        rfl
      · rw [stepL_length, Nat.pow_succ]
        exact Nat.mul_le_mul ho1 (by omega))
    (fun out ho => by
      have hpos : ltZ 0 ((n - n : Nat) : Int) = false := by rw [Nat.sub_self]; rfl
      unfold spec_l32Starts_L2
      simp only [hpos, Bool.false_eq_true, if_false])
    (a := [[]]) ⟨by simp, by simp⟩).1
  have e0 : (((n - 0 : Nat) : Int), (m : Int), ([[]] : List (List Int)), ()) = ((n : Int), (m : Int), ([[]] : List (List Int)), ()) := rfl
  rw [e0] at l2
  unfold spec_l32Starts startsV
  simp only [l2, some_bind']
theorem Starts_impl (n m : Nat) (u : Unit) (hn : n ≤ 3) (hm : m ≤ 12) : impl_startLists ((n : Int), (m : Int), u) () = some (startsV n m, ()) := by
  have hm1 : addZ .i64 (m : Int) 1 = ((m + 1 : Nat) : Int) := by rw [addZ64 (by omega) (by omega)]; omega
  have l2 := fun A : Type => (fold_loop (A := A) (F := impl_startLists_L2) (fun i out => ((i : Int), (n : Int), (m : Int), out, ())) n (fun i out => out.length ≤ 13 ^ i ∧ ∀ l ∈ out, l.length = i) (fun _ out => stepL (m + 1) out) (fun out => Sum.inl (false, (n : Int), (n : Int), (m : Int), out, ())) (by omega)
    (fun i out hi ho => by
      obtain ⟨ho1, ho2⟩ := ho
      have ho3 : out.length ≤ 2197 := Nat.le_trans ho1 (pow13 i (by omega))
      refine ⟨?_, ?_, stepL_len ho2⟩
      · have l1 := fun A : Type => (fold_list (A := A) (F := impl_startLists_L1) (fun j nxt => ((j : Int), (out.length : Int), out, nxt, (i : Int), (n : Int), (m : Int), ())) out (fun j nxt => nxt.length = j * (m + 1)) (fun nxt l => nxt ++ moreL (m + 1) l) (fun nxt => Sum.inl (false, (out.length : Int), (out.length : Int), out, nxt, (i : Int), (n : Int), (m : Int), ())) (by omega)
          (fun j nxt hj hx => by
            have hl := ho2 _ (List.getElem_mem hj)
            have hx3 : nxt.length ≤ 30000 := by
              have := Nat.mul_le_mul (show j ≤ 2197 by omega) (show m + 1 ≤ 13 by omega)
              omega
            refine ⟨?_, by rw [List.length_append, moreL_length, hx, Nat.succ_mul]⟩
            have l0 := fun A : Type => (fold_loop (A := A) (F := impl_startLists_L0) (fun t nxt => ((t : Int), ((m + 1 : Nat) : Int), out[j], (j : Int), (out.length : Int), out, nxt, (i : Int), (n : Int), (m : Int), ())) (m + 1) (fun t y => y.length = nxt.length + t) (fun t y => y ++ [out[j] ++ [(t : Int)]]) (fun y => Sum.inl (false, ((m + 1 : Nat) : Int), ((m + 1 : Nat) : Int), out[j], (j : Int), (out.length : Int), out, y, (i : Int), (n : Int), (m : Int), ())) (by omega)
              (fun t y ht hy => by
                refine ⟨?_, by simp [hy]; omega⟩
                unfold impl_startLists_L0 slices_Clone_int_int
                simp only [lt_yes ht, if_true, addNil out[j] (by omega), addOne out[j] _ (by omega), addOne y _ (show y.length ≤ 1048576 by omega), some_bind', idxN ht (Nat.le_refl _) (show m + 1 ≤ 1099511627776 by omega)])
              (fun y hy => by
                unfold impl_startLists_L0
                simp only [lt_no, Bool.false_eq_true, if_false])
              (a := nxt) rfl).1
            have e0 : (((0 : Nat) : Int), ((m + 1 : Nat) : Int), out[j], (j : Int), (out.length : Int), out, nxt, (i : Int), (n : Int), (m : Int), ()) = ((0 : Int), ((m + 1 : Nat) : Int), out[j], (j : Int), (out.length : Int), out, nxt, (i : Int), (n : Int), (m : Int), ()) := rfl
            rw [e0] at l0
            have e1 := foldN_iota (fun (y : List (List Int)) (x : Int) => y ++ [out[j] ++ [x]]) (m + 1) nxt
            unfold impl_startLists_L1
            simp only [lt_yes hj, if_true, getI_lt hj, some_bind', hm1, l0, e1, foldl_app_map, idxN hj (show out.length ≤ 1099511627776 by omega) (Nat.le_refl _)]
            rfl)
          (fun nxt hx => by
            unfold impl_startLists_L1
            simp only [lt_no, Bool.false_eq_true, if_false])
          (a := []) (s := (0, (out.length : Int), out, [], (i : Int), (n : Int), (m : Int), ())) rfl (by simp)).1
        unfold impl_startLists_L2
        simp only [lt_yes hi, if_true, lenI_eq, l1, some_bind', foldl_flat0, idxN hi (Nat.le_refl _) (show n ≤ 1099511627776 by omega)]
        rfl
      · rw [stepL_length, Nat.pow_succ]
        exact Nat.mul_le_mul ho1 (by omega))
    (fun out ho => by
      unfold impl_startLists_L2
      simp only [lt_no, Bool.false_eq_true, if_false])
    (a := [[]]) ⟨by simp, by simp⟩).1
  have e0 : (((0 : Nat) : Int), (n : Int), (m : Int), ([[]] : List (List Int)), ()) = ((0 : Int), (n : Int), (m : Int), ([[]] : List (List Int)), ()) := rfl
  rw [e0] at l2
  unfold impl_startLists startsV
  simp only [l2, some_bind']
/-- a list of modes that the activities have -/
def modesOk (acts : List D_Activity) (l : List Int) : Prop := l.length = acts.length ∧ ∀ i (h : i < acts.length), ∃ m : Nat, l[i]? = some (m : Int) ∧ m < acts[i].2.2.1.length
theorem lists_mem : ∀ (rest pre : List D_Activity) (out : List (List Int)), (∀ l ∈ out, modesOk pre l) → ∀ l ∈ rest.foldl (fun out a => stepL a.2.2.1.length out) out, modesOk (pre ++ rest) l
  | [], pre, out, h, l, hl => by rw [List.append_nil]; exact h l hl
  | a :: rest, pre, out, h, l, hl => by
    rw [List.foldl_cons] at hl
    have := lists_mem rest (pre ++ [a]) (stepL a.2.2.1.length out) (fun l hl => by
      unfold stepL moreL at hl
      simp only [List.mem_flatMap, List.mem_map] at hl
      obtain ⟨l0, h0, x, hx, rfl⟩ := hl
      obtain ⟨m, rfl, hm⟩ := iotaI_mem hx
      obtain ⟨e1, e2⟩ := h l0 h0
      refine ⟨by simp [e1], fun i hi => ?_⟩
      by_cases hip : i < pre.length
      · obtain ⟨m', g1, g2⟩ := e2 i hip
        refine ⟨m', by rw [List.getElem?_append_left (by omega)]; exact g1, ?_⟩
        rw [List.getElem_append_left hip]; exact g2
      · have hip' : i = pre.length := by simp at hi; omega
        subst hip'
        refine ⟨m, by rw [← e1, List.getElem?_append_right (Nat.le_refl _)]; simp, ?_⟩
        simpa using hm) l hl
    simpa using this
theorem lists_count : ∀ (acts : List D_Activity) (out : List (List Int)), (∀ a ∈ acts, a.2.2.1.length ≤ 3) → (acts.foldl (fun out a => stepL a.2.2.1.length out) out).length ≤ out.length * 3 ^ acts.length
  | [], out, _ => by simp
  | a :: acts, out, h => by
    rw [List.foldl_cons]
    have h1 := lists_count acts (stepL a.2.2.1.length out) fun b hb => h b (by simp [hb])
    rw [stepL_length] at h1
    refine Nat.le_trans h1 ?_
    rw [List.length_cons, Nat.pow_succ, Nat.mul_assoc]
    refine Nat.mul_le_mul_left _ ?_
    rw [Nat.mul_comm]
    exact Nat.mul_le_mul_left _ (h a (by simp))
theorem listsOf_ok (acts : List D_Activity) (h3 : acts.length ≤ 3) (h : ∀ a ∈ acts, a.2.2.1.length ≤ 3) : (listsOf acts).length ≤ 27 ∧ ∀ l ∈ listsOf acts, modesOk acts l := by
  refine ⟨?_, fun l hl => ?_⟩
  · have := lists_count acts [[]] h
    have h27 : 3 ^ acts.length ≤ 27 := Nat.le_trans (Nat.pow_le_pow_right (by omega) h3) (by decide)
    unfold listsOf
    simp only [List.length_singleton, Nat.one_mul] at this
    omega
  · have := lists_mem acts [] [[]] (fun l hl => by
      rw [List.mem_singleton.1 hl]
      exact ⟨rfl, fun i hi => absurd hi (by simp)⟩) l hl
    simpa using this
end Go.Proofs.YtjgmjljdhgfdhaaGreat
