/-
  Plain laws: all lists of modes, in the program and in the reference. Condition: no list is longer than 2 to the 40.
-/
import Derived.Test.YtjgmjljdhgfdhaaGreatj3LProjM
namespace Go.Proofs.YtjgmjljdhgfdhaaGreat
open Go.Abs
set_option linter.unusedVariables false
set_option linter.unusedSimpArgs false

theorem foldl_app_map {α β : Type} (f : α → β) : ∀ (l : List α) (out : List β), l.foldl (fun out x => out ++ [f x]) out = out ++ l.map f
  | [], out => by simp
  | x :: l, out => by
    simp only [List.foldl_cons, List.map_cons]
    rw [foldl_app_map f l]
    simp
theorem foldl_flat {α β : Type} (f : α → List β) : ∀ (l : List α) (out : List β), l.foldl (fun out x => out ++ f x) out = out ++ l.flatMap f
  | [], out => by simp
  | x :: l, out => by
    simp only [List.foldl_cons, List.flatMap_cons]
    rw [foldl_flat f l]
    simp
theorem addNil {α : Type} (x : List α) (h : x.length ≤ 1048576) : addI [] x = some x := by
  rw [addI_ok (by rw [room_eq]; simp; omega)]
  rfl
theorem addOne {α : Type} (x : List α) (y : α) (h : x.length ≤ 1048576) : addI x [y] = some (x ++ [y]) := addI_ok (by rw [room_eq]; simp; omega)
/-- every list with every number behind it -/
def moreL (k : Nat) (l : List Int) : List (List Int) := (iotaI k).map fun m => l ++ [m]
def stepL (k : Nat) (out : List (List Int)) : List (List Int) := out.flatMap (moreL k)
def listsOf (acts : List D_Activity) : List (List Int) := acts.foldl (fun out a => stepL a.2.2.1.length out) [[]]
theorem moreL_length (k : Nat) (l : List Int) : (moreL k l).length = k := by simp [moreL, iotaI_length]
theorem stepL_length (k : Nat) : ∀ (out : List (List Int)), (stepL k out).length = out.length * k
  | [] => by simp [stepL]
  | x :: out => by
    have := stepL_length k out
    unfold stepL at this ⊢
    simp only [List.flatMap_cons, List.length_append, moreL_length, this, List.length_cons, Nat.succ_mul]
    omega
theorem stepL_mem {k i : Nat} {out : List (List Int)} (h : ∀ l ∈ out, l.length ≤ i) : ∀ l ∈ stepL k out, l.length ≤ i + 1 := by
  intro l hl
  unfold stepL moreL at hl
  simp only [List.mem_flatMap, List.mem_map] at hl
  obtain ⟨l0, h0, m, -, rfl⟩ := hl
  have := h l0 h0
  simp
  omega

theorem L0_eq : impl_AllModeLists_L0 = spec_AllModeLists_L0 := by
  funext v
  unfold impl_AllModeLists_L0 spec_AllModeLists_L0 slices_Clone_int_int
  simp only
  cases addI [] v.2.2.1 <;> rfl
theorem L1_eq : impl_AllModeLists_L1 = spec_AllModeLists_L1 := by
  unfold impl_AllModeLists_L1 spec_AllModeLists_L1
  rw [L0_eq]
  try rfl
theorem L2_eq : impl_AllModeLists_L2 = spec_AllModeLists_L2 := by
  unfold impl_AllModeLists_L2 spec_AllModeLists_L2
  rw [L1_eq]
  try rfl

theorem lists_loop (acts : List D_Activity) (hn : acts.length ≤ 6) (hk : ∀ a ∈ acts, a.2.2.1.length ≤ 3) :
    (∀ A : Type, loopN (A := A) big impl_AllModeLists_L2 (0, lenI acts, acts, [[]], ()) = some (.exit (Sum.inl (false, lenI acts, lenI acts, acts, listsOf acts, ())))) ∧ (listsOf acts).length ≤ 729 ∧ ∀ l ∈ listsOf acts, l.length ≤ 6 := by
  have hpow : ∀ i, i ≤ 6 → 3 ^ i ≤ 729 := fun i hi => Nat.le_trans (Nat.pow_le_pow_right (by omega) hi) (by decide)
  have l2 := fun A : Type => fold_list (A := A) (F := impl_AllModeLists_L2) (fun i out => ((i : Int), lenI acts, acts, out, ())) acts (fun i out => out.length ≤ 3 ^ i ∧ ∀ l ∈ out, l.length ≤ i) (fun out a => stepL a.2.2.1.length out) (fun out => Sum.inl (false, lenI acts, lenI acts, acts, out, ())) (by omega)
    (fun i out hi ho => by
      obtain ⟨ho1, ho2⟩ := ho
      have ha := hk _ (List.getElem_mem hi)
      have ho3 : out.length ≤ 729 := Nat.le_trans ho1 (hpow i (by omega))
      have hlt : ltZ (i : Int) (lenI acts) = true := lt_yes hi
      refine ⟨?_, ?_, stepL_mem ho2⟩
      · have l1 := fun A : Type => (fold_list (A := A) (F := impl_AllModeLists_L1) (fun j nxt => ((j : Int), lenI out, out, acts[i], nxt, (i : Int), lenI acts, acts, ())) out (fun j nxt => nxt.length = j * acts[i].2.2.1.length) (fun nxt l => nxt ++ moreL acts[i].2.2.1.length l) (fun nxt => Sum.inl (false, lenI out, lenI out, out, acts[i], nxt, (i : Int), lenI acts, acts, ())) (by omega)
          (fun j nxt hj hx => by
            have hl := ho2 _ (List.getElem_mem hj)
            have hx3 : nxt.length ≤ 2187 := by
              have := Nat.mul_le_mul (show j ≤ 729 by omega) ha
              omega
            have hlt : ltZ (j : Int) (lenI out) = true := lt_yes hj
            refine ⟨?_, by rw [List.length_append, moreL_length, hx, Nat.succ_mul]⟩
            have l0 := fun A : Type => (fold_loop (A := A) (F := impl_AllModeLists_L0) (fun m nxt => ((m : Int), lenI acts[i].2.2.1, out[j], (j : Int), lenI out, out, acts[i], nxt, (i : Int), lenI acts, acts, ())) acts[i].2.2.1.length (fun m y => y.length = nxt.length + m) (fun m y => y ++ [out[j] ++ [(m : Int)]]) (fun y => Sum.inl (false, lenI acts[i].2.2.1, lenI acts[i].2.2.1, out[j], (j : Int), lenI out, out, acts[i], y, (i : Int), lenI acts, acts, ())) (by omega)
              (fun m y hm hy => by
                have hlt : ltZ (m : Int) (lenI acts[i].2.2.1) = true := lt_yes hm
                have hcl : ∀ u, slices_Clone_int_int (out[j], u) () = some (out[j], ()) := fun u => by
                  unfold slices_Clone_int_int
                  simp only [addNil out[j] (by omega), some_bind']
                refine ⟨?_, by simp [hy]; omega⟩
                unfold impl_AllModeLists_L0
                simp only [hlt, if_true, hcl, addOne out[j] _ (by omega), addOne y _ (show y.length ≤ 1048576 by omega), some_bind', idxN hm (show acts[i].2.2.1.length ≤ 1099511627776 by omega) (Nat.le_refl _)])
              (fun y hy => by
                have hlt : ltZ (acts[i].2.2.1.length : Int) (lenI acts[i].2.2.1) = false := lt_no _
                unfold impl_AllModeLists_L0
                simp only [hlt, Bool.false_eq_true, if_false]
                rfl)
              (a := nxt) rfl).1
            have e0 : (((0 : Nat) : Int), lenI acts[i].2.2.1, out[j], (j : Int), lenI out, out, acts[i], nxt, (i : Int), lenI acts, acts, ()) = ((0 : Int), lenI acts[i].2.2.1, out[j], (j : Int), lenI out, out, acts[i], nxt, (i : Int), lenI acts, acts, ()) := rfl
            rw [e0] at l0
            have e1 := foldN_iota (fun (y : List (List Int)) (x : Int) => y ++ [out[j] ++ [x]]) acts[i].2.2.1.length nxt
            unfold impl_AllModeLists_L1
            simp only [hlt, if_true, getI_lt hj, some_bind', l0, e1, foldl_app_map, idxN hj (show out.length ≤ 1099511627776 by omega) (Nat.le_refl _)]
            rfl)
          (fun nxt hx => by
            have hlt : ltZ (out.length : Int) (lenI out) = false := lt_no _
            unfold impl_AllModeLists_L1
            simp only [hlt, Bool.false_eq_true, if_false]
            rfl)
          (a := []) (s := (0, lenI out, out, acts[i], [], (i : Int), lenI acts, acts, ())) rfl (by simp)).1
        unfold impl_AllModeLists_L2
        simp only [hlt, if_true, getI_lt hi, some_bind', l1, foldl_flat, List.nil_append, idxN hi (show acts.length ≤ 1099511627776 by omega) (Nat.le_refl _)]
        rfl
      · rw [stepL_length, Nat.pow_succ]
        exact Nat.mul_le_mul ho1 ha)
    (fun out ho => by
      have hlt : ltZ (acts.length : Int) (lenI acts) = false := lt_no _
      unfold impl_AllModeLists_L2
      simp only [hlt, Bool.false_eq_true, if_false]
      rfl)
    (a := [[]]) (s := (0, lenI acts, acts, [[]], ())) rfl ⟨by simp, by simp⟩
  refine ⟨fun A => (l2 A).1, Nat.le_trans (l2 Unit).2.1 (hpow _ hn), fun l hl => Nat.le_trans ((l2 Unit).2.2 l hl) hn⟩

def allV (p : D_Project) : List (List Int) := if projB p = true then listsOf p.2.1 else []
theorem proj_modes {p : D_Project} (h : projB p = true) : p.2.1.length ≤ 6 ∧ ∀ a ∈ p.2.1, a.2.2.1.length ≤ 3 := by
  unfold projB at h
  simp only [Bool.and_eq_true] at h
  refine ⟨?_, fun a ha => ?_⟩
  · have := inB_iff.1 h.1.1.1.1.1.1.1.2
    rw [lenI_eq] at this
    omega
  · obtain ⟨i, hi, rfl⟩ := List.mem_iff_getElem.1 ha
    have h1 := h.1.1.1.2
    rw [List.all_eq_true] at h1
    have h2 := h1 i (by simpa using hi)
    unfold actI at h2
    rw [List.getElem?_eq_getElem hi] at h2
    simp only [Bool.and_eq_true] at h2
    have h3 := h2.1
    unfold actB at h3
    simp only [Bool.and_eq_true] at h3
    have := inB_iff.1 h3.2.2
    omega
theorem AllModeLists_spec (p : D_Project) (u : Unit) (h : Sm_Project 1099511627776 p) : spec_AllModeLists (p, u) () = some (allV p, ()) := by
  unfold spec_AllModeLists allV
  simp only [ProjectOk_spec _ _ h, some_bind', ← L2_eq]
  rcases tf (projB p) with h1 | h1
  · simp [h1, notB]
  · obtain ⟨k1, k2⟩ := proj_modes h1
    simp only [h1, notB_true, Bool.false_eq_true, if_false, if_true, (lists_loop p.2.1 k1 k2).1, some_bind']
theorem AllModeLists_impl (p : D_Project) (u : Unit) (h : Sm_Project 1099511627776 p) : impl_AllModeLists (p, u) () = some (allV p, ()) := by
  unfold impl_AllModeLists allV
  simp only [ProjectOk_impl _ _ h, some_bind']
  rcases tf (projB p) with h1 | h1
  · simp [h1, notB]
  · obtain ⟨k1, k2⟩ := proj_modes h1
    simp only [h1, notB_true, Bool.false_eq_true, if_false, if_true, (lists_loop p.2.1 k1 k2).1, some_bind']
end Go.Proofs.YtjgmjljdhgfdhaaGreat
