/-
  Plain laws: numbers in a row, lists that hold a number, sets, domains (several small texts in one). Condition: no list is longer than 2 to the 40.
-/
import Derived.Test.YtjhpeeapijjgjaaGreatn4LPairsM
import Derived.Test.YtjhpeeapijjgjaaGreatn4LSetM
import Derived.Test.YtjhpeeapijjgjaaGreatN39
import Derived.Test.YtjhpeeapijjgjaaGreatn4LSubS
namespace Go.Proofs.YtjhpeeapijjgjaaGreat
open Go.Abs
set_option linter.unusedVariables false
set_option linter.unusedSimpArgs false

def ruleEx (p : D_Project) (r : D_Rule) : Prop :=
 (∃ k : Nat, k < p.2.2.1.length ∧ r = (1, (k : Int), 0, 0, ())) ∨ (∃ i : Nat, i < p.2.1.length ∧ r = (2, (i : Int), 0, 0, ())) ∨ r.1 = 3 ∨
 (∃ (j c d : Nat) (hj : j < p.2.2.2.1.length), 0 < p.2.2.2.1[j].2.1.length ∧ c < d ∧ d < p.2.1.length ∧ r = pairR j c d) ∨ ∃ k : Nat, k < p.2.2.2.2.1.length ∧ r = stockR k
theorem snoc_all {α : Type} {P : α → Prop} {out : List α} {x : α} (h : ∀ r ∈ out, P r) (hx : P x) : ∀ r ∈ out ++ [x], P r := fun r hr => by
 rcases List.mem_append.1 hr with hr | hr
 ·exact h r hr
 ·rw [List.mem_singleton.1 hr]; exact hx
theorem only_L4 (p : D_Project) (hp : Sm_Project 1099511627776 p) (h6 : p.2.1.length ≤ 6) {j b : Nat} (nres : Int) (hj : j < p.2.2.2.1.length) (hb : b < p.2.1.length) (m : Nat) (hm : m ≤ 1000) (out : List D_Rule) (h0 : out.length ≤ m) (hX : ∀ r ∈ out, ruleEx p r) :
  ∃ out' i, (∀ A : Type, loopN (A := A) big spec_l10Rules_L4 (((b + 1 : Nat) : Int), (b : Int), (b : Int), (p.2.1.length : Int), (j : Int), (j : Int), nres, p, out, ()) = some (.exit (Sum.inl (false, i, (b : Int), (b : Int), (p.2.1.length : Int), (j : Int), (j : Int), nres, p, out', ())))) ∧ out'.length ≤ m + 6 ∧ ∀ r ∈ out', ruleEx p r := by
 rcases tf (machB p (j : Int)) with hM | hM
 ·obtain ⟨out', e, h1, h2⟩ := grow_loop (F := spec_l10Rules_L4) (fun i out => (((b + 1 + i : Nat) : Int), (b : Int), (b : Int), (p.2.1.length : Int), (j : Int), (j : Int), nres, p, out, ())) 0 (fun o => ∀ r ∈ o, ruleEx p r) m 1
   (fun out => Sum.inl (false, ((b + 1 + 0 : Nat) : Int), (b : Int), (b : Int), (p.2.1.length : Int), (j : Int), (j : Int), nres, p, out, ())) (by omega)
   (fun i out hi => absurd hi (by omega))
   (fun out => by
    unfold spec_l10Rules_L4
    simp only [lenI_eq, IsMachine_spec _ _ _ hp, hM, some_bind', Bool.false_eq_true, if_false]
    rcases tf (ltZ ((b + 1 + 0 : Nat) : Int) (p.2.1.length : Int)) with h | h <;> simp only [h, if_true, Bool.false_eq_true, if_false, some_bind'])
   (out := out) rfl h0 hX
  exact ⟨out', _, e, by omega, h2⟩
 ·have hpos : 0 < p.2.2.2.1[j].2.1.length := by
   rw [machB_at hp hj, ltZ_iff, lenI_eq] at hM
   omega
  obtain ⟨out', e, h1, h2⟩ := grow_loopI (F := spec_l10Rules_L4) (fun i out => (((b + 1 + i : Nat) : Int), (b : Int), (b : Int), (p.2.1.length : Int), (j : Int), (j : Int), nres, p, out, ())) (p.2.1.length - (b + 1)) (fun i o => o.length ≤ m + i ∧ ∀ r ∈ o, ruleEx p r)
   (fun out => Sum.inl (false, (p.2.1.length : Int), (b : Int), (b : Int), (p.2.1.length : Int), (j : Int), (j : Int), nres, p, out, ())) (by omega)
   (fun i out hi hI => by
    obtain ⟨hl, hR⟩ := hI
    have hk : b + 1 + i < p.2.1.length := by omega
    refine ⟨out ++ [(5, (j : Int), (b : Int), ((b + 1 + i : Nat) : Int), ())], ?_, by simp; omega, snoc_all hR (.inr (.inr (.inr (.inl ⟨j, b, b + 1 + i, hj, hpos, by omega, hk, rfl⟩))))⟩
    unfold spec_l10Rules_L4
    simp only [lenI_eq, lt_yes hk, if_true, IsMachine_spec _ _ _ hp, hM, some_bind', add_one out _ (by omega), idxN hk (show p.2.1.length ≤ 6 by omega) (by omega)]
    rfl)
   (fun out => by
    have e : b + 1 + (p.2.1.length - (b + 1)) = p.2.1.length := by omega
    unfold spec_l10Rules_L4
    simp only [e, lenI_eq, lt_no, Bool.false_eq_true, if_false, some_bind'])
   (out := out) rfl ⟨by omega, hX⟩
  exact ⟨out', _, e, by omega, h2⟩
theorem only_L5 (p : D_Project) (hp : Sm_Project 1099511627776 p) (h6 : p.2.1.length ≤ 6) {j : Nat} (nres : Int) (hj : j < p.2.2.2.1.length) (m : Nat) (hm : m ≤ 900) (out : List D_Rule) (h0 : out.length ≤ m) (hX : ∀ r ∈ out, ruleEx p r) :
  ∃ out', (∀ A : Type, loopN (A := A) big spec_l10Rules_L5 (0, (p.2.1.length : Int), (j : Int), (j : Int), nres, p, out, ()) = some (.exit (Sum.inl (false, (p.2.1.length : Int), (p.2.1.length : Int), (j : Int), (j : Int), nres, p, out', ())))) ∧ out'.length ≤ m + 36 ∧ ∀ r ∈ out', ruleEx p r := by
 obtain ⟨out', e, h1, h2⟩ := grow_loopI (F := spec_l10Rules_L5) (fun i out => ((i : Int), (p.2.1.length : Int), (j : Int), (j : Int), nres, p, out, ())) p.2.1.length (fun i o => o.length ≤ m + i * 6 ∧ ∀ r ∈ o, ruleEx p r)
  (fun out => Sum.inl (false, (p.2.1.length : Int), (p.2.1.length : Int), (j : Int), (j : Int), nres, p, out, ())) (by omega)
  (fun i out hi hI => by
   obtain ⟨hl, hR⟩ := hI
   obtain ⟨out', k, e, g1, g2⟩ := only_L4 p hp h6 nres hj hi (m + i * 6) (by omega) out hl hR
   refine ⟨out', ?_, by omega, g2⟩
   unfold spec_l10Rules_L5
   simp only [lt_yes hi, if_true, idxN hi (show p.2.1.length ≤ 6 by omega) (by omega), e, some_bind'])
  (fun out => by
   unfold spec_l10Rules_L5
   simp only [lt_no, Bool.false_eq_true, if_false])
  (out := out) rfl ⟨by omega, hX⟩
 exact ⟨out', e, by omega, h2⟩
theorem only_L2 (p : D_Project) {j : Nat} (nres : Int) (hj : j < p.2.2.2.1.length) (m : Nat) (hm : m ≤ 900) (out : List D_Rule) (h0 : out.length ≤ m) (hX : ∀ r ∈ out, ruleEx p r) :
  ∃ out', (∀ A : Type, loopN (A := A) big spec_l10Rules_L2 (0, (j : Int), (j : Int), nres, p, out, ()) = some (.exit (Sum.inl (false, ((61 : Nat) : Int), (j : Int), (j : Int), nres, p, out', ())))) ∧ out'.length ≤ m + 61 ∧ ∀ r ∈ out', ruleEx p r := by
 obtain ⟨out', e, h1, h2⟩ := grow_loopI (F := spec_l10Rules_L2) (fun i out => ((i : Int), (j : Int), (j : Int), nres, p, out, ())) 61 (fun i o => o.length ≤ m + i ∧ ∀ r ∈ o, ruleEx p r)
  (fun out => Sum.inl (false, ((61 : Nat) : Int), (j : Int), (j : Int), nres, p, out, ())) (by omega)
  (fun i out hi hI => by
   obtain ⟨hl, hR⟩ := hI
   have ht : leZ (i : Int) 60 = true := by rw [leZ_iff]; omega
   refine ⟨out ++ [(3, (j : Int), (i : Int), 0, ())], ?_, by simp; omega, snoc_all hR (.inr (.inr (.inl rfl)))⟩
   unfold spec_l10Rules_L2
   simp only [ht, if_true, add_one out _ (by omega), some_bind', idxN hi (Nat.le_refl _) (show 61 ≤ 1099511627776 by omega)])
  (fun out => by
   have ht : leZ ((61 : Nat) : Int) 60 = false := rfl
   unfold spec_l10Rules_L2
   simp only [ht, Bool.false_eq_true, if_false])
  (out := out) rfl ⟨by omega, hX⟩
 exact ⟨out', e, by omega, h2⟩
theorem rules_only {p : D_Project} (hp : Sm_Project 1099511627776 p) (h : projB p = true) : (∀ r ∈ ruleL p, ruleEx p r) ∧ (linkR p ++ endR p) <+: ruleL p := by
 obtain ⟨-, h6⟩ := proj_acts h
 obtain ⟨hr, hst, hk⟩ := proj_sizes h
 obtain ⟨o0, e0, l0, X0⟩ := grow_loopI (F := spec_l10Rules_L0) (fun i out => ((i : Int), (p.2.2.1.length : Int), p, out, ())) p.2.2.1.length (fun i o => o.length = i ∧ ∀ r ∈ o, ruleEx p r) (fun out => Sum.inl (false, (p.2.2.1.length : Int), (p.2.2.1.length : Int), p, out, ())) (by omega)
  (fun i out hi hI => by
   obtain ⟨hl, hX⟩ := hI
   refine ⟨out ++ [(1, (i : Int), 0, 0, ())], ?_, by simp; omega, snoc_all hX (.inl ⟨i, hi, rfl⟩)⟩
   unfold spec_l10Rules_L0
   simp only [lt_yes hi, if_true, add_one out _ (by omega), some_bind', idxN hi hk (show 12 ≤ 1099511627776 by omega)])
  (fun out => by
   unfold spec_l10Rules_L0
   simp only [lt_no, Bool.false_eq_true, if_false])
  (out := []) rfl ⟨rfl, fun r hr => absurd hr (by simp)⟩
 obtain ⟨o1, e1, l1, X1⟩ := grow_loopI (F := spec_l10Rules_L1) (fun i out => ((i : Int), (p.2.1.length : Int), p, out, ())) p.2.1.length (fun i o => o.length ≤ 12 + i ∧ ∀ r ∈ o, ruleEx p r) (fun out => Sum.inl (false, (p.2.1.length : Int), (p.2.1.length : Int), p, out, ())) (by omega)
  (fun i out hi hI => by
   obtain ⟨hl, hX⟩ := hI
   refine ⟨out ++ [(2, (i : Int), 0, 0, ())], ?_, by simp; omega, snoc_all hX (.inr (.inl ⟨i, hi, rfl⟩))⟩
   unfold spec_l10Rules_L1
   simp only [lt_yes hi, if_true, add_one out _ (by omega), some_bind', idxN hi h6 (show 6 ≤ 1099511627776 by omega)])
  (fun out => by
   unfold spec_l10Rules_L1
   simp only [lt_no, Bool.false_eq_true, if_false])
  (out := o0) rfl ⟨by omega, X0⟩
 obtain ⟨o3, e3, l3, X3⟩ := grow_loopI (F := spec_l10Rules_L3) (fun i out => ((i : Int), (p.2.2.2.1.length : Int), p, out, ())) p.2.2.2.1.length (fun i o => o.length ≤ 18 + i * 61 ∧ ∀ r ∈ o, ruleEx p r)
  (fun out => Sum.inl (false, (p.2.2.2.1.length : Int), (p.2.2.2.1.length : Int), p, out, ())) (by omega)
  (fun i out hi hI => by
   obtain ⟨hl, hX⟩ := hI
   obtain ⟨out', e, g1, g2⟩ := only_L2 p (p.2.2.2.1.length : Int) hi (18 + i * 61) (by omega) out hl hX
   refine ⟨out', ?_, by omega, g2⟩
   unfold spec_l10Rules_L3
   simp only [lt_yes hi, if_true, e, some_bind', idxN hi hr (show 3 ≤ 1099511627776 by omega)])
  (fun out => by
   unfold spec_l10Rules_L3
   simp only [lt_no, Bool.false_eq_true, if_false])
  (out := o1) rfl ⟨by omega, X1⟩
 obtain ⟨o6, e6, l6, X6⟩ := grow_loopI (F := spec_l10Rules_L6) (fun i out => ((i : Int), (p.2.2.2.1.length : Int), p, out, ())) p.2.2.2.1.length (fun i o => o.length ≤ 201 + i * 36 ∧ ∀ r ∈ o, ruleEx p r)
  (fun out => Sum.inl (false, (p.2.2.2.1.length : Int), (p.2.2.2.1.length : Int), p, out, ())) (by omega)
  (fun i out hi hI => by
   obtain ⟨hl, hX⟩ := hI
   obtain ⟨out', e, g1, g2⟩ := only_L5 p hp h6 (p.2.2.2.1.length : Int) hi (201 + i * 36) (by omega) out hl hX
   refine ⟨out', ?_, by omega, g2⟩
   unfold spec_l10Rules_L6
   simp only [lt_yes hi, if_true, lenI_eq, e, some_bind', idxN hi hr (show 3 ≤ 1099511627776 by omega)])
  (fun out => by
   unfold spec_l10Rules_L6
   simp only [lt_no, Bool.false_eq_true, if_false])
  (out := o3) rfl ⟨by omega, X3⟩
 obtain ⟨o7, e7, l7, X7⟩ := grow_loopI (F := spec_l10Rules_L7) (fun i out => ((i : Int), (p.2.2.2.2.1.length : Int), out, ())) p.2.2.2.2.1.length (fun i o => o.length ≤ 309 + i ∧ ∀ r ∈ o, ruleEx p r)
  (fun out => Sum.inl (false, (p.2.2.2.2.1.length : Int), (p.2.2.2.2.1.length : Int), out, ())) (by omega)
  (fun i out hi hI => by
   obtain ⟨hl, hX⟩ := hI
   refine ⟨out ++ [(6, (i : Int), 0, 0, ())], ?_, by simp; omega, snoc_all hX (.inr (.inr (.inr (.inr ⟨i, hi, rfl⟩))))⟩
   unfold spec_l10Rules_L7
   simp only [lt_yes hi, if_true, add_one out _ (by omega), some_bind', idxN hi hst (show 2 ≤ 1099511627776 by omega)])
  (fun out => by
   unfold spec_l10Rules_L7
   simp only [lt_no, Bool.false_eq_true, if_false])
  (out := o6) rfl ⟨by omega, X6⟩
 have hL : ruleL p = o7 := by
  have z : ((0 : Nat) : Int) = 0 := rfl
  simp only [z] at e0 e1 e3 e6 e7
  have : spec_l10Rules (p, ()) () = some (o7, ()) := by
   unfold spec_l10Rules
   simp only [lenI_eq, e0, e1, e3, e6, e7, some_bind']
  unfold ruleL
  rw [this]
 obtain ⟨l, el, -, -, hpre⟩ := rules_ok p hp h
 have hl : ruleL p = l := by unfold ruleL; rw [el]
 exact ⟨by rw [hL]; exact X7, by rw [hl]; exact hpre⟩
open Go.Abs
set_option linter.unusedVariables false
set_option linter.unusedSimpArgs false

abbrev Asc (l : List Int) : Prop := l.Pairwise (· < ·)
open Go.Abs
set_option linter.unusedVariables false
set_option linter.unusedSimpArgs false

theorem compact_upto {d : Array Int} (hs : ∀ i j, i < j → j < d.size → d[i]! ≤ d[j]!) : ∀ m, m ≤ d.size →
  List.Pairwise (· < ·) (Go.Lib.compactUpTo d m) ∧ (∀ x ∈ Go.Lib.compactUpTo d m, ∃ j, j < m ∧ x = d[j]!) ∧ ∀ j, j < m → d[j]! ∈ Go.Lib.compactUpTo d m
 | 0, _ => by
  have e : Go.Lib.compactUpTo d 0 = [] := rfl
  rw [e]
  exact ⟨List.Pairwise.nil, fun x hx => absurd hx (by simp), fun j hj => absurd hj (by omega)⟩
 | m + 1, hm => by
  obtain ⟨h1, h2, h3⟩ := compact_upto hs m (by omega)
  rw [Go.Lib.compactUpTo_succ]
  by_cases hk : Go.Lib.keeps d m = true
  ·rw [if_pos hk]
   have hk' : m = 0 ∨ d[m]! ≠ d[m - 1]! := by
    unfold Go.Lib.keeps at hk
    simpa using hk
   have hlt : ∀ j, j < m → d[j]! < d[m]! := fun j hj => by
    rcases hk' with h0 | h0
    ·omega
    ·have a1 := hs (m - 1) m (by omega) (by omega)
     by_cases e : j = m - 1
     ·subst e; omega
     ·have a2 := hs j (m - 1) (by omega) (by omega)
      omega
   refine ⟨?_, fun x hx => ?_, fun j hj => ?_⟩
   ·rw [List.pairwise_append]
    refine ⟨h1, by simp, fun x hx y hy => ?_⟩
    obtain ⟨j, hj, rfl⟩ := h2 x hx
    rw [List.mem_singleton.1 hy]
    exact hlt j hj
   ·rcases List.mem_append.1 hx with hx | hx
    ·obtain ⟨j, hj, e⟩ := h2 x hx
     exact ⟨j, by omega, e⟩
    ·exact ⟨m, by omega, List.mem_singleton.1 hx⟩
   ·by_cases e : j = m
    ·subst e; exact List.mem_append_right _ (by simp)
    ·exact List.mem_append_left _ (h3 j (by omega))
  ·rw [if_neg hk, List.append_nil]
   have hk' : ¬ (m = 0 ∨ d[m]! ≠ d[m - 1]!) := by
    unfold Go.Lib.keeps at hk
    simpa using hk
   have hm0 : m ≠ 0 := fun e => hk' (.inl e)
   have he : d[m]! = d[m - 1]! := Classical.byContradiction fun e => hk' (.inr e)
   refine ⟨h1, fun x hx => ?_, fun j hj => ?_⟩
   ·obtain ⟨j, hj, e⟩ := h2 x hx
    exact ⟨j, by omega, e⟩
   ·by_cases e : j = m
    ·subst e; rw [he]; exact h3 (j - 1) (by omega)
    ·exact h3 j (by omega)
theorem sorted_le (zs : List Int) : ∀ i j, i < j → j < (zs.mergeSort fun x y => decide (x ≤ y)).toArray.size → (zs.mergeSort fun x y => decide (x ≤ y)).toArray[i]! ≤ (zs.mergeSort fun x y => decide (x ≤ y)).toArray[j]! := fun i j hij hj => by
 have hp : (zs.mergeSort fun x y => decide (x ≤ y)).Pairwise (fun x y => decide (x ≤ y) = true) := List.pairwise_mergeSort (le := fun x y : Int => decide (x ≤ y)) (fun a b c h1 h2 => by simp at *; omega) (fun a b => by simp; omega) zs
 generalize (zs.mergeSort fun x y => decide (x ≤ y)) = S at hp hj ⊢
 have hj' : j < S.length := by simpa using hj
 rw [List.pairwise_iff_getElem] at hp
 have := hp i j (by omega) hj' hij
 rw [getElem!_pos S.toArray i (by simpa using (show i < S.length by omega)), getElem!_pos S.toArray j hj]
 simpa using this
theorem setLL_facts (zs : List Int) : Asc (setLL zs) ∧ ∀ x, x ∈ setLL zs ↔ x ∈ zs := by
 obtain ⟨h1, h2, h3⟩ := compact_upto (sorted_le zs) _ (Nat.le_refl _)
 have hperm := List.mergeSort_perm zs (fun x y => decide (x ≤ y))
 have e : setLL zs = Go.Lib.compactUpTo (zs.mergeSort fun x y => decide (x ≤ y)).toArray (zs.mergeSort fun x y => decide (x ≤ y)).toArray.size := by
  unfold setLL Go.Lib.compact
  rw [List.size_toArray]
 rw [e]
 refine ⟨h1, fun x => ⟨fun hx => ?_, fun hx => ?_⟩⟩
 ·obtain ⟨j, hj, rfl⟩ := h2 x hx
  rw [getElem!_pos _ j hj]
  have := hperm.mem_iff.1 (List.getElem_mem (show j < (zs.mergeSort fun x y => decide (x ≤ y)).length by simpa using hj))
  simpa using this
 ·have hx' := hperm.mem_iff.2 hx
  obtain ⟨j, hj, rfl⟩ := List.mem_iff_getElem.1 hx'
  have := h3 j (by simpa using hj)
  rw [getElem!_pos _ j (by simpa using hj)] at this
  simpa using this
theorem SetOf_L (l : List Int) (u : Unit) (h0 : 0 < l.length) (h1 : l.length ≤ 1000) : impl_SetOf (l, u) () = some (setLL l, ()) := if_pos ⟨h0, h1⟩
theorem SetAdd_L (l : List Int) (n : Int) (u : Unit) (hl : l.length ≤ 900) : impl_SetAdd (l, n, u) () = some (setLL (l ++ [n]), ()) := by
 have c : ∀ u, slices_Clone_int_int (l, u) () = some (l, ()) := fun u => by
  have e : addI [] l = some l := by
   rw [addI_ok (by rw [room_eq]; simp; omega)]
   rfl
  unfold slices_Clone_int_int
  simp only [e, some_bind']
 have a : addI l [n] = some (l ++ [n]) := addI_ok (by rw [room_eq]; simp; omega)
 unfold impl_SetAdd
 simp only [c, some_bind', a, SetOf_L (l ++ [n]) _ (by simp) (by simp; omega)]
open Go.Abs
set_option linter.unusedVariables false
set_option linter.unusedSimpArgs false

theorem upto_len (d : Array Int) : ∀ m, (Go.Lib.compactUpTo d m).length ≤ m
 | 0 => Nat.le_refl _
 | m + 1 => by
  have := upto_len d m
  rw [Go.Lib.compactUpTo_succ, List.length_append]
  split <;> simp <;> omega
theorem setLL_len (zs : List Int) : (setLL zs).length ≤ zs.length := by
 have e : setLL zs = Go.Lib.compactUpTo (zs.mergeSort fun x y => decide (x ≤ y)).toArray (zs.mergeSort fun x y => decide (x ≤ y)).toArray.size := by
  unfold setLL Go.Lib.compact
  rw [List.size_toArray]
 rw [e]
 refine Nat.le_trans (upto_len _ _) ?_
 simp
theorem MaxDuration_impl (a : D_Activity) (ms : List Int) (u : Unit) (ha : a.2.2.1.length ≤ 1000000) (hm : ms.length ≤ 1099511627776) : impl_MaxDuration (a, ms, u) () = some (durV (fun x n => ltZ n x) a ms, ()) := by
 have hcl := choL_len a ms
 have l0 := fun A : Type => (fold_list (A := A) (F := impl_MaxDuration_L0) (fun i (s : Bool × Int) => ((i : Int), ((choL a ms).length : Int), choL a ms, s.2, ())) (choL a ms) (fun i s => notB s.1 = eqZ (i : Int) 0) (durStep fun x n => ltZ n x) (fun s => Sum.inl (false, ((choL a ms).length : Int), ((choL a ms).length : Int), choL a ms, s.2, ())) (by omega)
  (fun i s hi hs => by
   refine ⟨?_, ?_⟩
   ·unfold impl_MaxDuration_L0
    simp only [lt_yes hi, if_true, getI_lt hi, some_bind', ← hs]
    obtain ⟨f, n⟩ := s
    unfold durStep
    simp only
    rcases tf (notB f) with h | h <;> rcases tf (ltZ n (choL a ms)[i].1) with h' | h' <;> simp [-Int.natCast_add, h, h', idxN hi (show (choL a ms).length ≤ 1099511627776 by omega) (Nat.le_refl _)]
   ·rw [step_flag, notB_true]
    exact (eqZ_ne (by omega)).symm)
  (fun s hs => by
   unfold impl_MaxDuration_L0
   simp only [lt_no, Bool.false_eq_true, if_false])
  (a := (false, 0)) (s := (0, ((choL a ms).length : Int), choL a ms, 0, ())) rfl rfl).1
 unfold impl_MaxDuration durV
 simp only [chosen_eq _ _ _ ha hm, some_bind', lenI_eq, l0]
theorem any_loopI {σ B C α : Type} {F : σ → Option (Out σ B C)} (emb : Nat → α → σ) (n : Nat) (P : Nat → α → Prop) (b : α → B) (hn : n ≤ 1099511627776)
  (hs : ∀ i a, i < n → P i a → ∃ a', F (emb i a) = some (.norm (emb (i + 1) a')) ∧ P (i + 1) a')
  (he : ∀ a, F (emb n a) = some (.exit (b a))) {a : α} {s : σ} (hs0 : s = emb 0 a) (hP : P 0 a) :
  ∃ a', (∀ A : Type, loopN (A := A) big F s = some (.exit (b a'))) ∧ P n a' := by
 classical
 subst hs0
 let f : Nat → α → α := fun i x => if h : i < n ∧ P i x then Classical.choose (hs i x h.1 h.2) else x
 have key := fun A : Type => fold_loop (A := A) (F := F) emb n P f b hn
  (fun i x hi hI => by
   have h : i < n ∧ P i x := ⟨hi, hI⟩
   have e : f i x = Classical.choose (hs i x h.1 h.2) := dif_pos h
   rw [e]
   exact Classical.choose_spec (hs i x h.1 h.2))
  (fun x _ => he x) (a := a) hP
 exact ⟨_, fun A => (key A).1, (key Unit).2⟩
theorem usable_D {p : D_Project} {b : D_Domain} (h : UseD p b) (u : Unit) : impl_isUsable (p, b, u) () = some (true, ()) := by
 unfold impl_isUsable
 simp only [DomainForm_impl _ _ _ h.hp h.hb, h.dom, some_bind', if_true, DomainEmpty_impl _ _ h.hb, h.ne, notB_false]
/-! intervals -/
def Iv (x : List Int) : Prop := ∃ a n : Nat, 0 < n ∧ a + n ≤ 60 ∧ x = [(a : Int), ((a + n : Nat) : Int)]
theorem iv_of {x y : Int} (h1 : inB x 0 60 = true) (h2 : inB y 0 60 = true) (h3 : ltZ x y = true) : Iv [x, y] := by
 rw [inB_iff] at h1 h2
 rw [ltZ_iff] at h3
 refine ⟨x.toNat, (y - x).toNat, by omega, by omega, ?_⟩
 have e1 : ((x.toNat : Nat) : Int) = x := by omega
 have e2 : ((x.toNat + (y - x).toNat : Nat) : Int) = y := by omega
 rw [e1, e2]
theorem Int_L1 (ends S : List Int) (i : Nat) (x : Int) (hy : ends.length ≤ 6) (out : List (List Int)) (m : Nat) (hm : m ≤ 900) (h0 : out.length ≤ m) (hX : ∀ z ∈ out, Iv z) :
  ∃ out', (∀ A : Type, loopN (A := A) big impl_Intervals_L1 (0, ((setLL ends).length : Int), setLL ends, x, (i : Int), (S.length : Int), S, ends, out, ()) = some (.exit (Sum.inl (false, ((setLL ends).length : Int), ((setLL ends).length : Int), setLL ends, x, (i : Int), (S.length : Int), S, ends, out', ())))) ∧ out'.length ≤ m + 6 ∧ ∀ z ∈ out', Iv z := by
 have hl := setLL_len ends
 generalize setLL ends = Y at hl ⊢
 obtain ⟨out', e, h1, h2⟩ := any_loopI (F := impl_Intervals_L1) (fun k out => ((k : Int), (Y.length : Int), Y, x, (i : Int), (S.length : Int), S, ends, out, ())) Y.length (fun k o => o.length ≤ m + k ∧ ∀ z ∈ o, Iv z)
  (fun out => Sum.inl (false, (Y.length : Int), (Y.length : Int), Y, x, (i : Int), (S.length : Int), S, ends, out, ())) (by omega)
  (fun k out hk hI => by
   obtain ⟨hlo, hR⟩ := hI
   have hix := idxN hk (Nat.le_refl _) (show Y.length ≤ 1099511627776 by omega)
   rcases tf (inB x 0 60) with q1 | q1
   ·refine ⟨out, ?_, by omega, hR⟩
    unfold impl_Intervals_L1
    simp only [lt_yes hk, if_true, getI_lt hk, some_bind', isTime_eq, q1, Bool.false_eq_true, if_false, hix]
   ·rcases tf (inB Y[k] 0 60) with q2 | q2
    ·refine ⟨out, ?_, by omega, hR⟩
     unfold impl_Intervals_L1
     simp only [lt_yes hk, if_true, getI_lt hk, some_bind', isTime_eq, q1, q2, Bool.false_eq_true, if_false, hix]
    ·rcases tf (ltZ x Y[k]) with q3 | q3
     ·refine ⟨out, ?_, by omega, hR⟩
      unfold impl_Intervals_L1
      simp only [lt_yes hk, if_true, getI_lt hk, some_bind', isTime_eq, q1, q2, q3, Bool.false_eq_true, if_false, hix]
     ·refine ⟨out ++ [[x, Y[k]]], ?_, by simp; omega, snoc_all hR (iv_of q1 q2 q3)⟩
      unfold impl_Intervals_L1
      simp only [lt_yes hk, if_true, getI_lt hk, some_bind', isTime_eq, q1, q2, q3, add_one out _ (by omega), hix])
  (fun out => by
   unfold impl_Intervals_L1
   simp only [lt_no, Bool.false_eq_true, if_false])
  (a := out) rfl ⟨by omega, hX⟩
 exact ⟨out', e, by omega, h2⟩
theorem Intervals_L {p : D_Project} {b : D_Domain} (h : UseD p b) : ∃ l, l.length ≤ 36 ∧ (∀ z ∈ l, Iv z) ∧ ∀ u, impl_Intervals (p, b, u) () = some (l, ()) := by
 have hpj := proj_of_dom h.dom
 obtain ⟨h1, h6⟩ := proj_acts hpj
 obtain ⟨ends, e0, l0⟩ := any_loopI (F := impl_Intervals_L0) (fun i (ends : List Int) => ((i : Int), (p.2.1.length : Int), p.2.1, b, ends, [], ())) p.2.1.length (fun i o => o.length = i)
  (fun ends => Sum.inl (false, (p.2.1.length : Int), (p.2.1.length : Int), p.2.1, b, ends, [], ())) (by omega)
  (fun i o hi hl => by
   obtain ⟨k1, k2, k3⟩ := h.l.get hi
   have hml := (h.rng hi).2.2.2.2
   have ha := mode_len hpj hi
   refine ⟨o ++ [addZ .i64 (mxB b i) (durV (fun x n => ltZ n x) p.2.1[i] (moB b i))], ?_, by simp; omega⟩
   unfold impl_Intervals_L0
   simp only [lt_yes hi, if_true, getI_lt hi, k2, k3, some_bind', MaxDuration_impl p.2.1[i] (moB b i) _ (by omega) hml, add_one o _ (by omega), idxN hi (Nat.le_refl _) (show p.2.1.length ≤ 1099511627776 by omega)])
  (fun o => by
   unfold impl_Intervals_L0
   simp only [lt_no, Bool.false_eq_true, if_false])
  (a := []) rfl rfl
 have hb1 := h.l.l1
 have eS := fun u => SetOf_L b.1 u (by omega) (by omega)
 have eE := fun u => SetOf_L ends u (by omega) (by omega)
 have hS := setLL_len b.1
 obtain ⟨S, hSe⟩ : ∃ S, S = setLL b.1 := ⟨_, rfl⟩
 rw [← hSe] at eS hS
 obtain ⟨out, e2, g1, g2⟩ := any_loopI (F := impl_Intervals_L2) (fun i (out : List (List Int)) => ((i : Int), (S.length : Int), S, ends, out, ())) S.length (fun i o => o.length ≤ i * 6 ∧ ∀ z ∈ o, Iv z)
  (fun out => Sum.inl (false, (S.length : Int), (S.length : Int), S, ends, out, ())) (by omega)
  (fun i o hi hI => by
   obtain ⟨hl, hR⟩ := hI
   obtain ⟨out', e1, k1, k2⟩ := Int_L1 ends S i S[i] (by omega) o (i * 6) (by omega) hl hR
   refine ⟨out', ?_, by omega, k2⟩
   unfold impl_Intervals_L2
   simp only [lt_yes hi, if_true, getI_lt hi, some_bind', eE, lenI_eq, e1, idxN hi (Nat.le_refl _) (show S.length ≤ 1099511627776 by omega)])
  (fun o => by
   unfold impl_Intervals_L2
   simp only [lt_no, Bool.false_eq_true, if_false])
  (a := []) rfl ⟨by simp, fun z hz => absurd hz (by simp)⟩
 refine ⟨out, by omega, g2, fun u => ?_⟩
 have z : ((0 : Nat) : Int) = 0 := rfl
 simp only [z] at e0 e2
 unfold impl_Intervals
 simp only [usable_D h, notB_true, Bool.false_eq_true, if_false, some_bind', lenI_eq, e0, eS, e2]
/-! the rules that are looked at -/
def RuleQ (p : D_Project) (r : D_Rule) : Prop := ∃ Q, IsRule p r Q
theorem Cand_L1 {p : D_Project} {b : D_Domain} (steps : List D_Step) (times : List Int) (hs : steps.length ≤ 3) (ht : times.length ≤ 6) (j nres : Int) (res : List D_Resource) (out pairs : List D_Rule) :
  ∃ times', (∀ A : Type, loopN (A := A) big impl_CandidateRules_L1 (0, (steps.length : Int), steps, times, j, j, nres, res, p, b, out, pairs, ()) = some (.exit (Sum.inl (false, (steps.length : Int), (steps.length : Int), steps, times', j, j, nres, res, p, b, out, pairs, ())))) ∧ times'.length ≤ 9 ∧ ∀ x ∈ times, x ∈ times' := by
 obtain ⟨t, e, h1, h2⟩ := any_loopI (F := impl_CandidateRules_L1) (fun i (t : List Int) => ((i : Int), (steps.length : Int), steps, t, j, j, nres, res, p, b, out, pairs, ())) steps.length (fun i t => t.length ≤ 6 + i ∧ ∀ x ∈ times, x ∈ t)
  (fun t => Sum.inl (false, (steps.length : Int), (steps.length : Int), steps, t, j, j, nres, res, p, b, out, pairs, ())) (by omega)
  (fun i t hi hI => by
   obtain ⟨hl, hR⟩ := hI
   have hlen := setLL_len (t ++ [steps[i].1])
   rw [List.length_append, List.length_singleton] at hlen
   refine ⟨setLL (t ++ [steps[i].1]), ?_, by omega, fun x hx => ((setLL_facts _).2 x).2 (List.mem_append_left _ (hR x hx))⟩
   unfold impl_CandidateRules_L1
   simp only [lt_yes hi, if_true, getI_lt hi, some_bind', SetAdd_L t _ _ (show t.length ≤ 900 by omega), idxN hi (Nat.le_refl _) (show steps.length ≤ 1099511627776 by omega)])
  (fun t => by
   unfold impl_CandidateRules_L1
   simp only [lt_no, Bool.false_eq_true, if_false])
  (a := times) rfl ⟨by omega, fun x hx => hx⟩
 exact ⟨t, e, by omega, h2⟩
theorem Cand_L2 {p : D_Project} {b : D_Domain} (S : List Int) (hS : S.length ≤ 9) (i0 : Nat) (hi0 : i0 < S.length) (hx : inB S[i0] 0 60 = true) {j : Nat} (hj : j < p.2.2.2.1.length) (nres : Int) (res : List D_Resource) (out pairs : List D_Rule) (h1 : out.length ≤ 2000) (hX : ∀ r ∈ out, RuleQ p r) :
  ∃ out', (∀ A : Type, loopN (A := A) big impl_CandidateRules_L2 (0, (S.length : Int), S, (j : Int), (j : Int), nres, res, p, b, out, pairs, ()) = some (.exit (Sum.inl (false, (S.length : Int), (S.length : Int), S, (j : Int), (j : Int), nres, res, p, b, out', pairs, ())))) ∧ out.length + 1 ≤ out'.length ∧ out'.length ≤ out.length + 9 ∧ ∀ r ∈ out', RuleQ p r := by
 obtain ⟨o, e, g1, g2, g3, g4⟩ := any_loopI (F := impl_CandidateRules_L2) (fun i (o : List D_Rule) => ((i : Int), (S.length : Int), S, (j : Int), (j : Int), nres, res, p, b, o, pairs, ())) S.length (fun i o => out.length ≤ o.length ∧ (i0 < i → out.length + 1 ≤ o.length) ∧ o.length ≤ out.length + i ∧ ∀ r ∈ o, RuleQ p r)
  (fun o => Sum.inl (false, (S.length : Int), (S.length : Int), S, (j : Int), (j : Int), nres, res, p, b, o, pairs, ())) (by omega)
  (fun i o hi hI => by
   obtain ⟨k1, k2, k3, k4⟩ := hI
   have hix := idxN hi (Nat.le_refl _) (show S.length ≤ 1099511627776 by omega)
   rcases tf (inB S[i] 0 60) with q | q
   ·refine ⟨o, ?_, k1, fun hlt => ?_, by omega, k4⟩
    ·unfold impl_CandidateRules_L2
     simp only [lt_yes hi, if_true, getI_lt hi, some_bind', isTime_eq, q, Bool.false_eq_true, if_false, hix]
    ·by_cases e : i0 = i
     ·subst e
      rw [hx] at q
      cases q
     ·exact k2 (by omega)
   ·obtain ⟨t, ht, et⟩ : ∃ t : Nat, t ≤ 60 ∧ S[i] = (t : Int) := by
     rw [inB_iff] at q
     exact ⟨S[i].toNat, by omega, by omega⟩
    refine ⟨o ++ [(3, (j : Int), S[i], 0, ())], ?_, by simp; omega, fun _ => by simp; omega, by simp; omega, snoc_all k4 ⟨_, .inr (.inr (.inl ⟨j, t, hj, ht, by rw [et], rfl⟩))⟩⟩
    unfold impl_CandidateRules_L2
    simp only [lt_yes hi, if_true, getI_lt hi, some_bind', isTime_eq, q, add_one o _ (show o.length ≤ 1000000 by omega), hix])
  (fun o => by
   unfold impl_CandidateRules_L2
   simp only [lt_no, Bool.false_eq_true, if_false])
  (a := out) rfl ⟨Nat.le_refl _, fun h => absurd h (by omega), by omega, hX⟩
 exact ⟨o, e, g2 hi0, by omega, g4⟩
theorem Cand_L3 {p : D_Project} {b : D_Domain} (I : List (List Int)) (hI : I.length ≤ 36) (hv : ∀ z ∈ I, Iv z) {j : Nat} (hj : j < p.2.2.2.1.length) (nres : Int) (res : List D_Resource) (out pairs : List D_Rule) (h1 : out.length ≤ 2000) (hX : ∀ r ∈ out, RuleQ p r) :
  ∃ out', (∀ A : Type, loopN (A := A) big impl_CandidateRules_L3 (0, (I.length : Int), I, (j : Int), (j : Int), nres, res, p, b, out, pairs, ()) = some (.exit (Sum.inl (false, (I.length : Int), (I.length : Int), I, (j : Int), (j : Int), nres, res, p, b, out', pairs, ())))) ∧ out'.length = out.length + I.length ∧ ∀ r ∈ out', RuleQ p r := by
 obtain ⟨o, e, g1, g2⟩ := any_loopI (F := impl_CandidateRules_L3) (fun i (o : List D_Rule) => ((i : Int), (I.length : Int), I, (j : Int), (j : Int), nres, res, p, b, o, pairs, ())) I.length (fun i o => o.length = out.length + i ∧ ∀ r ∈ o, RuleQ p r)
  (fun o => Sum.inl (false, (I.length : Int), (I.length : Int), I, (j : Int), (j : Int), nres, res, p, b, o, pairs, ())) (by omega)
  (fun i o hi hP => by
   obtain ⟨k1, k2⟩ := hP
   obtain ⟨x, n, hn, hx, ez⟩ := hv _ (List.getElem_mem hi)
   have hix := idxN hi (Nat.le_refl _) (show I.length ≤ 1099511627776 by omega)
   have gi : getI I (i : Int) = some [(x : Int), ((x + n : Nat) : Int)] := by rw [getI_lt hi, ez]
   have g0 : getI [(x : Int), ((x + n : Nat) : Int)] 0 = some (x : Int) := rfl
   have g1 : getI [(x : Int), ((x + n : Nat) : Int)] 1 = some ((x + n : Nat) : Int) := rfl
   refine ⟨o ++ [(4, (j : Int), (x : Int), ((x + n : Nat) : Int), ())], ?_, by simp; omega, snoc_all k2 ⟨_, .inr (.inr (.inr (.inl ⟨j, x, n, hj, hn, hx, rfl, rfl⟩)))⟩⟩
   unfold impl_CandidateRules_L3
   simp only [lt_yes hi, if_true, gi, g0, g1, some_bind', add_one o _ (show o.length ≤ 1000000 by omega), hix])
  (fun o => by
   unfold impl_CandidateRules_L3
   simp only [lt_no, Bool.false_eq_true, if_false])
  (a := out) rfl ⟨by omega, hX⟩
 exact ⟨o, e, g1, g2⟩
theorem CandidateRules_L {p : D_Project} {b : D_Domain} (hP : GenP 6 p) (hB : GenB p b) (h : UseD p b) : ∃ l, p.2.1.length < l.length ∧ l.length ≤ 10000 ∧ (∀ r ∈ l, RuleQ p r) ∧ ∀ u, impl_CandidateRules (p, b, u) () = some (l, ()) := by
 have hp := h.hp
 have hpj := proj_of_dom h.dom
 obtain ⟨h1, h6⟩ := proj_acts hpj
 have hrl := hP.rl
 have hdl := hP.dl
 obtain ⟨hX, hpre⟩ := rules_only hp hpj
 obtain ⟨L, eL, lL, -, -⟩ := rules_ok p hp hpj
 have hL : ruleL p = L := by unfold ruleL; rw [eL]
 rw [hL] at hX hpre
 have eR := fun u => (show impl_Project_rules (p, u) () = some (L, ()) by rw [rules_impl_eq]; exact eL)
 obtain ⟨rest, hrest⟩ := hpre
 have hlk : (linkR p ++ endR p).length = p.2.2.1.length + p.2.1.length := by
  unfold linkR endR
  simp [iotaI_length]
 have hfirst : ∀ i (hi : i < L.length), i < p.2.2.1.length + p.2.1.length → L[i].1 = 1 ∨ L[i].1 = 2 := fun i hi hlt => by
  have hm : L[i] ∈ linkR p ++ endR p := by
   have : L[i] = (linkR p ++ endR p)[i]'(by omega) := by
    simp only [← hrest]
    rw [List.getElem_append_left]
   rw [this]
   exact List.getElem_mem _
  rcases List.mem_append.1 hm with hm | hm
  ·unfold linkR at hm
   obtain ⟨k, -, e⟩ := List.mem_map.1 hm
   rw [← e]
   exact .inl rfl
  ·unfold endR at hm
   obtain ⟨k, -, e⟩ := List.mem_map.1 hm
   rw [← e]
   exact .inr rfl
 have hLl : p.2.2.1.length + p.2.1.length ≤ L.length := by
  have e := congrArg List.length hrest
  rw [List.length_append, hlk] at e
  omega
 obtain ⟨⟨o0, p0⟩, e0, a1, a2, a3, a4, a5⟩ := any_loopI (F := impl_CandidateRules_L0) (fun i (x : List D_Rule × List D_Rule) => ((i : Int), (L.length : Int), L, p, b, x.1, x.2, ())) L.length
  (fun i x => x.1.length ≤ i ∧ x.2.length ≤ i ∧ (∀ r ∈ x.1, RuleQ p r) ∧ (∀ r ∈ x.2, RuleQ p r) ∧ min i (p.2.2.1.length + p.2.1.length) ≤ x.1.length)
  (fun x => Sum.inl (false, (L.length : Int), (L.length : Int), L, p, b, x.1, x.2, ())) (by omega)
  (fun i x hi hI => by
   obtain ⟨o, q⟩ := x
   obtain ⟨k1, k2, k3, k4, k5⟩ := hI
   simp only at k1 k2 k3 k4 k5
   have hix := idxN hi (Nat.le_refl _) (show L.length ≤ 1099511627776 by omega)
   have hf := hfirst i hi
   have hg : getI L (i : Int) = some L[i] := getI_lt hi
   have t1 : eqZ 1 1 = true := rfl
   have t2 : eqZ 2 1 = false := rfl
   have t3 : eqZ 2 2 = true := rfl
   rcases hX _ (List.getElem_mem hi) with ⟨k, hk, e⟩ | ⟨k, hk, e⟩ | e | ⟨j, c, d, hj, hpos, hcd, hd, e⟩ | ⟨k, hk, e⟩
   ·refine ⟨(o ++ [L[i]], q), ?_, by simp; omega, by simp only; omega, snoc_all k3 ⟨_, .inl ⟨k, hk, e, rfl⟩⟩, k4, by simp; omega⟩
    rw [e] at hg ⊢
    unfold impl_CandidateRules_L0
    simp only [lt_yes hi, if_true, hg, some_bind', t1, add_one o _ (show o.length ≤ 1000000 by omega), hix]
   ·refine ⟨(o ++ [L[i]], q), ?_, by simp; omega, by simp only; omega, snoc_all k3 ⟨_, .inr (.inl ⟨k, hk, e, rfl⟩)⟩, k4, by simp; omega⟩
    rw [e] at hg ⊢
    unfold impl_CandidateRules_L0
    simp only [lt_yes hi, if_true, hg, some_bind', t2, t3, Bool.false_eq_true, if_false, add_one o _ (show o.length ≤ 1000000 by omega), hix]
   ·have hge : ¬ i < p.2.2.1.length + p.2.1.length := fun hlt => by rcases hf hlt with h' | h' <;> rw [e] at h' <;> cases h'
    refine ⟨(o, q), ?_, by simp only; omega, by simp only; omega, k3, k4, by simp only; omega⟩
    have t4 : eqZ L[i].1 1 = false := by rw [e]; rfl
    have t5 : eqZ L[i].1 2 = false := by rw [e]; rfl
    have t6 : eqZ L[i].1 6 = false := by rw [e]; rfl
    have t7 : eqZ L[i].1 5 = false := by rw [e]; rfl
    unfold impl_CandidateRules_L0
    simp only [lt_yes hi, if_true, hg, some_bind', t4, t5, t6, t7, Bool.false_eq_true, if_false, hix]
   ·have hge : ¬ i < p.2.2.1.length + p.2.1.length := fun hlt => by rcases hf hlt with h' | h' <;> rw [e] at h' <;> cases h'
    refine ⟨(o, q ++ [L[i]]), ?_, by simp only; omega, by simp; omega, k3, snoc_all k4 ⟨_, .inr (.inr (.inr (.inr (.inl ⟨j, c, d, hj, hpos, hcd, hd, e, rfl⟩))))⟩, by simp only; omega⟩
    have t4 : eqZ L[i].1 1 = false := by rw [e]; rfl
    have t5 : eqZ L[i].1 2 = false := by rw [e]; rfl
    have t6 : eqZ L[i].1 6 = false := by rw [e]; rfl
    have t7 : eqZ L[i].1 5 = true := by rw [e]; rfl
    unfold impl_CandidateRules_L0
    simp only [lt_yes hi, if_true, hg, some_bind', t4, t5, t6, t7, Bool.false_eq_true, if_false, add_one q _ (show q.length ≤ 1000000 by omega), hix]
   ·have hge : ¬ i < p.2.2.1.length + p.2.1.length := fun hlt => by rcases hf hlt with h' | h' <;> rw [e] at h' <;> cases h'
    refine ⟨(o ++ [L[i]], q), ?_, by simp; omega, by simp only; omega, snoc_all k3 ⟨_, .inr (.inr (.inr (.inr (.inr ⟨k, hk, e, rfl⟩))))⟩, k4, by simp; omega⟩
    have t4 : eqZ L[i].1 1 = false := by rw [e]; rfl
    have t5 : eqZ L[i].1 2 = false := by rw [e]; rfl
    have t6 : eqZ L[i].1 6 = true := by rw [e]; rfl
    unfold impl_CandidateRules_L0
    simp only [lt_yes hi, if_true, hg, some_bind', t4, t5, t6, Bool.false_eq_true, if_false, add_one o _ (show o.length ≤ 1000000 by omega), hix])
  (fun x => by
   unfold impl_CandidateRules_L0
   simp only [lt_no, Bool.false_eq_true, if_false])
  (a := ([], [])) rfl ⟨by simp, by simp, fun r hr => absurd hr (by simp), fun r hr => absurd hr (by simp), by simp⟩
 simp only at a1 a2 a3 a4 a5
 obtain ⟨I, lI, vI, eI⟩ := Intervals_L h
 have hb2 := h.l.l2
 have hm0 : b.2.1[0]? = some (mxB b 0) := (h.l.at (show 0 < p.2.1.length by omega)).2.1
 have hmem : mxB b 0 ∈ b.2.1 := List.mem_of_getElem? hm0
 have hT : inB (mxB b 0) 0 60 = true := by
  obtain ⟨r1, r2, r3⟩ := hB.range (show 0 < p.2.1.length by omega)
  rw [inB_iff]
  omega
 obtain ⟨o4, e4, b1, b2, b3⟩ := any_loopI (F := impl_CandidateRules_L4) (fun j (o : List D_Rule) => ((j : Int), (p.2.2.2.1.length : Int), p.2.2.2.1, p, b, o, p0, ())) p.2.2.2.1.length
  (fun j o => p.2.2.1.length + p.2.1.length + j ≤ o.length ∧ o.length ≤ 400 + j * 45 ∧ ∀ r ∈ o, RuleQ p r)
  (fun o => Sum.inl (false, (p.2.2.2.1.length : Int), (p.2.2.2.1.length : Int), p.2.2.2.1, p, b, o, p0, ())) (by omega)
  (fun j o hj hI => by
   obtain ⟨k1, k2, k3⟩ := hI
   have hst := (hP.r _ (List.getElem_mem hj)).sl
   obtain ⟨times, e1, t1, t2⟩ := Cand_L1 (p := p) (b := b) p.2.2.2.1[j].1 b.2.1 hst (by omega) (j : Int) (p.2.2.2.1.length : Int) p.2.2.2.1 o p0
   have hin := t2 _ hmem
   have hpos : 0 < times.length := by
    cases times with
    | nil => simp at hin
    | cons x t => simp
   have eS := fun u => SetOf_L times u hpos (by omega)
   have hsl := setLL_len times
   obtain ⟨i0, hi0, ei0⟩ := List.mem_iff_getElem.1 (((setLL_facts times).2 _).2 hin)
   obtain ⟨o2, e2, c1, c2, c3⟩ := Cand_L2 (p := p) (b := b) (setLL times) (by omega) i0 hi0 (by rw [ei0]; exact hT) hj (p.2.2.2.1.length : Int) p.2.2.2.1 o p0 (by omega) k3
   obtain ⟨o3, e3, d1, d2⟩ := Cand_L3 (p := p) (b := b) I lI vI hj (p.2.2.2.1.length : Int) p.2.2.2.1 o2 p0 (by omega) c3
   refine ⟨o3, ?_, by omega, by omega, d2⟩
   unfold impl_CandidateRules_L4
   simp only [lt_yes hj, if_true, getI_lt hj, some_bind', lenI_eq, e1, eS, e2, eI, e3, idxN hj (Nat.le_refl _) (show p.2.2.2.1.length ≤ 1099511627776 by omega)])
  (fun o => by
   unfold impl_CandidateRules_L4
   simp only [lt_no, Bool.false_eq_true, if_false])
  (a := o0) rfl ⟨by omega, by omega, a3⟩
 have ha : addI o4 p0 = some (o4 ++ p0) := addI_ok (by rw [room_eq]; omega)
 refine ⟨o4 ++ p0, by rw [List.length_append]; omega, by rw [List.length_append]; omega, fun r hr => ?_, fun u => ?_⟩
 ·rcases List.mem_append.1 hr with hr | hr
  ·exact b3 r hr
  ·exact a4 r hr
 ·have z : ((0 : Nat) : Int) = 0 := rfl
  simp only [z] at e0 e4
  unfold impl_CandidateRules
  simp only [usable_D h, notB_true, Bool.false_eq_true, if_false, some_bind', lenI_eq, eR, e0, e4, ha]
end Go.Proofs.YtjhpeeapijjgjaaGreat
