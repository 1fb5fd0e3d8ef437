/-
  Plain laws: rules of a project; when a domain refutes one; what a domain refutes each smaller domain refutes. Condition: no list is longer than 2 to the 40.
-/
import Derived.Test.YtjhpeeapijjgjaaGreatn4LSubV
namespace Go.Proofs.YtjhpeeapijjgjaaGreat
open Go.Abs
set_option linter.unusedVariables false
set_option linter.unusedSimpArgs false

/-- one domain within another, that is not empty -/
structure SubD (p : D_Project) (b' b : D_Domain) : Prop where
 mn : ∀ i, i < p.2.1.length → mnB b i ≤ mnB b' i
 mx : ∀ i, i < p.2.1.length → mxB b' i ≤ mxB b i
 le : ∀ i, i < p.2.1.length → mnB b' i ≤ mxB b' i
 mo : ∀ i, i < p.2.1.length → ∀ k, k ∈ moB b' i → k ∈ moB b i
 ix : ∀ i (hi : i < p.2.1.length), ∀ k ∈ moB b' i, ∃ n : Nat, k = (n : Int) ∧ n < p.2.1[i].2.2.1.length
 ne : ∀ i, i < p.2.1.length → moB b' i ≠ []
theorem choF_from (a : D_Activity) (ms : List Int) : ∀ (k i : Nat) (out : List D_Mode) {m : D_Mode}, m ∈ foldN (choF a ms) k i out → m ∈ out ∨ ∃ (j : Nat) (hj : j < a.2.2.1.length), hasB ms (j : Int) = true ∧ m = a.2.2.1[j]
 | 0, _, _, m, h => .inl h
 | k + 1, i, out, m, h => by
  rcases choF_from a ms k (i + 1) _ h with h | h
  ·unfold choF at h
   cases hx : a.2.2.1[i]? with
   | none => rw [hx] at h; exact .inl h
   | some x =>
    rw [hx] at h
    simp only at h
    split at h
    ·rename_i hh
     rcases List.mem_append.1 h with h | h
     ·exact .inl h
     ·rw [List.mem_singleton.1 h]
      obtain ⟨hj, e⟩ := List.getElem?_eq_some_iff.1 hx
      exact .inr ⟨i, hj, hh, e.symm⟩
    ·exact .inl h
  ·exact .inr h
theorem lstV_at (val : D_Mode → Int) {a : D_Activity} {ms : List Int} (h : ∃ j : Nat, j < a.2.2.1.length ∧ hasB ms (j : Int) = true) : ∃ (j : Nat) (hj : j < a.2.2.1.length), hasB ms (j : Int) = true ∧ lstV val a ms = val a.2.2.1[j] := by
 obtain ⟨j0, hj0, h0⟩ := h
 unfold lstV
 rcases (lst_all val (choL a ms)).2 with ⟨e, -⟩ | ⟨m, hm, e⟩
 ·have := choL_has hj0 h0
  rw [e] at this
  simp at this
 ·rcases choF_from a ms _ 0 [] hm with h | ⟨j, hj, h1, rfl⟩
  ·simp at h
  ·exact ⟨j, hj, h1, e⟩
theorem SubD.has {p : D_Project} {b' b : D_Domain} (h : SubD p b' b) {i : Nat} (hi : i < p.2.1.length) : ∃ j : Nat, j < p.2.1[i].2.2.1.length ∧ hasB (moB b' i) (j : Int) = true := by
 have hne := h.ne i hi
 cases hm : moB b' i with
 | nil => exact absurd hm hne
 | cons k l =>
  obtain ⟨n, e, hn⟩ := h.ix i hi k (by rw [hm]; simp)
  exact ⟨n, hn, by rw [hasB_iff, ← e]; simp⟩
theorem SubD.lst {p : D_Project} {b' b : D_Domain} (h : SubD p b' b) {i : Nat} (hi : i < p.2.1.length) (val : D_Mode → Int) : lstV val p.2.1[i] (moB b i) ≤ lstV val p.2.1[i] (moB b' i) := by
 obtain ⟨j, hj, h1, e⟩ := lstV_at val (h.has hi)
 rw [e]
 exact lstV_le val hj (hasB_iff.2 (h.mo i hi _ (hasB_iff.1 h1)))
theorem SubD.dur {p : D_Project} {b' b : D_Domain} (h : SubD p b' b) {i : Nat} (hi : i < p.2.1.length) : durM p b i ≤ durM p b' i := by
 unfold durM
 rw [List.getElem?_eq_getElem hi]
 exact h.lst hi _
theorem SubD.need {p : D_Project} {b' b : D_Domain} (h : SubD p b' b) {i : Nat} (hi : i < p.2.1.length) (j : Nat) : needM p b j i ≤ needM p b' j i := by
 unfold needM
 rw [List.getElem?_eq_getElem hi]
 exact h.lst hi _
theorem SubD.cons {p : D_Project} {b' b : D_Domain} (h : SubD p b' b) {i : Nat} (hi : i < p.2.1.length) (k : Nat) : consM p b k i ≤ consM p b' k i := by
 unfold consM
 rw [List.getElem?_eq_getElem hi]
 exact h.lst hi _
theorem ov_mid {a s e d x y : Int} (h1 : a ≤ s) (h2 : s ≤ e) (hd : 0 ≤ d) : min (ovI a d x y) (ovI e d x y) ≤ ovI s d x y := by
 unfold ovI
 omega
theorem SubD.work {p : D_Project} {b' b : D_Domain} (hp : Sm_Project 1099511627776 p) (hpj : projB p = true) (h : SubD p b' b) {i j : Nat} (hi : i < p.2.1.length) (hj : j < p.2.2.2.1.length) (x y : Int) : workM p b i j x y ≤ workM p b' i j x y := by
 unfold workM
 rcases (leastI_all (wrk1 p b' i j x y) (moB b' i)).2 with ⟨e, -⟩ | ⟨k, hk, e⟩
 ·exact absurd e (h.ne i hi)
 ·obtain ⟨n, rfl, hn⟩ := h.ix i hi k hk
  rw [e]
  refine Int.le_trans ((leastI_all (wrk1 p b i j x y) (moB b i)).1 _ (h.mo i hi _ hk)) ?_
  rw [(wrk1_at hp hpj b hi hj hn x y).1, (wrk1_at hp hpj b' hi hj hn x y).1]
  obtain ⟨d1, d2, -⟩ := mode_atM hpj hi _ (List.getElem_mem hn)
  obtain ⟨-, -, u1, u2⟩ := usage_atM hp hpj hi hj _ (List.getElem_mem hn)
  have m1 := h.mn i hi
  have m2 := h.mx i hi
  have m3 := h.le i hi
  have o1 := ov_mid (x := x) (y := y) m1 (Int.le_trans m3 m2) (show 0 ≤ p.2.1[i].2.2.1[n].1 by omega)
  have o2 := ov_mid (x := x) (y := y) (Int.le_trans m1 m3) m2 (show 0 ≤ p.2.1[i].2.2.1[n].1 by omega)
  exact Int.mul_le_mul_of_nonneg_right (by omega) u1
/-! the six kinds of rules, each with what refutes it -/
def linkRef (p : D_Project) (b : D_Domain) (k : Nat) : Prop := ∃ (hk : k < p.2.2.1.length) (f t : Nat), p.2.2.1[k].1 = (f : Int) ∧ p.2.2.1[k].2.1 = (t : Int) ∧ mxB b t < mnB b f + (if p.2.2.1[k].2.2.1 = true then durM p b f else 0) + p.2.2.1[k].2.2.2.1
def endRef (p : D_Project) (b : D_Domain) (i : Nat) : Prop := p.1 < mnB b i + durM p b i
def capJ (p : D_Project) (j : Nat) (t : Int) : Int := match p.2.2.2.1[j]? with | some r => capV r.1 t | none => 0
def timeRef (p : D_Project) (b : D_Domain) (j : Nat) (t : Int) : Prop := capJ p j t < sumI (cuseM p b j t) p.2.1.length
def capI (p : D_Project) (j : Nat) (x y : Int) : Int := match p.2.2.2.1[j]? with | some r => capW r.1 x y | none => 0
def workRef (p : D_Project) (b : D_Domain) (j : Nat) (x y : Int) : Prop := capI p j x y < sumI (fun i => workM p b i j x y) p.2.1.length
def pairRef (p : D_Project) (b : D_Domain) (j c d : Nat) : Prop := bothM p b j c d = true ∧ canM p b j c d = false ∧ canM p b j d c = false
def stockJ (p : D_Project) (k : Nat) : Int := match p.2.2.2.2.1[k]? with | some n => n | none => 0
def stockRef (p : D_Project) (b : D_Domain) (k : Nat) : Prop := stockJ p k < sumI (consM p b k) p.2.1.length
/-- a rule of a project, and when a domain refutes it -/
def IsRule (p : D_Project) (r : D_Rule) (Q : D_Domain → Prop) : Prop :=
 (∃ k : Nat, k < p.2.2.1.length ∧ r = (1, (k : Int), 0, 0, ()) ∧ Q = fun b => linkRef p b k) ∨
 (∃ i : Nat, i < p.2.1.length ∧ r = (2, (i : Int), 0, 0, ()) ∧ Q = fun b => endRef p b i) ∨
 (∃ (j t : Nat), j < p.2.2.2.1.length ∧ t ≤ 60 ∧ r = (3, (j : Int), (t : Int), 0, ()) ∧ Q = fun b => timeRef p b j (t : Int)) ∨
 (∃ (j x n : Nat), j < p.2.2.2.1.length ∧ 0 < n ∧ x + n ≤ 60 ∧ r = (4, (j : Int), (x : Int), ((x + n : Nat) : Int), ()) ∧ Q = fun b => workRef p b j (x : Int) ((x + n : Nat) : Int)) ∨
 (∃ (j c d : Nat) (hj : j < p.2.2.2.1.length), 0 < p.2.2.2.1[j].2.1.length ∧ c < d ∧ d < p.2.1.length ∧ r = (5, (j : Int), (c : Int), (d : Int), ()) ∧ Q = fun b => pairRef p b j c d) ∨
 (∃ k : Nat, k < p.2.2.2.2.1.length ∧ r = (6, (k : Int), 0, 0, ()) ∧ Q = fun b => stockRef p b k)
theorem IsRule.mono {p : D_Project} {r : D_Rule} {Q : D_Domain → Prop} (hR : IsRule p r Q) {b' b : D_Domain} (hp : Sm_Project 1099511627776 p) (hpj : projB p = true) (h : SubD p b' b) (hQ : Q b) : Q b' := by
 rcases hR with ⟨k, hk, -, rfl⟩ | ⟨i, hi, -, rfl⟩ | ⟨j, t, hj, ht, -, rfl⟩ | ⟨j, x, n, hj, hn, hx, -, rfl⟩ | ⟨j, c, d, hj, hpos, hcd, hd, -, rfl⟩ | ⟨k, hk, -, rfl⟩
 ·obtain ⟨hk', f, t, ef, et, hlt⟩ := hQ
  obtain ⟨f', t', ef', et', hf, ht, -⟩ := link_at hp hpj hk
  have e1 : f = f' := by rw [ef'] at ef; omega
  have e2 : t = t' := by rw [et'] at et; omega
  subst e1 e2
  refine ⟨hk', f, t, ef, et, ?_⟩
  have m1 := h.mn f hf
  have m2 := h.mx t ht
  have m3 := h.dur hf
  split
  ·rename_i q; rw [if_pos q] at hlt; omega
  ·rename_i q; rw [if_neg q] at hlt; omega
 ·have hQ : p.1 < mnB b i + durM p b i := hQ
  have m1 := h.mn i hi
  have m3 := h.dur hi
  show p.1 < mnB b' i + durM p b' i
  omega
 ·have hQ : capJ p j t < sumI (cuseM p b j t) p.2.1.length := hQ
  refine Int.lt_of_lt_of_le hQ (sumI_le fun i hi => ?_)
  have m1 := h.mn i hi
  have m2 := h.mx i hi
  have m3 := h.dur hi
  have m4 := h.need hi j
  have m5 := (needM_in hp hpj b' hi hj).1
  unfold cuseM
  by_cases q : mxB b i ≤ t ∧ t < mnB b i + durM p b i
  ·rw [if_pos q, if_pos (by omega)]; exact m4
  ·rw [if_neg q]
   split
   ·exact m5
   ·exact Int.le_refl _
 ·have hQ : capI p j x ((x + n : Nat) : Int) < sumI (fun i => workM p b i j x ((x + n : Nat) : Int)) p.2.1.length := hQ
  exact Int.lt_of_lt_of_le hQ (sumI_le fun i hi => h.work hp hpj hi hj _ _)
 ·obtain ⟨q1, q2, q3⟩ : pairRef p b j c d := hQ
  rw [both_iff] at q1
  have hc : c < p.2.1.length := by omega
  have n1 := h.need hc j
  have n2 := h.need hd j
  refine ⟨both_iff.2 ⟨q1.1, by omega, by omega⟩, ?_, ?_⟩
  ·rw [Bool.eq_false_iff, Ne, can_iff] at q2 ⊢
   rintro ⟨k1, k2⟩
   refine q2 ⟨k1, ?_⟩
   have m1 := h.mn c hc
   have m2 := h.mx d hd
   have m3 := h.dur hc
   unfold aftM at k2 ⊢
   omega
  ·rw [Bool.eq_false_iff, Ne, can_iff] at q3 ⊢
   rintro ⟨k1, k2⟩
   refine q3 ⟨k1, ?_⟩
   have m1 := h.mn d hd
   have m2 := h.mx c hc
   have m3 := h.dur hd
   unfold aftM at k2 ⊢
   omega
 ·have hQ : stockJ p k < sumI (consM p b k) p.2.1.length := hQ
  exact Int.lt_of_lt_of_le hQ (sumI_le fun i hi => h.cons hi k)
theorem inB_atR {α : Type} {l : List α} (hl : l.length ≤ 1099511627776) {j : Nat} (hj : j < l.length) : inB (j : Int) 0 (subZ .i64 (lenI l) 1) = true := by
 rw [lenI_sub _ hl, inB_iff]; omega
theorem hasStock_eqS (p : D_Project) (a : Int) (u : Unit) : impl_Project_hasStock (p, a, u) () = some (inB a 0 (subZ .i64 (lenI p.2.2.2.2.1) 1), ()) := by
 unfold impl_Project_hasStock
 simp only [within_eq, some_bind']
theorem IsRule.ok {p : D_Project} {r : D_Rule} {Q : D_Domain → Prop} (hR : IsRule p r Q) (hp : Sm_Project 1099511627776 p) (hpj : projB p = true) (u : Unit) : impl_RuleOk (p, r, u) () = some (true, ()) := by
 rcases hR with ⟨k, hk, rfl, -⟩ | ⟨i, hi, rfl, -⟩ | ⟨j, t, hj, ht, rfl, -⟩ | ⟨j, x, n, hj, hn, hx, rfl, -⟩ | ⟨j, c, d, hj, hpos, hcd, hd, rfl, -⟩ | ⟨k, hk, rfl, -⟩
 ·have z1 : eqZ 1 1 = true := rfl
  unfold impl_RuleOk
  simp only [ProjectOk_impl _ _ hp, hpj, notB_true, Bool.false_eq_true, if_false, some_bind', z1, if_true, within_eq, inB_atR hp.2.2.1.1 hk, eqZ_self]
 ·have z1 : eqZ 2 1 = false := rfl
  have z2 : eqZ 2 2 = true := rfl
  unfold impl_RuleOk
  simp only [ProjectOk_impl _ _ hp, hpj, notB_true, Bool.false_eq_true, if_false, some_bind', z1, z2, if_true, hasActivity_eq, inB_atR hp.2.1.1 hi, eqZ_self]
 ·have z1 : eqZ 3 1 = false := rfl
  have z2 : eqZ 3 2 = false := rfl
  have z3 : eqZ 3 3 = true := rfl
  have hT : inB (t : Int) 0 60 = true := by rw [inB_iff]; omega
  unfold impl_RuleOk
  simp only [ProjectOk_impl _ _ hp, hpj, notB_true, Bool.false_eq_true, if_false, some_bind', z1, z2, z3, if_true, hasResource_eqP, inB_atR hp.2.2.2.1.1 hj, isTime_eq, hT, eqZ_self]
 ·have z1 : eqZ 4 1 = false := rfl
  have z2 : eqZ 4 2 = false := rfl
  have z3 : eqZ 4 3 = false := rfl
  have z4 : eqZ 4 4 = true := rfl
  have hT : inB (x : Int) 0 60 = true := by rw [inB_iff]; omega
  have hT2 : inB ((x + n : Nat) : Int) 0 60 = true := by rw [inB_iff]; omega
  have hl : ltZ (x : Int) ((x + n : Nat) : Int) = true := by rw [ltZ_iff]; omega
  unfold impl_RuleOk
  simp only [ProjectOk_impl _ _ hp, hpj, notB_true, Bool.false_eq_true, if_false, some_bind', z1, z2, z3, z4, if_true, hasResource_eqP, inB_atR hp.2.2.2.1.1 hj, isTime_eq, hT, hT2, hl]
 ·have z1 : eqZ 5 1 = false := rfl
  have z2 : eqZ 5 2 = false := rfl
  have z3 : eqZ 5 3 = false := rfl
  have z4 : eqZ 5 4 = false := rfl
  have z5 : eqZ 5 5 = true := rfl
  have hM : machBP p (j : Int) = true := by rw [machB_atP hp hj, ltZ_iff, lenI_eq]; omega
  have hl : ltZ (c : Int) (d : Int) = true := by rw [ltZ_iff]; omega
  unfold impl_RuleOk
  simp only [ProjectOk_impl _ _ hp, hpj, notB_true, Bool.false_eq_true, if_false, some_bind', z1, z2, z3, z4, z5, if_true, IsMachine_impl_eqP, IsMachine_specP _ _ _ hp, hM, hasActivity_eq, inB_atR hp.2.1.1 hd, inB_atR hp.2.1.1 (show c < p.2.1.length by omega), hl]
 ·have z1 : eqZ 6 1 = false := rfl
  have z2 : eqZ 6 2 = false := rfl
  have z3 : eqZ 6 3 = false := rfl
  have z4 : eqZ 6 4 = false := rfl
  have z5 : eqZ 6 5 = false := rfl
  have z6 : eqZ 6 6 = true := rfl
  unfold impl_RuleOk
  simp only [ProjectOk_impl _ _ hp, hpj, notB_true, Bool.false_eq_true, if_false, some_bind', z1, z2, z3, z4, z5, z6, if_true, hasStock_eqS, inB_atR hp.2.2.2.2.1.1 hk, eqZ_self]
theorem IsRule.refutes {p : D_Project} {r : D_Rule} {Q : D_Domain → Prop} (hR : IsRule p r Q) {b : D_Domain} (h : UseD p b) : ∃ v : Bool, (∀ u, impl_Refutes (p, b, r, u) () = some (v, ())) ∧ (v = true ↔ Q b) := by
 have hp := h.hp
 have hpj := proj_of_dom h.dom
 have hok := fun u => hR.ok hp hpj u
 have s0 := fun u => DomainForm_impl p b u hp h.hb
 have s1 := fun u => DomainEmpty_impl b u h.hb
 have hdom := h.dom
 have hne := h.ne
 rcases hR with ⟨k, hk, rfl, rfl⟩ | ⟨i, hi, rfl, rfl⟩ | ⟨j, t, hj, ht, rfl, rfl⟩ | ⟨j, x, n, hj, hn, hx, rfl, rfl⟩ | ⟨j, c, d, hj, hpos, hcd, hd, rfl, rfl⟩ | ⟨k, hk, rfl, rfl⟩
 ·have z1 : eqZ 1 1 = true := rfl
  obtain ⟨f, t, ef, et, hf, ht, -, g1, g2⟩ := link_at hp hpj hk
  obtain ⟨k1, -, -⟩ := h.l.get hf
  obtain ⟨-, k2, -⟩ := h.l.get ht
  obtain ⟨r1, r2, -⟩ := h.rng hf
  obtain ⟨d1, d2⟩ := durM_in hpj b hf
  have hl : ∀ q, (mxB b t < mnB b f + (if p.2.2.1[k].2.2.1 = true then durM p b f else 0) + p.2.2.1[k].2.2.2.1 ↔ q) → (linkRef p b k ↔ q) := fun q hq => by
   rw [← hq]
   refine ⟨fun ⟨hk', f', t', ef', et', hh⟩ => ?_, fun hh => ⟨hk, f, t, ef, et, hh⟩⟩
   have e1 : f' = f := by rw [ef] at ef'; omega
   have e2 : t' = t := by rw [et] at et'; omega
   subst e1 e2
   exact hh
  rcases tf p.2.2.1[k].2.2.1 with q | q
  ·refine ⟨ltZ (mxB b t) (mnB b f + p.2.2.1[k].2.2.2.1), fun u => ?_, ?_⟩
   ·have ea : addZ .i64 (mnB b f) p.2.2.1[k].2.2.2.1 = mnB b f + p.2.2.1[k].2.2.2.1 := addZ64 (by omega) (by omega)
    unfold impl_Refutes impl_Project_refutesLink
    simp only [s0, hdom, notB_true, Bool.false_eq_true, if_false, s1, hne, hok, some_bind', z1, if_true, getI_lt hk, ef, et, k1, k2, q, ea]
   ·rw [ltZ_iff]
    refine (hl _ ?_).symm
    rw [q]
    simp
  ·refine ⟨ltZ (mxB b t) (mnB b f + durM p b f + p.2.2.1[k].2.2.2.1), fun u => ?_, ?_⟩
   ·have ea : addZ .i64 (addZ .i64 (mnB b f) (durM p b f)) p.2.2.1[k].2.2.2.1 = mnB b f + durM p b f + p.2.2.1[k].2.2.2.1 := by
     rw [addZ64 (x := mnB b f) (by omega) (by omega), addZ64 (by omega) (by omega)]
    unfold impl_Refutes impl_Project_refutesLink
    simp only [s0, hdom, notB_true, Bool.false_eq_true, if_false, s1, hne, hok, some_bind', z1, if_true, getI_lt hk, ef, et, k1, k2, q, h.dur hf, ea]
   ·rw [ltZ_iff]
    refine (hl _ ?_).symm
    rw [q]
    simp
 ·have z1 : eqZ 2 1 = false := rfl
  have z2 : eqZ 2 2 = true := rfl
  obtain ⟨k1, -, -⟩ := h.l.get hi
  obtain ⟨r1, r2, -⟩ := h.rng hi
  obtain ⟨d1, d2⟩ := durM_in hpj b hi
  refine ⟨ltZ p.1 (mnB b i + durM p b i), fun u => ?_, ltZ_iff⟩
  have ea : addZ .i64 (mnB b i) (durM p b i) = mnB b i + durM p b i := addZ64 (by omega) (by omega)
  unfold impl_Refutes
  simp only [s0, hdom, notB_true, Bool.false_eq_true, if_false, s1, hne, hok, some_bind', z1, z2, if_true, k1, h.dur hi, ea]
 ·have z1 : eqZ 3 1 = false := rfl
  have z2 : eqZ 3 2 = false := rfl
  have z3 : eqZ 3 3 = true := rfl
  have hst : p.2.2.2.1[j].1.length ≤ 1099511627776 := (hp.2.2.2.1.2 _ (List.getElem_mem hj)).1.1
  have hc : capJ p j (t : Int) = capV p.2.2.2.1[j].1 (t : Int) := by
   unfold capJ
   rw [List.getElem?_eq_getElem hj]
  refine ⟨ltZ (capV p.2.2.2.1[j].1 (t : Int)) (sumI (cuseM p b j (t : Int)) p.2.1.length), fun u => ?_, ?_⟩
  ·unfold impl_Refutes
   simp only [s0, hdom, notB_true, Bool.false_eq_true, if_false, s1, hne, hok, some_bind', z1, z2, z3, if_true, cuse_M h hj, getI_lt hj, capacityAt_impl_eq, l03At_spec _ _ _ hst]
  ·rw [ltZ_iff, ← hc]
   exact Iff.rfl
 ·have z1 : eqZ 4 1 = false := rfl
  have z2 : eqZ 4 2 = false := rfl
  have z3 : eqZ 4 3 = false := rfl
  have z4 : eqZ 4 4 = true := rfl
  have hst : p.2.2.2.1[j].1.length ≤ 1099511627776 := (hp.2.2.2.1.2 _ (List.getElem_mem hj)).1.1
  have hT : inB (x : Int) 0 60 = true := by rw [inB_iff]; omega
  have hT2 : inB ((x + n : Nat) : Int) 0 60 = true := by rw [inB_iff]; omega
  have hl : leZ ((x + n : Nat) : Int) (x : Int) = false := by rw [Bool.eq_false_iff, Ne, leZ_iff]; omega
  have hc : capI p j (x : Int) ((x + n : Nat) : Int) = capW p.2.2.2.1[j].1 (x : Int) ((x + n : Nat) : Int) := by
   unfold capI
   rw [List.getElem?_eq_getElem hj]
  refine ⟨ltZ (capW p.2.2.2.1[j].1 (x : Int) ((x + n : Nat) : Int)) (sumI (fun i => workM p b i j (x : Int) ((x + n : Nat) : Int)) p.2.1.length), fun u => ?_, ?_⟩
  ·have w1 := fun u => totalWork_M h hj (x := (x : Int)) (y := ((x + n : Nat) : Int)) (by omega) (by omega) u
   have w2 := fun u => capW_at p.2.2.2.1[j].1 x n hst hx u
   unfold impl_Refutes impl_IsOverworked
   simp only [s0, hdom, notB_true, Bool.false_eq_true, if_false, s1, hne, hok, some_bind', z1, z2, z3, z4, if_true, isUsable_eq _ _ _ hp h.hb, h.use, hasResource_eqP, inB_atR hp.2.2.2.1.1 hj, isTime_eq, hT, hT2, hl, w1, getI_lt hj, w2]
  ·rw [ltZ_iff, ← hc]
   exact Iff.rfl
 ·have z1 : eqZ 5 1 = false := rfl
  have z2 : eqZ 5 2 = false := rfl
  have z3 : eqZ 5 3 = false := rfl
  have z4 : eqZ 5 4 = false := rfl
  have z5 : eqZ 5 5 = true := rfl
  refine ⟨bothM p b j c d && (notB (canM p b j c d) && notB (canM p b j d c)), fun u => ?_, ?_⟩
  ·have w1 := fun u => PairConflict_M h hj hpos (show c < p.2.1.length by omega) hd u
   unfold impl_Refutes
   simp only [s0, hdom, notB_true, Bool.false_eq_true, if_false, s1, hne, hok, some_bind', z1, z2, z3, z4, z5, if_true, w1]
  ·rw [Bool.and_eq_true, Bool.and_eq_true, notB_not, notB_not, Bool.not_eq_true', Bool.not_eq_true']
   exact Iff.rfl
 ·have z1 : eqZ 6 1 = false := rfl
  have z2 : eqZ 6 2 = false := rfl
  have z3 : eqZ 6 3 = false := rfl
  have z4 : eqZ 6 4 = false := rfl
  have z5 : eqZ 6 5 = false := rfl
  have hc : stockJ p k = p.2.2.2.2.1[k] := by
   unfold stockJ
   rw [List.getElem?_eq_getElem hk]
  refine ⟨ltZ p.2.2.2.2.1[k] (sumI (consM p b k) p.2.1.length), fun u => ?_, ?_⟩
  ·unfold impl_Refutes
   simp only [s0, hdom, notB_true, Bool.false_eq_true, if_false, s1, hne, hok, some_bind', z1, z2, z3, z4, z5, stock_M h hk]
  ·rw [ltZ_iff, ← hc]
   exact Iff.rfl
/-- an empty domain refutes every rule -/
theorem empty_refutes {p : D_Project} {b : D_Domain} (hp : Sm_Project 1099511627776 p) (hb : Sm_Domain 1099511627776 b) (hd : domB p b = true) (he : emptyB b = true) (r : D_Rule) (u : Unit) : impl_Refutes (p, b, r, u) () = some (true, ()) := by
 unfold impl_Refutes
 simp only [DomainForm_impl _ _ _ hp hb, hd, notB_true, Bool.false_eq_true, if_false, DomainEmpty_impl _ _ hb, he, some_bind', if_true]
end Go.Proofs.YtjhpeeapijjgjaaGreat
