/-
  Plain laws: rules of a project, rules that a domain refutes, clauses of the right form, in the program and in the reference. Condition: no list is longer than 2 to the 40.
-/
import Derived.Test.YtafnhdfjcocpgaaGreatw4LRefutes
import Derived.Test.YtafnhdfjcocpgaaGreatw4LNegated
namespace Go.Proofs.YtafnhdfjcocpgaaGreat
open Go.Abs
set_option linter.unusedVariables false
set_option linter.unusedSimpArgs false

theorem wrap_eqF (x : Int) : IntKind.i64.wrap x = (x + 9223372036854775808) % 18446744073709551616 - 9223372036854775808 := by
  simp only [IntKind.wrap, IntKind.signed, IntKind.bits]
  simp
  omega
theorem addZ_perm (a d l : Int) : addZ .i64 (addZ .i64 a l) d = addZ .i64 (addZ .i64 a d) l := by
  unfold addZ
  rw [wrap_eqF, wrap_eqF, wrap_eqF, wrap_eqF]
  omega
theorem hasStock_eqR (p : D_Project) (a : Int) (u : Unit) : impl_Project_hasStock (p, a, u) () = some (inB a 0 (subZ .i64 (lenI p.2.2.2.2.1) 1), ()) := by
  unfold impl_Project_hasStock
  simp only [within_eq, some_bind']
/-- a rule of a project -/
def ruleV (p : D_Project) (r : D_Rule) : Bool :=
  if projB p = true then
    if eqZ r.1 1 = true then inB r.2.1 0 (subZ .i64 (lenI p.2.2.1) 1) && (eqZ r.2.2.1 0 && eqZ r.2.2.2.1 0)
    else if eqZ r.1 2 = true then inB r.2.1 0 (subZ .i64 (lenI p.2.1) 1) && (eqZ r.2.2.1 0 && eqZ r.2.2.2.1 0)
    else if eqZ r.1 3 = true then inB r.2.1 0 (subZ .i64 (lenI p.2.2.2.1) 1) && (inB r.2.2.1 0 60 && eqZ r.2.2.2.1 0)
    else if eqZ r.1 4 = true then inB r.2.1 0 (subZ .i64 (lenI p.2.2.2.1) 1) && (inB r.2.2.1 0 60 && (inB r.2.2.2.1 0 60 && ltZ r.2.2.1 r.2.2.2.1))
    else if eqZ r.1 5 = true then machBP p r.2.1 && (inB r.2.2.1 0 (subZ .i64 (lenI p.2.1) 1) && (inB r.2.2.2.1 0 (subZ .i64 (lenI p.2.1) 1) && ltZ r.2.2.1 r.2.2.2.1))
    else if eqZ r.1 6 = true then inB r.2.1 0 (subZ .i64 (lenI p.2.2.2.2.1) 1) && (eqZ r.2.2.1 0 && eqZ r.2.2.2.1 0)
    else false
  else false
theorem and_if (a b : Bool) : (a && b) = if a = true then b else false := by cases a <;> rfl
theorem RuleOk_spec (p : D_Project) (r : D_Rule) (u : Unit) (hp : Sm_Project 1099511627776 p) : spec_RuleOk (p, r, u) () = some (ruleV p r, ()) := by
  obtain ⟨r1, r2, r3, r4, -⟩ := r
  unfold spec_RuleOk ruleV
  simp only [ProjectOk_spec _ _ hp, some_bind', l01In_eq, IsMachine_specP _ _ _ hp]
  rcases tf (projB p) with h | h
  · simp [h, notB]
  simp only [h, notB_true, Bool.false_eq_true, if_false, if_true]
  rcases tf (eqZ r1 1) with h1 | h1
  rotate_left
  · simp only [h1, if_true]
    rcases tf (inB r2 0 (subZ .i64 (lenI p.2.2.1) 1)) with k1 | k1 <;> rcases tf (eqZ r3 0) with k2 | k2 <;> simp [k1, k2]
  simp only [h1, Bool.false_eq_true, if_false]
  rcases tf (eqZ r1 2) with h2 | h2
  rotate_left
  · simp only [h2, if_true]
    rcases tf (inB r2 0 (subZ .i64 (lenI p.2.1) 1)) with k1 | k1 <;> rcases tf (eqZ r3 0) with k2 | k2 <;> simp [k1, k2]
  simp only [h2, Bool.false_eq_true, if_false]
  rcases tf (eqZ r1 3) with h3 | h3
  rotate_left
  · simp only [h3, if_true]
    rcases tf (inB r2 0 (subZ .i64 (lenI p.2.2.2.1) 1)) with k1 | k1 <;> rcases tf (inB r3 0 60) with k2 | k2 <;> simp [k1, k2, l01In_eq]
  simp only [h3, Bool.false_eq_true, if_false]
  rcases tf (eqZ r1 4) with h4 | h4
  rotate_left
  · simp only [h4, if_true]
    rcases tf (inB r2 0 (subZ .i64 (lenI p.2.2.2.1) 1)) with k1 | k1 <;> rcases tf (inB r3 0 60) with k2 | k2 <;> rcases tf (inB r4 0 60) with k3 | k3 <;> simp [k1, k2, k3, l01In_eq]
  simp only [h4, Bool.false_eq_true, if_false]
  rcases tf (eqZ r1 5) with h5 | h5
  rotate_left
  · simp only [h5, if_true]
    rcases tf (machBP p r2) with k1 | k1 <;> rcases tf (inB r3 0 (subZ .i64 (lenI p.2.1) 1)) with k2 | k2 <;> rcases tf (inB r4 0 (subZ .i64 (lenI p.2.1) 1)) with k3 | k3 <;> simp [k1, k2, k3, l01In_eq]
  simp only [h5, Bool.false_eq_true, if_false]
  rcases tf (eqZ r1 6) with h6 | h6
  rotate_left
  · simp only [h6, if_true]
    rcases tf (inB r2 0 (subZ .i64 (lenI p.2.2.2.2.1) 1)) with k1 | k1 <;> rcases tf (eqZ r3 0) with k2 | k2 <;> simp [k1, k2]
  simp only [h6, Bool.false_eq_true, if_false]
theorem RuleOk_impl (p : D_Project) (r : D_Rule) (u : Unit) (hp : Sm_Project 1099511627776 p) : impl_RuleOk (p, r, u) () = some (ruleV p r, ()) := by
  rw [← RuleOk_spec p r u hp]
  unfold impl_RuleOk spec_RuleOk
  simp only [ProjectOk_spec _ _ hp, ProjectOk_impl _ _ hp, some_bind', l01In_eq, within_eq, isTime_eq, hasActivity_eq, hasResource_eqP, hasStock_eqR, IsMachine_impl_eqP]
theorem Refutes_both (p : D_Project) (b : D_Domain) (r : D_Rule) (hp : Sm_Project 1099511627776 p) (hb : Sm_Domain 1099511627776 b) :
    ∃ v, (∀ u, spec_Refutes (p, b, r, u) () = some (v, ())) ∧ ∀ u, impl_Refutes (p, b, r, u) () = some (v, ()) := by
  rcases tf (domB p b) with h | h
  · refine ⟨false, fun u => ?_, fun u => ?_⟩
    · unfold spec_Refutes
      simp [DomainForm_spec _ _ _ hp hb, h, notB]
    · unfold impl_Refutes
      simp [DomainForm_impl _ _ _ hp hb, h, notB]
  rcases tf (emptyB b) with he | he
  rotate_left
  · refine ⟨true, fun u => ?_, fun u => ?_⟩
    · unfold spec_Refutes
      simp [DomainForm_spec _ _ _ hp hb, DomainEmpty_spec _ _ hb, h, he, notB]
    · unfold impl_Refutes
      simp [DomainForm_impl _ _ _ hp hb, DomainEmpty_impl _ _ hb, h, he, notB]
  rcases tf (ruleV p r) with hr | hr
  · refine ⟨false, fun u => ?_, fun u => ?_⟩
    · unfold spec_Refutes
      simp [DomainForm_spec _ _ _ hp hb, DomainEmpty_spec _ _ hb, RuleOk_spec _ _ _ hp, h, he, hr, notB]
    · unfold impl_Refutes
      simp [DomainForm_impl _ _ _ hp hb, DomainEmpty_impl _ _ hb, RuleOk_impl _ _ _ hp, h, he, hr, notB]
  have hpj := proj_of_dom h
  -- what is left: the rule itself
  suffices hs : ∃ v, (∀ u, spec_l17Refutes (p, b, r, u) () = some (v, ())) ∧ ∀ u, impl_Refutes (p, b, r, u) () = some (v, ()) by
    obtain ⟨v, e1, e2⟩ := hs
    refine ⟨v, fun u => ?_, e2⟩
    unfold spec_Refutes
    simp only [DomainForm_spec _ _ _ hp hb, DomainEmpty_spec _ _ hb, RuleOk_spec _ _ _ hp, h, he, hr, notB_true, Bool.false_eq_true, if_false, if_true, some_bind', e1]
  have hv := hr
  obtain ⟨r1, r2, r3, r4, ru⟩ := r
  unfold ruleV at hv
  simp only [hpj, if_true] at hv
  have start : ∀ u, impl_Refutes (p, b, (r1, r2, r3, r4, ru), u) () = (if (eqZ r1 1) = true then (Option.bind (getI p.2.2.1 r2) fun v6 => (Option.bind ((Option.bind (impl_Project_refutesLink (p, (b, (v6, ()))) ()) fun v7 => (some v7.1)) : (Option Bool)) fun v8 => (some (v8, ())))) else (if (eqZ r1 2) = true then (Option.bind (getI b.1 r2) fun v9 => (Option.bind ((Option.bind (impl_Project_duration (p, (b, (r2, ()))) ()) fun v10 => (some v10.1)) : (Option Int)) fun v11 => (some ((ltZ p.1 (addZ .i64 v9 v11)), ())))) else (if (eqZ r1 3) = true then (Option.bind ((Option.bind (impl_Project_compulsoryUsage (p, (b, (r2, (r3, ())))) ()) fun v12 => (some v12.1)) : (Option Int)) fun v13 => (Option.bind (getI p.2.2.2.1 r2) fun v14 => (Option.bind ((Option.bind (impl_capacityAt (v14.1, (r3, ())) ()) fun v15 => (some v15.1)) : (Option Int)) fun v16 => (some ((ltZ v16 v13), ()))))) else (if (eqZ r1 4) = true then (Option.bind ((Option.bind (impl_IsOverworked (p, (b, (r2, (r3, (r4, ()))))) ()) fun v17 => (some v17.1)) : (Option Bool)) fun v18 => (some (v18, ()))) else (if (eqZ r1 5) = true then (Option.bind ((Option.bind (impl_PairConflict (p, (b, (r2, (r3, (r4, ()))))) ()) fun v19 => (some v19.1)) : (Option Bool)) fun v20 => (some (v20, ()))) else (Option.bind ((Option.bind (impl_Project_refutesStock (p, (b, (r2, ()))) ()) fun v21 => (some v21.1)) : (Option Bool)) fun v22 => (some (v22, ())))))))) := fun u => by
    unfold impl_Refutes
    simp only [DomainForm_impl _ _ _ hp hb, DomainEmpty_impl _ _ hb, RuleOk_impl _ _ _ hp, h, he, hr, notB_true, Bool.false_eq_true, if_false, some_bind']
  simp only [start]
  clear start
  unfold spec_l17Refutes
  simp only
  rcases tf (eqZ r1 1) with h1 | h1
  rotate_left
  · simp only [h1, if_true, Bool.and_eq_true] at hv ⊢
    obtain ⟨k, rfl, hk⟩ := inB_place hp.2.2.1.1 hv.1
    obtain ⟨f, t, ef, et, hf, ht, -, g60, g61⟩ := link_atP hp hpj hk
    obtain ⟨x, y, m, g1, g2, g3, x1, x2, y1, y2, hml, -, d1, d2⟩ := dom_dur hp hb h hf
    obtain ⟨x', y', m', g1', g2', g3', -, -, -, -, -, -, -, -⟩ := dom_dur hp hb h ht
    rcases tf p.2.2.1[k].2.2.1 with hb' | hb'
    · refine ⟨ltZ y' (addZ .i64 x p.2.2.1[k].2.2.2.1), fun u => ?_, fun u => ?_⟩
      · simp only [getI_lt hk, some_bind', ef, et, g1, g2', hb', Bool.false_eq_true, if_false]
      · unfold impl_Project_refutesLink
        simp only [getI_lt hk, some_bind', ef, et, g1, g2', hb', Bool.false_eq_true, if_false]
    · refine ⟨ltZ y' (addZ .i64 (addZ .i64 x p.2.2.1[k].2.2.2.1) (durD p.2.1[f] m)), fun u => ?_, fun u => ?_⟩
      · simp only [getI_lt hk, some_bind', ef, et, g1, g2', d1, hb', if_true]
      · unfold impl_Project_refutesLink
        simp only [getI_lt hk, some_bind', ef, et, g1, g2', d2, hb', if_true, addZ_perm x (durD p.2.1[f] m)]
  simp only [h1, Bool.false_eq_true, if_false] at hv ⊢
  rcases tf (eqZ r1 2) with h2 | h2
  rotate_left
  · simp only [h2, if_true, Bool.and_eq_true] at hv ⊢
    obtain ⟨i, rfl, hi⟩ := inB_place hp.2.1.1 hv.1
    obtain ⟨x, y, m, g1, g2, g3, x1, x2, y1, y2, hml, -, d1, d2⟩ := dom_dur hp hb h hi
    exact ⟨ltZ p.1 (addZ .i64 x (durD p.2.1[i] m)), fun u => by simp only [g1, d1, some_bind'], fun u => by simp only [g1, d2, some_bind']⟩
  simp only [h2, Bool.false_eq_true, if_false] at hv ⊢
  rcases tf (eqZ r1 3) with h3 | h3
  rotate_left
  · simp only [h3, if_true, Bool.and_eq_true] at hv ⊢
    obtain ⟨j, rfl, hj⟩ := inB_place hp.2.2.2.1.1 hv.1
    obtain ⟨v, e1, e2⟩ := use14_both p b j r3 hp hb h hj
    have hc := fun u => l03At_R p.2.2.2.1[j].1 r3 u (hp.2.2.2.1.2 _ (List.getElem_mem hj)).1.1
    exact ⟨ltZ (capVR p.2.2.2.1[j].1 r3) v, fun u => by simp only [e1, getI_lt hj, hc, some_bind'], fun u => by simp only [e2, getI_lt hj, capAt_R, hc, some_bind']⟩
  simp only [h3, Bool.false_eq_true, if_false] at hv ⊢
  rcases tf (eqZ r1 4) with h4 | h4
  rotate_left
  · simp only [h4, if_true, Bool.and_eq_true] at hv ⊢
    obtain ⟨j, rfl, hj⟩ := inB_place hp.2.2.2.1.1 hv.1
    have b1 := inB_iff.1 hv.2.1
    have b2 := inB_iff.1 hv.2.2.1
    have b3 := ltZ_iff.1 hv.2.2.2
    obtain ⟨x, rfl⟩ : ∃ x : Nat, r3 = (x : Int) := ⟨r3.toNat, by omega⟩
    obtain ⟨n, rfl⟩ : ∃ n : Nat, r4 = ((x + n : Nat) : Int) := ⟨(r4 - x).toNat, by omega⟩
    obtain ⟨v, e1, e2⟩ := over_both p b j x n hp hb h he hj (by omega) (by omega)
    exact ⟨v, fun u => by simp only [e1, some_bind'], fun u => by simp only [e2, some_bind']⟩
  simp only [h4, Bool.false_eq_true, if_false] at hv ⊢
  rcases tf (eqZ r1 5) with h5 | h5
  rotate_left
  · simp only [h5, if_true, Bool.and_eq_true] at hv ⊢
    have hM := hv.1
    have hin : inB r2 0 (subZ .i64 (lenI p.2.2.2.1) 1) = true := by
      unfold machBP at hM
      rcases tf (inB r2 0 (subZ .i64 (lenI p.2.2.2.1) 1)) with q | q
      · rw [q] at hM; cases hM
      · exact q
    obtain ⟨j, rfl, hj⟩ := inB_place hp.2.2.2.1.1 hin
    rw [machB_atP hp hj, ltZ_iff, lenI_eq] at hM
    obtain ⟨c, rfl, hc⟩ := inB_place hp.2.1.1 hv.2.1
    obtain ⟨d, rfl, hd⟩ := inB_place hp.2.1.1 hv.2.2.1
    have b3 := ltZ_iff.1 hv.2.2.2
    obtain ⟨v, e1, e2⟩ := jam_both p b j c d hp hb h he hj (by omega) hc hd (by omega)
    exact ⟨v, fun u => by simp only [e1, some_bind'], fun u => by simp only [e2, some_bind']⟩
  simp only [h5, Bool.false_eq_true, if_false] at hv ⊢
  rcases tf (eqZ r1 6) with h6 | h6
  · rw [h6] at hv
    simp at hv
  simp only [h6, if_true, Bool.and_eq_true] at hv
  obtain ⟨k, rfl, hk⟩ := inB_place hp.2.2.2.2.1.1 hv.1
  obtain ⟨v, e1, e2⟩ := stock_both p b k hp hb h hk
  exact ⟨v, fun u => by simp only [e1, some_bind'], fun u => by simp only [e2, some_bind']⟩
/-- clauses -/
def sgnV (x y : Int) : Int := if ltZ x y = true then -1 else if ltZ y x = true then 1 else 0
theorem Sign_eq (x y : Int) (u : Unit) : spec_l11Sign (x, y, u) () = some (sgnV x y, ()) := by
  unfold spec_l11Sign sgnV
  rcases tf (ltZ x y) with h | h <;> rcases tf (ltZ y x) with h' | h' <;> simp [h, h']
theorem Compare_eqR (x y : Int) (u : Unit) : cmp_Compare_int (x, y, u) () = some (sgnV x y, ()) := by
  have e : ∀ x u, cmp_isNaN_int (x, u) () = some (false, ()) := fun x u => by
    unfold cmp_isNaN_int
    simp [eqZ_self, notB]
  unfold cmp_Compare_int sgnV
  simp only [e, some_bind', Bool.false_eq_true, if_false]
  rcases tf (ltZ x y) with h | h <;> rcases tf (ltZ y x) with h' | h' <;> simp [h, h']
theorem sgn_zero (x y : Int) : eqZ (sgnV x y) 0 = eqZ x y := by
  unfold sgnV
  rw [eqZ_dec, eqZ_dec]
  rcases tf (ltZ x y) with h | h
  · rcases tf (ltZ y x) with h' | h'
    · simp only [h, h', Bool.false_eq_true, if_false]
      rw [Bool.eq_false_iff, Ne, ltZ_iff] at h h'
      simp; omega
    · simp only [h, h', Bool.false_eq_true, if_false, if_true]
      rw [ltZ_iff] at h'
      simp; omega
  · simp only [h, if_true]
    rw [ltZ_iff] at h
    simp; omega
def cmpL (a b : D_Literal) : Int := if notB (eqZ a.2.1 b.2.1) = true then sgnV a.2.1 b.2.1 else if notB (eqZ a.1 b.1) = true then sgnV a.1 b.1 else sgnV a.2.2.1 b.2.2.1
theorem CompareLiterals_spec (a b : D_Literal) (u : Unit) : spec_CompareLiterals (a, b, u) () = some (cmpL a b, ()) := by
  unfold spec_CompareLiterals cmpL
  simp only [Sign_eq, some_bind']
  rcases tf (notB (eqZ a.2.1 b.2.1)) with h | h <;> rcases tf (notB (eqZ a.1 b.1)) with h' | h' <;> simp [h, h']
theorem Or3 (x y z : Int) (u : Unit) : cmp_Or_int ([x, y, z], u) () = some (if notB (eqZ x 0) = true then x else if notB (eqZ y 0) = true then y else if notB (eqZ z 0) = true then z else 0, ()) := by
  have hb : ∃ n, big = n + 1 + 1 + 1 + 1 := ⟨18446744073709551612, rfl⟩
  obtain ⟨n, hn⟩ := hb
  have s0 : cmp_Or_int_L0 (0, 3, [x, y, z], 0, ()) = if notB (eqZ x 0) = true then some (.ret (x, ())) else some (.norm (1, 3, [x, y, z], 0, ())) := by
    unfold cmp_Or_int_L0
    rfl
  have s1 : cmp_Or_int_L0 (1, 3, [x, y, z], 0, ()) = if notB (eqZ y 0) = true then some (.ret (y, ())) else some (.norm (2, 3, [x, y, z], 0, ())) := by
    unfold cmp_Or_int_L0
    rfl
  have s2 : cmp_Or_int_L0 (2, 3, [x, y, z], 0, ()) = if notB (eqZ z 0) = true then some (.ret (z, ())) else some (.norm (3, 3, [x, y, z], 0, ())) := by
    unfold cmp_Or_int_L0
    rfl
  have s3 : cmp_Or_int_L0 (3, 3, [x, y, z], 0, ()) = some (.exit (Sum.inl (false, 3, 3, [x, y, z], 0, ()))) := by
    unfold cmp_Or_int_L0
    rfl
  have h3 : lenI [x, y, z] = 3 := rfl
  unfold cmp_Or_int
  rw [hn]
  simp only [h3, loopN, s0]
  rcases tf (notB (eqZ x 0)) with h | h
  · simp only [h, Bool.false_eq_true, if_false, some_bind', s1]
    rcases tf (notB (eqZ y 0)) with h' | h'
    · simp only [h', Bool.false_eq_true, if_false, some_bind', s2]
      rcases tf (notB (eqZ z 0)) with h'' | h''
      · simp only [h'', Bool.false_eq_true, if_false, some_bind', s3]
      · simp only [h'', if_true, some_bind']
    · simp only [h', if_true, some_bind']
  · simp only [h, if_true, some_bind']
theorem CompareLiterals_impl (a b : D_Literal) (u : Unit) : impl_CompareLiterals (a, b, u) () = some (cmpL a b, ()) := by
  unfold impl_CompareLiterals
  simp only [Compare_eqR, some_bind', Or3, sgn_zero]
  unfold cmpL
  rcases tf (notB (eqZ a.2.1 b.2.1)) with h | h <;> rcases tf (notB (eqZ a.1 b.1)) with h' | h' <;> rcases tf (notB (eqZ a.2.2.1 b.2.2.1)) with h'' | h'' <;> simp [h, h', h'']
  have e : eqZ a.2.2.1 b.2.2.1 = true := by
    rcases tf (eqZ a.2.2.1 b.2.2.1) with q | q
    · rw [q] at h''; cases h''
    · exact q
  have := sgn_zero a.2.2.1 b.2.2.1
  rw [e, eqZ_dec, decide_eq_true_eq] at this
  exact this.symm
theorem LiteralOk_both (p : D_Project) (l : D_Literal) (hp : Sm_Project 1099511627776 p) : ∃ v, (∀ u, spec_LiteralOk (p, l, u) () = some (v, ())) ∧ ∀ u, impl_LiteralOk (p, l, u) () = some (v, ()) := by
  rcases tf (projB p) with h | h
  · refine ⟨false, fun u => ?_, fun u => ?_⟩
    · unfold spec_LiteralOk
      simp [ProjectOk_spec _ _ hp, h, notB]
    · unfold impl_LiteralOk
      simp [ProjectOk_impl _ _ hp, h, notB]
  rcases tf (inB l.2.1 0 (subZ .i64 (lenI p.2.1) 1)) with h1 | h1
  · refine ⟨false, fun u => ?_, fun u => ?_⟩
    · unfold spec_LiteralOk
      simp [ProjectOk_spec _ _ hp, l01In_eq, h, h1, notB]
    · unfold impl_LiteralOk
      simp [ProjectOk_impl _ _ hp, hasActivity_eq, h, h1, notB]
  obtain ⟨i, ei, hi⟩ := inB_place hp.2.1.1 h1
  obtain ⟨k, a, x, lu⟩ := l
  simp only at ei h1
  subst ei
  refine ⟨if (eqZ k 1 || eqZ k 2) = true then inB x (-1) 61 else if (eqZ k 3 || eqZ k 4) = true then inB x 0 (subZ .i64 (lenI p.2.1[i].2.2.1) 1) else false, fun u => ?_, fun u => ?_⟩
  · unfold spec_LiteralOk
    simp only [ProjectOk_spec _ _ hp, l01In_eq, h, h1, notB_true, Bool.false_eq_true, if_false, some_bind']
    rcases tf (eqZ k 1) with q1 | q1 <;> rcases tf (eqZ k 2) with q2 | q2 <;> rcases tf (eqZ k 3) with q3 | q3 <;> rcases tf (eqZ k 4) with q4 | q4 <;> simp [q1, q2, q3, q4, l01In_eq, getI_lt hi]
  · unfold impl_LiteralOk
    simp only [ProjectOk_impl _ _ hp, hasActivity_eq, within_eq, h, h1, notB_true, Bool.false_eq_true, if_false, some_bind']
    rcases tf (eqZ k 1) with q1 | q1 <;> rcases tf (eqZ k 2) with q2 | q2 <;> rcases tf (eqZ k 3) with q3 | q3 <;> rcases tf (eqZ k 4) with q4 | q4 <;> simp [q1, q2, q3, q4, within_eq, getI_lt hi]
theorem ClauseOk_both (p : D_Project) (l : List D_Literal) (hp : Sm_Project 1099511627776 p) (hl : l.length ≤ 1099511627776) : ∃ v, (∀ u, spec_ClauseOk (p, l, u) () = some (v, ())) ∧ ∀ u, impl_ClauseOk (p, l, u) () = some (v, ()) := by
  obtain ⟨o, o', l1, l2, hR⟩ := any_loops (F := spec_ClauseOk_L0) (G := impl_ClauseOk_L0) (fun i (_ : Unit) => ((i : Int), (l.length : Int), l, p, l, ())) (fun i _ => ((i : Int), (l.length : Int), l, p, l, ())) l.length (fun _ _ => True)
    (fun o o' => (o = .inl (.inl (false, (l.length : Int), (l.length : Int), l, p, l, ())) ∧ o' = .inl (.inl (false, (l.length : Int), (l.length : Int), l, p, l, ()))) ∨ (o = .inr (false, ()) ∧ o' = .inr (false, ()))) hl
    (fun i _ hi _ => by
      by_cases hi' : i < l.length
      · obtain ⟨v, e1, e2⟩ := LiteralOk_both p l[i] hp
        rcases tf v with rfl | rfl
        · refine .inr ⟨.inr (false, ()), .inr (false, ()), ?_, ?_, .inr ⟨rfl, rfl⟩⟩
          · unfold spec_ClauseOk_L0
            simp only [lt_yes hi', if_true, getI_lt hi', e1, some_bind', notB_false]
            rfl
          · unfold impl_ClauseOk_L0
            simp only [lt_yes hi', if_true, getI_lt hi', e2, some_bind', notB_false]
            rfl
        rcases Nat.eq_zero_or_pos i with rfl | hpos
        · refine .inl ⟨(), hi', ?_, ?_, trivial⟩
          · unfold spec_ClauseOk_L0
            simp only [lt_yes hi', if_true, getI_lt hi', e1, some_bind', notB_true, Bool.false_eq_true, if_false, show ltZ 0 ((0 : Nat) : Int) = false from rfl, idxN hi' hl (Nat.le_refl _)]
          · unfold impl_ClauseOk_L0
            simp only [lt_yes hi', if_true, getI_lt hi', e2, some_bind', notB_true, Bool.false_eq_true, if_false, show ltZ 0 ((0 : Nat) : Int) = false from rfl, idxN hi' hl (Nat.le_refl _)]
        · obtain ⟨j, rfl⟩ : ∃ j, i = j + 1 := ⟨i - 1, by omega⟩
          have hj : j < l.length := by omega
          have e0 : ltZ 0 ((j + 1 : Nat) : Int) = true := by rw [ltZ_iff]; omega
          have ej := idx_pred j (by omega)
          rcases tf (leZ 0 (cmpL l[j] l[j + 1])) with q | q
          · refine .inl ⟨(), hi', ?_, ?_, trivial⟩
            · unfold spec_ClauseOk_L0
              simp only [lt_yes hi', if_true, getI_lt hi', e1, some_bind', notB_true, Bool.false_eq_true, if_false, e0, ej, getI_lt hj, CompareLiterals_spec, q, idxN hi' hl (Nat.le_refl _)]
            · unfold impl_ClauseOk_L0
              simp only [lt_yes hi', if_true, getI_lt hi', e2, some_bind', notB_true, Bool.false_eq_true, if_false, e0, ej, getI_lt hj, CompareLiterals_impl, q, idxN hi' hl (Nat.le_refl _)]
          · refine .inr ⟨.inr (false, ()), .inr (false, ()), ?_, ?_, .inr ⟨rfl, rfl⟩⟩
            · unfold spec_ClauseOk_L0
              simp only [lt_yes hi', if_true, getI_lt hi', e1, some_bind', notB_true, Bool.false_eq_true, if_false, e0, ej, getI_lt hj, CompareLiterals_spec, q]
              rfl
            · unfold impl_ClauseOk_L0
              simp only [lt_yes hi', if_true, getI_lt hi', e2, some_bind', notB_true, Bool.false_eq_true, if_false, e0, ej, getI_lt hj, CompareLiterals_impl, q]
              rfl
      · obtain rfl : i = l.length := by omega
        refine .inr ⟨_, _, ?_, ?_, .inl ⟨rfl, rfl⟩⟩
        · unfold spec_ClauseOk_L0
          simp only [lt_no, Bool.false_eq_true, if_false]
          rfl
        · unfold impl_ClauseOk_L0
          simp only [lt_no, Bool.false_eq_true, if_false]
          rfl)
    (a := ()) (s := (0, (l.length : Int), l, p, l, ())) (t := (0, (l.length : Int), l, p, l, ())) rfl rfl trivial
  rcases hR with ⟨rfl, rfl⟩ | ⟨rfl, rfl⟩
  · refine ⟨leZ (l.length : Int) 24, fun u => ?_, fun u => ?_⟩
    · unfold spec_ClauseOk
      simp only [lenI_eq, l1, fin, some_bind']
    · unfold impl_ClauseOk
      simp only [lenI_eq, l2, fin, some_bind']
  · refine ⟨false, fun u => ?_, fun u => ?_⟩
    · unfold spec_ClauseOk
      simp only [lenI_eq, l1, fin, some_bind']
    · unfold impl_ClauseOk
      simp only [lenI_eq, l2, fin, some_bind']
theorem ClauseFollows_both (p : D_Project) (r : D_Rule) (l : List D_Literal) (hp : Sm_Project 1099511627776 p) (hl : l.length ≤ 1099511627776) : ∃ v, (∀ u, spec_ClauseFollows (p, r, l, u) () = some (v, ())) ∧ ∀ u, impl_ClauseFollows (p, r, l, u) () = some (v, ()) := by
  obtain ⟨v, e1, e2⟩ := ClauseOk_both p l hp hl
  obtain ⟨w, f1, f2⟩ := Refutes_both p (negD p l) r hp ((negD_ok p l).sm (by omega))
  refine ⟨v && w, fun u => ?_, fun u => ?_⟩
  · unfold spec_ClauseFollows
    simp only [e1, NegatedDomain_spec _ _ _ hp hl, f1, some_bind']
    cases v <;> simp
  · unfold impl_ClauseFollows
    simp only [e2, NegatedDomain_impl _ _ _ hp hl, f2, some_bind']
    cases v <;> simp
end Go.Proofs.YtafnhdfjcocpgaaGreat
