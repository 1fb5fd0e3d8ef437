/-
  Plain laws: which rules are rules of a project, and which of them a domain refutes, in the program and in the reference. Condition: no list is longer than 2 to the 40.
-/
import Derived.Test.YtafnhdfjcocpgaaGreatw4LWork
namespace Go.Proofs.YtafnhdfjcocpgaaGreat
open Go.Abs
set_option linter.unusedVariables false
set_option linter.unusedSimpArgs false

def capVR (l : List D_Step) (t : Int) : Int := l.foldl (fun n s => if leZ s.1 t = true then s.2.1 else n) 0
theorem l03At_R (l : List D_Step) (t : Int) (u : Unit) (hl : l.length ≤ 1099511627776) : spec_l03At (l, t, u) () = some (capVR l t, ()) := by
  have l0 := fun A : Type => (fold_list (A := A) (F := spec_l03At_L0) (fun i n => ((i : Int), (l.length : Int), l, t, n, ())) l (fun _ _ => True) (fun n s => if leZ s.1 t = true then s.2.1 else n) (fun n => Sum.inl (false, (l.length : Int), (l.length : Int), l, t, n, ())) hl
    (fun i n hi _ => by
      refine ⟨?_, trivial⟩
      unfold spec_l03At_L0
      simp only [lt_yes hi, if_true, getI_lt hi, some_bind']
      rcases tf (leZ l[i].1 t) with h1 | h1 <;> simp [-Int.natCast_add, h1, idxN hi hl (Nat.le_refl _)])
    (fun n _ => by
      unfold spec_l03At_L0
      simp only [lt_no, Bool.false_eq_true, if_false])
    (a := 0) (s := (0, (l.length : Int), l, t, 0, ())) rfl trivial).1
  unfold spec_l03At capVR
  simp only [lenI_eq, l0, some_bind']
theorem capAt_R : impl_capacityAt = spec_l03At := rfl
/-- the capacity in an interval -/
theorem total_both (l : List D_Step) (x n : Nat) (hl : l.length ≤ 1099511627776) (hx : x + n ≤ 60) : ∃ v, (∀ u, spec_TotalCapacity (l, (x : Int), ((x + n : Nat) : Int), u) () = some (v, ())) ∧ ∀ u, impl_TotalCapacity (l, (x : Int), ((x + n : Nat) : Int), u) () = some (v, ()) := by
  have hx1 : inB (x : Int) 0 60 = true := by rw [inB_iff]; omega
  have hx2 : inB ((x + n : Nat) : Int) 0 60 = true := by rw [inB_iff]; omega
  rcases tf (stepsB l) with h | h
  · refine ⟨0, fun u => ?_, fun u => ?_⟩
    · unfold spec_TotalCapacity spec_l03Span
      simp [StepsOk_spec _ _ hl, h, notB]
    · unfold impl_TotalCapacity
      simp [StepsOk_impl _ _ hl, h, notB]
  obtain ⟨o, o', l1, l2, v, rfl, rfl⟩ := any_loops (F := spec_TotalCapacity_L0) (G := impl_TotalCapacity_L0) (fun i (s : Int) => (((x + i : Nat) : Int), ((x + n : Nat) : Int), l, s, ())) (fun i s => (((x + i : Nat) : Int), ((x + n : Nat) : Int), l, s, ())) n (fun _ _ => True)
    (fun o o' => ∃ v, o = .inl (.inl (false, ((x + n : Nat) : Int), ((x + n : Nat) : Int), l, v, ())) ∧ o' = .inl (.inl (false, ((x + n : Nat) : Int), ((x + n : Nat) : Int), l, v, ()))) (by omega)
    (fun i s hi _ => by
      by_cases hi' : i < n
      · have e : addZ .i64 ((x + i : Nat) : Int) 1 = ((x + (i + 1) : Nat) : Int) := by rw [addZ64 (by omega) (by omega)]; omega
        refine .inl ⟨addZ .i64 s (capVR l ((x + i : Nat) : Int)), hi', ?_, ?_, trivial⟩
        · unfold spec_TotalCapacity_L0
          simp only [lt_yes (show x + i < x + n by omega), if_true, l03At_R _ _ _ hl, some_bind', e]
        · unfold impl_TotalCapacity_L0
          simp only [lt_yes (show x + i < x + n by omega), if_true, capAt_R, l03At_R _ _ _ hl, some_bind', e]
      · obtain rfl : i = n := by omega
        refine .inr ⟨_, _, ?_, ?_, s, rfl, rfl⟩
        · unfold spec_TotalCapacity_L0
          simp only [lt_no, Bool.false_eq_true, if_false]
          rfl
        · unfold impl_TotalCapacity_L0
          simp only [lt_no, Bool.false_eq_true, if_false]
          rfl)
    (a := 0) (s := ((x : Int), ((x + n : Nat) : Int), l, 0, ())) (t := ((x : Int), ((x + n : Nat) : Int), l, 0, ())) rfl rfl trivial
  refine ⟨v, fun u => ?_, fun u => ?_⟩
  · unfold spec_TotalCapacity spec_l03Span
    simp only [StepsOk_spec _ _ hl, h, l01In_eq, hx1, hx2, notB_true, Bool.false_eq_true, if_false, if_true, some_bind', l1, fin]
  · unfold impl_TotalCapacity
    simp only [StepsOk_impl _ _ hl, h, isTime_eq, hx1, hx2, notB_true, Bool.false_eq_true, if_false, some_bind', l2, fin]
theorem over_both (p : D_Project) (b : D_Domain) (j x n : Nat) (hp : Sm_Project 1099511627776 p) (hb : Sm_Domain 1099511627776 b) (h : domB p b = true) (he : emptyB b = false) (hj : j < p.2.2.2.1.length) (hn : 0 < n) (hx : x + n ≤ 60) :
    ∃ v, (∀ u, spec_l15Over (p, b, (j : Int), (x : Int), ((x + n : Nat) : Int), u) () = some (v, ())) ∧ ∀ u, impl_IsOverworked (p, b, (j : Int), (x : Int), ((x + n : Nat) : Int), u) () = some (v, ()) := by
  have hle := hp.2.1.1
  obtain ⟨o, o', l1, l2, v, rfl, rfl⟩ := any_loops (F := spec_l15Over_L0) (G := impl_Project_totalWork_L0) (fun i (s : Int) => ((i : Int), (p.2.1.length : Int), b, s, p, (j : Int), (x : Int), ((x + n : Nat) : Int), ())) (fun i s => ((i : Int), (p.2.1.length : Int), p, b, (j : Int), (x : Int), ((x + n : Nat) : Int), s, ())) p.2.1.length (fun _ _ => True)
    (fun o o' => ∃ v, o = .inl (.inl (false, (p.2.1.length : Int), (p.2.1.length : Int), b, v, p, (j : Int), (x : Int), ((x + n : Nat) : Int), ())) ∧ o' = .inl (.inl (false, (p.2.1.length : Int), (p.2.1.length : Int), p, b, (j : Int), (x : Int), ((x + n : Nat) : Int), v, ()))) hle
    (fun i s hi _ => by
      by_cases hi' : i < p.2.1.length
      · obtain ⟨v, -, -, e1, e2⟩ := work_both p b i j (x : Int) ((x + n : Nat) : Int) hp hb h hi' hj (by omega) (by omega)
        refine .inl ⟨addZ .i64 s v, hi', ?_, ?_, trivial⟩
        · unfold spec_l15Over_L0
          simp only [lt_yes hi', if_true, e1, some_bind', idxN hi' hle (Nat.le_refl _)]
        · unfold impl_Project_totalWork_L0
          simp only [lt_yes hi', if_true, e2, some_bind', idxN hi' hle (Nat.le_refl _)]
      · obtain rfl : i = p.2.1.length := by omega
        refine .inr ⟨_, _, ?_, ?_, s, rfl, rfl⟩
        · unfold spec_l15Over_L0
          simp only [lt_no, Bool.false_eq_true, if_false]
          rfl
        · unfold impl_Project_totalWork_L0
          simp only [lt_no, Bool.false_eq_true, if_false]
          rfl)
    (a := 0) (s := (0, (p.2.1.length : Int), b, 0, p, (j : Int), (x : Int), ((x + n : Nat) : Int), ())) (t := (0, (p.2.1.length : Int), p, b, (j : Int), (x : Int), ((x + n : Nat) : Int), 0, ())) rfl rfl trivial
  obtain ⟨c, t1, t2⟩ := total_both p.2.2.2.1[j].1 x n (hp.2.2.2.1.2 _ (List.getElem_mem hj)).1.1 hx
  have hus : useB p b = true := by unfold useB; rw [h, he]; rfl
  have hx1 : inB (x : Int) 0 60 = true := by rw [inB_iff]; omega
  have hx2 : inB ((x + n : Nat) : Int) 0 60 = true := by rw [inB_iff]; omega
  have hle2 : leZ ((x + n : Nat) : Int) (x : Int) = false := by rw [Bool.eq_false_iff, Ne, leZ_iff]; omega
  have hJ := inB_atP hp.2.2.2.1.1 hj
  refine ⟨ltZ c v, fun u => ?_, fun u => ?_⟩
  · unfold spec_l15Over
    simp only [lenI_eq, l1, fin, some_bind', getI_lt hj, t1]
  · unfold impl_IsOverworked impl_Project_totalWork
    simp only [isUsable_eq _ _ _ hp hb, hus, hasResource_eqP, hJ, isTime_eq, hx1, hx2, hle2, notB_true, Bool.false_eq_true, if_false, some_bind', lenI_eq, l2, fin, getI_lt hj, t2] at *
/-- two activities on a machine that cannot follow each other -/
theorem jam_both (p : D_Project) (b : D_Domain) (j c d : Nat) (hp : Sm_Project 1099511627776 p) (hb : Sm_Domain 1099511627776 b) (h : domB p b = true) (he : emptyB b = false) (hj : j < p.2.2.2.1.length) (hpos : 0 < p.2.2.2.1[j].2.1.length) (hc : c < p.2.1.length) (hd : d < p.2.1.length) (hne : c ≠ d) :
    ∃ v, (∀ u, spec_l16Jam (p, b, (j : Int), (c : Int), (d : Int), u) () = some (v, ())) ∧ ∀ u, impl_PairConflict (p, b, (j : Int), (c : Int), (d : Int), u) () = some (v, ()) := by
  have hpj := proj_of_dom h
  obtain ⟨x, y, m, g1, g2, g3, -, -, -, -, hml, -, d1, d2⟩ := dom_dur hp hb h hc
  obtain ⟨x', y', m', g1', g2', g3', -, -, -, -, hml', -, d1', d2'⟩ := dom_dur hp hb h hd
  obtain ⟨v, n1, n2⟩ := need_both hp hb h hc hj g3 hml
  obtain ⟨v', n1', n2'⟩ := need_both hp hb h hd hj g3' hml'
  obtain ⟨row, s, r1, r2, -⟩ := setup_atP hpj hj hpos hc hd
  obtain ⟨row', s', r1', r2', -⟩ := setup_atP hpj hj hpos hd hc
  have S1 := fun u => SetupTime_impl_atP hp hpj u hj hpos hc hd r1 r2
  have S2 := fun u => SetupTime_impl_atP hp hpj u hj hpos hd hc r1' r2'
  have hM : machBP p (j : Int) = true := by rw [machB_atP hp hj, ltZ_iff, lenI_eq]; omega
  have hus : useB p b = true := by unfold useB; rw [h, he]; rfl
  have hC := inB_atP hp.2.1.1 hc
  have hD := inB_atP hp.2.1.1 hd
  have hJ := inB_atP hp.2.2.2.1.1 hj
  have e1 : eqZ (c : Int) (d : Int) = false := eqZ_ne (by omega)
  have e2 : eqZ (d : Int) (c : Int) = false := eqZ_ne (by omega)
  have A1 : ∀ u, spec_l16After (p, b, (j : Int), (c : Int), (d : Int), u) () = some (addZ .i64 (addZ .i64 x (durD p.2.1[c] m)) s, ()) := fun u => by
    unfold spec_l16After
    simp only [g1, d1, getI_lt hj, getI_lt hc, getI_lt hd, r1, r2, some_bind']
  have A2 : ∀ u, spec_l16After (p, b, (j : Int), (d : Int), (c : Int), u) () = some (addZ .i64 (addZ .i64 x' (durD p.2.1[d] m')) s', ()) := fun u => by
    unfold spec_l16After
    simp only [g1', d1', getI_lt hj, getI_lt hc, getI_lt hd, r1', r2', some_bind']
  have B1 : ∀ u, impl_Project_after (p, b, (j : Int), (c : Int), (d : Int), u) () = some (addZ .i64 (addZ .i64 x (durD p.2.1[c] m)) s, ()) := fun u => by
    unfold impl_Project_after
    simp only [g1, d2, S1, some_bind']
  have B2 : ∀ u, impl_Project_after (p, b, (j : Int), (d : Int), (c : Int), u) () = some (addZ .i64 (addZ .i64 x' (durD p.2.1[d] m')) s', ()) := fun u => by
    unfold impl_Project_after
    simp only [g1', d2', S2, some_bind']
  have P1 : ∀ u, impl_arePair (p, b, (j : Int), (c : Int), (d : Int), u) () = some (true, ()) := fun u => by
    unfold impl_arePair impl_onMachine
    simp only [isUsable_eq _ _ _ hp hb, hus, IsMachine_impl_eqP, IsMachine_specP _ _ _ hp, hM, hasActivity_eq, hC, hD, e1, notB_false, if_true, some_bind']
  have P2 : ∀ u, impl_arePair (p, b, (j : Int), (d : Int), (c : Int), u) () = some (true, ()) := fun u => by
    unfold impl_arePair impl_onMachine
    simp only [isUsable_eq _ _ _ hp hb, hus, IsMachine_impl_eqP, IsMachine_specP _ _ _ hp, hM, hasActivity_eq, hC, hD, e2, notB_false, if_true, some_bind']
  have R1 : ∀ u, impl_RequiredUsage (p, b, (j : Int), (c : Int), u) () = some (v, ()) := fun u => by
    unfold impl_RequiredUsage
    simp only [isUsable_eq _ _ _ hp hb, hus, hasActivity_eq, hC, hasResource_eqP, hJ, notB_true, Bool.false_eq_true, if_false, some_bind', getI_lt hc, g3, n2]
  have R2 : ∀ u, impl_RequiredUsage (p, b, (j : Int), (d : Int), u) () = some (v', ()) := fun u => by
    unfold impl_RequiredUsage
    simp only [isUsable_eq _ _ _ hp hb, hus, hasActivity_eq, hD, hasResource_eqP, hJ, notB_true, Bool.false_eq_true, if_false, some_bind', getI_lt hd, g3', n2']
  generalize addZ .i64 (addZ .i64 x (durD p.2.1[c] m)) s = a1 at *
  generalize addZ .i64 (addZ .i64 x' (durD p.2.1[d] m')) s' = a2 at *
  have q1 : leZ a1 y' = notB (ltZ y' a1) := by
    rcases tf (ltZ y' a1) with q | q
    · rw [q, notB_false, leZ_iff]; rw [Bool.eq_false_iff, Ne, ltZ_iff] at q; omega
    · rw [q, notB_true, Bool.eq_false_iff, Ne, leZ_iff]; rw [ltZ_iff] at q; omega
  have q2 : leZ a2 y = notB (ltZ y a2) := by
    rcases tf (ltZ y a2) with q | q
    · rw [q, notB_false, leZ_iff]; rw [Bool.eq_false_iff, Ne, ltZ_iff] at q; omega
    · rw [q, notB_true, Bool.eq_false_iff, Ne, leZ_iff]; rw [ltZ_iff] at q; omega
  have C1 : ∀ u, impl_CanPrecede (p, b, (j : Int), (c : Int), (d : Int), u) () = some (notB (ltZ y' a1), ()) := fun u => by
    unfold impl_CanPrecede
    simp only [P1, if_true, B1, g2', q1, some_bind']
  have C2 : ∀ u, impl_CanPrecede (p, b, (j : Int), (d : Int), (c : Int), u) () = some (notB (ltZ y a2), ()) := fun u => by
    unfold impl_CanPrecede
    simp only [P2, if_true, B2, g2, q2, some_bind']
  refine ⟨ltZ 0 v && ltZ 0 v' && ltZ y' a1 && ltZ y a2, fun u => ?_, fun u => ?_⟩
  · unfold spec_l16Jam
    simp only [n1, n1', some_bind']
    rcases tf (ltZ 0 v) with k1 | k1 <;> rcases tf (ltZ 0 v') with k2 | k2 <;> rcases tf (ltZ y' a1) with k3 | k3 <;> rcases tf (ltZ y a2) with k4 | k4 <;> simp [k1, k2, k3, k4, n1, n1', A1, A2, g2, g2']
  · unfold impl_PairConflict impl_BothUse
    simp only [P1, if_true, R1, some_bind']
    rcases tf (ltZ 0 v) with k1 | k1 <;> rcases tf (ltZ 0 v') with k2 | k2 <;> rcases tf (ltZ y' a1) with k3 | k3 <;> rcases tf (ltZ y a2) with k4 | k4 <;> simp [k1, k2, k3, k4, R2, C1, C2, notB]
theorem stock_both (p : D_Project) (b : D_Domain) (k : Nat) (hp : Sm_Project 1099511627776 p) (hb : Sm_Domain 1099511627776 b) (h : domB p b = true) (hk : k < p.2.2.2.2.1.length) :
    ∃ v, (∀ u, spec_l17Stock (p, b, (k : Int), u) () = some (v, ())) ∧ ∀ u, impl_Project_refutesStock (p, b, (k : Int), u) () = some (v, ()) := by
  have hle := hp.2.1.1
  have hpj := proj_of_dom h
  obtain ⟨o, o', l1, l2, v, rfl, rfl⟩ := any_loops (F := spec_l17Stock_L0) (G := impl_Project_refutesStock_L0) (fun i (s : Int) => ((i : Int), (p.2.1.length : Int), b, s, p, (k : Int), ())) (fun i s => ((i : Int), (p.2.1.length : Int), p.2.1, b, s, p, (k : Int), ())) p.2.1.length (fun _ _ => True)
    (fun o o' => ∃ v, o = .inl (.inl (false, (p.2.1.length : Int), (p.2.1.length : Int), b, v, p, (k : Int), ())) ∧ o' = .inl (.inl (false, (p.2.1.length : Int), (p.2.1.length : Int), p.2.1, b, v, p, (k : Int), ()))) hle
    (fun i s hi _ => by
      by_cases hi' : i < p.2.1.length
      · obtain ⟨x, y, m, -, -, g3, -, -, -, -, hml, -, -, -⟩ := dom_dur hp hb h hi'
        have ha := mode_len hpj hi'
        obtain ⟨e1, e2⟩ := MinConsumption_both p.2.1[i] m (k : Int) (by omega) hml (fun md hmd => cons_atM hp hpj hi' hk md hmd)
        refine .inl ⟨addZ .i64 s (lstV (atV true (k : Int)) p.2.1[i] m), hi', ?_, ?_, trivial⟩
        · unfold spec_l17Stock_L0
          simp only [lt_yes hi', if_true, getI_lt hi', g3, e1, some_bind', idxN hi' hle (Nat.le_refl _)]
        · unfold impl_Project_refutesStock_L0
          simp only [lt_yes hi', if_true, getI_lt hi', g3, e2, some_bind', idxN hi' hle (Nat.le_refl _)]
      · obtain rfl : i = p.2.1.length := by omega
        refine .inr ⟨_, _, ?_, ?_, s, rfl, rfl⟩
        · unfold spec_l17Stock_L0
          simp only [lt_no, Bool.false_eq_true, if_false]
          rfl
        · unfold impl_Project_refutesStock_L0
          simp only [lt_no, Bool.false_eq_true, if_false]
          rfl)
    (a := 0) (s := (0, (p.2.1.length : Int), b, 0, p, (k : Int), ())) (t := (0, (p.2.1.length : Int), p.2.1, b, 0, p, (k : Int), ())) rfl rfl trivial
  refine ⟨ltZ p.2.2.2.2.1[k] v, fun u => ?_, fun u => ?_⟩
  · unfold spec_l17Stock
    simp only [lenI_eq, l1, fin, some_bind', getI_lt hk]
  · unfold impl_Project_refutesStock
    simp only [lenI_eq, l2, fin, some_bind', getI_lt hk]
end Go.Proofs.YtafnhdfjcocpgaaGreat
