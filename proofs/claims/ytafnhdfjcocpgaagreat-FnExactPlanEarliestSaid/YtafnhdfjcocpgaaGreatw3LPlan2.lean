/-
  Plain laws: the room that a plan leaves one of its activities: the sum at a time, the capacity, the pair on a machine, in the program and in the reference. Condition: no list is longer than 2 to the 40.
-/
import Derived.Test.YtafnhdfjcocpgaaGreatw3LPlan
namespace Go.Proofs.YtafnhdfjcocpgaaGreat
open Go.Abs
set_option linter.unusedVariables false
set_option linter.unusedSimpArgs false

def capVP (l : List D_Step) (t : Int) : Int := l.foldl (fun n s => if leZ s.1 t = true then s.2.1 else n) 0
theorem l03At_specP (l : List D_Step) (t : Int) (u : Unit) (hl : l.length ≤ 1099511627776) : spec_l03At (l, t, u) () = some (capVP l t, ()) := by
  have l0 := fun A : Type => (fold_list (A := A) (F := spec_l03At_L0) (fun i n => ((i : Int), (l.length : Int), l, t, n, ())) l (fun _ _ => True) (fun n s => if leZ s.1 t = true then s.2.1 else n) (fun n => Sum.inl (false, (l.length : Int), (l.length : Int), l, t, n, ())) hl
    (fun i n hi _ => by
      refine ⟨?_, trivial⟩
      unfold spec_l03At_L0
      simp only [lt_yes hi, if_true, getI_lt hi, some_bind']
      rcases tf (leZ l[i].1 t) with h1 | h1 <;> simp [-Int.natCast_add, h1, idxN hi hl (Nat.le_refl _)])
    (fun n _ => by
      unfold spec_l03At_L0
      simp only [lt_no, Bool.false_eq_true, if_false])
    (a := 0) (s := (0, (l.length : Int), l, t, 0, ())) rfl trivial).1
  unfold spec_l03At capVP
  simp only [lenI_eq, l0, some_bind']
theorem capacityAt_impl_eqP : impl_capacityAt = spec_l03At := rfl
/-- the capacity as the program's callers see it -/
def capAtV (l : List D_Step) (t : Int) : Int := if (stepsB l && inB t 0 60) = true then capVP l t else 0
theorem CapacityAt_s (l : List D_Step) (t : Int) (u : Unit) (hl : l.length ≤ 1099511627776) : spec_CapacityAt (l, t, u) () = some (capAtV l t, ()) := by
  unfold spec_CapacityAt capAtV
  rcases tf (stepsB l) with h | h <;> rcases tf (inB t 0 60) with h2 | h2 <;>
    simp [StepsOk_spec _ _ hl, l01In_eq, notB, h, h2, l03At_specP _ _ _ hl]
theorem CapacityAt_i (l : List D_Step) (t : Int) (u : Unit) (hl : l.length ≤ 1099511627776) : impl_CapacityAt (l, t, u) () = some (capAtV l t, ()) := by
  unfold impl_CapacityAt capAtV
  rcases tf (stepsB l) with h | h <;> rcases tf (inB t 0 60) with h2 | h2 <;>
    simp [StepsOk_impl _ _ hl, isTime_eq, notB, h, h2, capacityAt_impl_eqP, l03At_specP _ _ _ hl]
theorem Ahead_spec_atP {p : D_Project} {s : D_Schedule} {j b c : Nat} {row : List Int} {n x e : Int} (u : Unit) (hj : j < p.2.2.2.1.length) (hb : b < p.2.1.length) (hc : c < p.2.1.length)
    (h1 : getI p.2.2.2.1[j].2.1 p.2.1[b].2.1 = some row) (h2 : getI row p.2.1[c].2.1 = some n) (he : ∀ u, spec_l09End (p, s, (b : Int), u) () = some (e, ())) (hx : getI s.1 (c : Int) = some x) : spec_l10Ahead (p, s, (j : Int), (b : Int), (c : Int), u) () = some (leZ (addZ .i64 e n) x, ()) := by
  unfold spec_l10Ahead
  simp only [he, some_bind', getI_lt hj, getI_lt hb, getI_lt hc, h1, h2, hx]
/-- a pair on a machine: the reference's word for the pair in one order, the program's for the other -/
theorem pair_atP {p : D_Project} {s : D_Schedule} (hp : Sm_Project 1099511627776 p) (h : formB p s = true) {j b c : Nat} (hj : j < p.2.2.2.1.length) (hpos : 0 < p.2.2.2.1[j].2.1.length) (hb : b < p.2.1.length) (hc : c < p.2.1.length) :
    ∃ w, (∀ r0 u, spec_l10Pair (p, s, (r0, (j : Int), (b : Int), (c : Int), ()), u) () = some (w, ())) ∧ ∀ u, impl_Project_pairHolds (p, s, (j : Int), (c : Int), (b : Int), u) () = some (notB w, ()) := by
  have h0 := proj_of_form h
  obtain ⟨x, e, md, g1, ge, gm, -, -, -, -, -, gr, gu⟩ := run_atP hp h hb
  obtain ⟨x', e', md', g1', ge', gm', -, -, -, -, -, gr', gu'⟩ := run_atP hp h hc
  obtain ⟨row, n, s1, s2, -⟩ := setup_atP h0 hj hpos hb hc
  obtain ⟨row', n', s1', s2', -⟩ := setup_atP h0 hj hpos hc hb
  have A1 := fun u => Ahead_spec_atP (p := p) (s := s) u hj hb hc s1 s2 ge g1'
  have A2 := fun u => Ahead_spec_atP (p := p) (s := s) u hj hc hb s1' s2' ge' g1
  have S1 := fun u => SetupTime_impl_atP hp h0 u hj hpos hb hc s1 s2
  have S2 := fun u => SetupTime_impl_atP hp h0 u hj hpos hc hb s1' s2'
  refine ⟨(if eqZ (useOfP p s (j : Int) (b : Int)) 0 = true then false else if eqZ (useOfP p s (j : Int) (c : Int)) 0 = true then false else if leZ (addZ .i64 e n) x' = true then false else notB (leZ (addZ .i64 e' n') x)), fun r0 u => ?_, fun u => ?_⟩
  · unfold spec_l10Pair
    simp only [some_bind', gm, gm', gu j hj, gu' j hj]
    rcases tf (eqZ (useOfP p s (j : Int) (b : Int)) 0) with h1 | h1 <;> rcases tf (eqZ (useOfP p s (j : Int) (c : Int)) 0) with h2 | h2 <;> rcases tf (leZ (addZ .i64 e n) x') with h3 | h3 <;> simp [notB, h1, h2, h3, gm', gu' j hj, A1, A2]
  · unfold impl_Project_pairHolds
    simp only [some_bind', mode_impl, end_impl, gm, gm', gu j hj, gu' j hj]
    rcases tf (eqZ (useOfP p s (j : Int) (b : Int)) 0) with h1 | h1 <;> rcases tf (eqZ (useOfP p s (j : Int) (c : Int)) 0) with h2 | h2 <;> rcases tf (leZ (addZ .i64 e n) x') with h3 | h3 <;> rcases tf (leZ (addZ .i64 e' n') x) with h4 | h4 <;> simp [notB, h1, h2, h3, h4, gm, gu j hj, ge, ge', g1, g1', S1, S2]

/-- what those of a plan that run at a time use -/
def useD (p : D_Project) (s : D_Schedule) (d : List Int) (j t : Int) : Int := d.foldl (fun n o => if runBP p s t o = true then addZ .i64 n (useOfP p s j o) else n) 0
theorem useD_s (p : D_Project) (s : D_Schedule) (d : List Int) (j : Nat) (t m1 m2 a : Int) (hp : Sm_Project 1099511627776 p) (h : formB p s = true) (hd : d.length ≤ 1099511627776) (ha : actsIn p d) (hj : j < p.2.2.2.1.length) (A : Type) :
    loopN (A := A) big spec_l24Room_L0 (0, lenI d, d, 0, t, (j : Int), m1, m2, p, (s, d, ()), a, ()) = some (.exit (Sum.inl (false, lenI d, lenI d, d, useD p s d (j : Int) t, t, (j : Int), m1, m2, p, (s, d, ()), a, ()))) :=
  (fold_list (A := A) (F := spec_l24Room_L0) (fun i (n : Int) => ((i : Int), lenI d, d, n, t, (j : Int), m1, m2, p, (s, d, ()), a, ())) d (fun _ _ => True) (fun n o => if runBP p s t o = true then addZ .i64 n (useOfP p s (j : Int) o) else n) (fun n => Sum.inl (false, lenI d, lenI d, d, n, t, (j : Int), m1, m2, p, (s, d, ()), a, ())) hd
    (fun i n hi _ => by
      have hlt : ltZ (i : Int) (lenI d) = true := lt_yes hi
      obtain ⟨k, ek, hk⟩ := ha _ (List.getElem_mem hi)
      obtain ⟨x, e, md, g1, ge, gm, -, -, -, -, -, gr, gu⟩ := run_atP hp h hk
      refine ⟨?_, trivial⟩
      unfold spec_l24Room_L0
      simp only [hlt, if_true, getI_lt hi, some_bind', ek, g1, gr]
      rcases tf (leZ x t) with h1 | h1 <;> rcases tf (ltZ t e) with h2 | h2 <;> simp [-Int.natCast_add, h1, h2, ge, gm, gu j hj, idxN hi hd (Nat.le_refl _)])
    (fun n _ => by
      have hlt : ltZ (d.length : Int) (lenI d) = false := lt_no _
      unfold spec_l24Room_L0
      simp only [hlt, Bool.false_eq_true, if_false]
      rfl)
    (a := 0) (s := (0, lenI d, d, 0, t, (j : Int), m1, m2, p, (s, d, ()), a, ())) rfl trivial).1
theorem useD_i (p : D_Project) (s : D_Schedule) (d : List Int) (j : Nat) (t m1 m2 a : Int) (rsc : D_Resource) (rs : List D_Resource) (hp : Sm_Project 1099511627776 p) (h : formB p s = true) (hd : d.length ≤ 1099511627776) (ha : actsIn p d) (hj : j < p.2.2.2.1.length) (A : Type) :
    loopN (A := A) big impl_Plan_holds_L1 (0, lenI d, d, 0, t, rsc, (j : Int), m1, m2, rs, a, (s, d, ()), p, s, ()) = some (.exit (Sum.inl (false, lenI d, lenI d, d, useD p s d (j : Int) t, t, rsc, (j : Int), m1, m2, rs, a, (s, d, ()), p, s, ()))) :=
  (fold_list (A := A) (F := impl_Plan_holds_L1) (fun i (n : Int) => ((i : Int), lenI d, d, n, t, rsc, (j : Int), m1, m2, rs, a, (s, d, ()), p, s, ())) d (fun _ _ => True) (fun n o => if runBP p s t o = true then addZ .i64 n (useOfP p s (j : Int) o) else n) (fun n => Sum.inl (false, lenI d, lenI d, d, n, t, rsc, (j : Int), m1, m2, rs, a, (s, d, ()), p, s, ())) hd
    (fun i n hi _ => by
      have hlt : ltZ (i : Int) (lenI d) = true := lt_yes hi
      obtain ⟨k, ek, hk⟩ := ha _ (List.getElem_mem hi)
      obtain ⟨x, e, md, g1, ge, gm, -, -, -, -, -, gr, gu⟩ := run_atP hp h hk
      refine ⟨?_, trivial⟩
      unfold impl_Plan_holds_L1
      simp only [hlt, if_true, getI_lt hi, some_bind', ek, g1, gr]
      rcases tf (leZ x t) with h1 | h1 <;> rcases tf (ltZ t e) with h2 | h2 <;> simp [-Int.natCast_add, h1, h2, end_impl, mode_impl, ge, gm, gu j hj, idxN hi hd (Nat.le_refl _)])
    (fun n _ => by
      have hlt : ltZ (d.length : Int) (lenI d) = false := lt_no _
      unfold impl_Plan_holds_L1
      simp only [hlt, Bool.false_eq_true, if_false]
      rfl)
    (a := 0) (s := (0, lenI d, d, 0, t, rsc, (j : Int), m1, m2, rs, a, (s, d, ()), p, s, ())) rfl trivial).1

def timeQ (p : D_Project) (s : D_Schedule) (d : List Int) (j : Nat) (x : Int) (i : Nat) : Bool := match p.2.2.2.1[j]? with
  | some r => notB (ltZ (capAtV r.1 (x + (i : Int))) (useD p s d (j : Int) (x + (i : Int))))
  | none => true
theorem times_s (p : D_Project) (s : D_Schedule) (d : List Int) (j : Nat) (m1 m2 a x dur e : Int) (hp : Sm_Project 1099511627776 p) (h : formB p s = true) (hd : d.length ≤ 1099511627776) (ha : actsIn p d) (hj : j < p.2.2.2.1.length)
    (hx0 : 0 ≤ x) (hx6 : x ≤ 60) (hd1 : 1 ≤ dur) (hd2 : dur ≤ 12) (hee : e = addZ .i64 x dur) (he : ∀ u, spec_l09End (p, s, a, u) () = some (e, ())) (A : Type) :
    loopN (A := A) big spec_l24Room_L1 (x, (j : Int), m1, m2, p, (s, d, ()), a, ()) = some (if (List.range dur.toNat).all (timeQ p s d j x) = true then .exit (Sum.inl (false, e, (j : Int), m1, m2, p, (s, d, ()), a, ())) else .ret (false, ())) := by
  have hst : p.2.2.2.1[j].1.length ≤ 1099511627776 := (hp.2.2.2.1.2 _ (List.getElem_mem hj)).1.1
  have e2 : e = x + (dur.toNat : Int) := by rw [hee, addZ64 (by omega) (by omega)]; omega
  exact allIS (A := A) (F := spec_l24Room_L1) (fun i => (x + (i : Int), (j : Int), m1, m2, p, (s, d, ()), a, ())) _ dur.toNat (timeQ p s d j x) _ (false, ()) (by simp) (by omega)
    (fun i hi => by
      have hlt : ltZ (x + (i : Int)) e = true := by rw [ltZ_iff]; omega
      have hadd : addZ .i64 (x + (i : Int)) 1 = x + ((i + 1 : Nat) : Int) := by rw [addZ64 (by omega) (by omega)]; omega
      have l0 := fun (A : Type) => useD_s p s d j (x + (i : Int)) m1 m2 a hp h hd ha hj A
      unfold spec_l24Room_L1 timeQ
      rw [List.getElem?_eq_getElem hj]
      simp only [he, hlt, if_true, some_bind', l0, getI_lt hj, CapacityAt_s _ _ _ hst]
      rcases tf (ltZ (capAtV p.2.2.2.1[j].1 (x + (i : Int))) (useD p s d (j : Int) (x + (i : Int)))) with q | q <;> simp [-Int.natCast_add, q, notB, hadd])
    (by
      have hlt : ltZ e e = false := by rw [Bool.eq_false_iff, Ne, ltZ_iff]; omega
      unfold spec_l24Room_L1
      simp only [he, some_bind', ← e2, hlt, Bool.false_eq_true, if_false]
      try rfl)
theorem times_i (p : D_Project) (s : D_Schedule) (d : List Int) (j : Nat) (m1 m2 a x dur e : Int) (rs : List D_Resource) (hp : Sm_Project 1099511627776 p) (h : formB p s = true) (hd : d.length ≤ 1099511627776) (ha : actsIn p d) (hj : j < p.2.2.2.1.length)
    (hx0 : 0 ≤ x) (hx6 : x ≤ 60) (hd1 : 1 ≤ dur) (hd2 : dur ≤ 12) (hee : e = addZ .i64 x dur) (he : ∀ u, spec_l09End (p, s, a, u) () = some (e, ())) (A : Type) :
    loopN (A := A) big impl_Plan_holds_L2 (x, p.2.2.2.1[j], (j : Int), m1, m2, rs, a, (s, d, ()), p, s, ()) = some (if (List.range dur.toNat).all (timeQ p s d j x) = true then .exit (Sum.inl (false, e, p.2.2.2.1[j], (j : Int), m1, m2, rs, a, (s, d, ()), p, s, ())) else .ret (false, ())) := by
  have hst : p.2.2.2.1[j].1.length ≤ 1099511627776 := (hp.2.2.2.1.2 _ (List.getElem_mem hj)).1.1
  have e2 : e = x + (dur.toNat : Int) := by rw [hee, addZ64 (by omega) (by omega)]; omega
  exact allIS (A := A) (F := impl_Plan_holds_L2) (fun i => (x + (i : Int), p.2.2.2.1[j], (j : Int), m1, m2, rs, a, (s, d, ()), p, s, ())) _ dur.toNat (timeQ p s d j x) _ (false, ()) (by simp) (by omega)
    (fun i hi => by
      have hlt : ltZ (x + (i : Int)) e = true := by rw [ltZ_iff]; omega
      have hadd : addZ .i64 (x + (i : Int)) 1 = x + ((i + 1 : Nat) : Int) := by rw [addZ64 (by omega) (by omega)]; omega
      have l0 := fun (A : Type) => useD_i p s d j (x + (i : Int)) m1 m2 a p.2.2.2.1[j] rs hp h hd ha hj A
      unfold impl_Plan_holds_L2 timeQ
      rw [List.getElem?_eq_getElem hj]
      simp only [end_impl, he, hlt, if_true, some_bind', l0, CapacityAt_i _ _ _ hst]
      rcases tf (ltZ (capAtV p.2.2.2.1[j].1 (x + (i : Int))) (useD p s d (j : Int) (x + (i : Int)))) with q | q <;> simp [-Int.natCast_add, q, notB, hadd])
    (by
      have hlt : ltZ e e = false := by rw [Bool.eq_false_iff, Ne, ltZ_iff]; omega
      unfold impl_Plan_holds_L2
      simp only [end_impl, he, some_bind', ← e2, hlt, Bool.false_eq_true, if_false]
      try rfl)

def pairW (p : D_Project) (s : D_Schedule) (j o a : Int) : Bool := match spec_l10Pair (p, s, (0, j, o, a, ()), ()) () with | some b => b.1 | none => false
def pairQ (p : D_Project) (s : D_Schedule) (j a o : Int) : Bool := notB (notB (eqZ o a) && machBP p j && pairW p s j o a)
theorem pairs_s (p : D_Project) (s : D_Schedule) (d : List Int) (j a : Nat) (m1 m2 : Int) (hp : Sm_Project 1099511627776 p) (h : formB p s = true) (hd : d.length ≤ 1099511627776) (ha : actsIn p d) (hj : j < p.2.2.2.1.length) (haa : a < p.2.1.length) (A : Type) :
    loopN (A := A) big spec_l24Room_L2 (0, lenI d, d, (j : Int), m1, m2, p, (s, d, ()), (a : Int), ()) = some (if d.all (pairQ p s (j : Int) (a : Int)) = true then .exit (Sum.inl (false, lenI d, lenI d, d, (j : Int), m1, m2, p, (s, d, ()), (a : Int), ())) else .ret (false, ())) :=
  allS (A := A) (F := spec_l24Room_L2) (fun i => ((i : Int), lenI d, d, (j : Int), m1, m2, p, (s, d, ()), (a : Int), ())) _ d (pairQ p s (j : Int) (a : Int)) _ (false, ()) rfl hd
    (fun i hi => by
      have hlt : ltZ (i : Int) (lenI d) = true := lt_yes hi
      obtain ⟨k, ek, hk⟩ := ha _ (List.getElem_mem hi)
      unfold spec_l24Room_L2 pairQ
      simp only [hlt, if_true, getI_lt hi, some_bind', ek, IsMachine_specP _ _ _ hp]
      rcases tf (eqZ (k : Int) (a : Int)) with q1 | q1 <;> rcases tf (machBP p (j : Int)) with q2 | q2
      · simp [-Int.natCast_add, q1, q2, notB, idxN hi hd (Nat.le_refl _), IsMachine_specP _ _ _ hp]
      · have q3 := q2
        rw [machB_atP hp hj, ltZ_iff, lenI_eq] at q3
        obtain ⟨w, w1, w2⟩ := pair_atP (b := k) (c := a) hp h hj (by omega) hk haa
        have hw : pairW p s (j : Int) (k : Int) (a : Int) = w := by unfold pairW; rw [w1]
        cases w <;> simp [-Int.natCast_add, q1, q2, notB, hw, w1, idxN hi hd (Nat.le_refl _), IsMachine_specP _ _ _ hp]
      · simp [-Int.natCast_add, q1, q2, notB, idxN hi hd (Nat.le_refl _), IsMachine_specP _ _ _ hp]
      · simp [-Int.natCast_add, q1, q2, notB, idxN hi hd (Nat.le_refl _), IsMachine_specP _ _ _ hp])
    (by
      have hlt : ltZ (d.length : Int) (lenI d) = false := lt_no _
      unfold spec_l24Room_L2
      simp only [hlt, Bool.false_eq_true, if_false]
      try rfl)
theorem pairs_i (p : D_Project) (s : D_Schedule) (d : List Int) (j a : Nat) (m1 m2 : Int) (rs : List D_Resource) (hp : Sm_Project 1099511627776 p) (h : formB p s = true) (hd : d.length ≤ 1099511627776) (ha : actsIn p d) (hj : j < p.2.2.2.1.length) (haa : a < p.2.1.length) (A : Type) :
    loopN (A := A) big impl_Plan_holds_L3 (0, lenI d, d, (j : Int), m1, m2, rs, (a : Int), (s, d, ()), p, s, ()) = some (if d.all (pairQ p s (j : Int) (a : Int)) = true then .exit (Sum.inl (false, lenI d, lenI d, d, (j : Int), m1, m2, rs, (a : Int), (s, d, ()), p, s, ())) else .ret (false, ())) :=
  allS (A := A) (F := impl_Plan_holds_L3) (fun i => ((i : Int), lenI d, d, (j : Int), m1, m2, rs, (a : Int), (s, d, ()), p, s, ())) _ d (pairQ p s (j : Int) (a : Int)) _ (false, ()) rfl hd
    (fun i hi => by
      have hlt : ltZ (i : Int) (lenI d) = true := lt_yes hi
      obtain ⟨k, ek, hk⟩ := ha _ (List.getElem_mem hi)
      unfold impl_Plan_holds_L3 pairQ
      simp only [hlt, if_true, getI_lt hi, some_bind', ek, IsMachine_impl_eqP, IsMachine_specP _ _ _ hp]
      rcases tf (eqZ (k : Int) (a : Int)) with q1 | q1 <;> rcases tf (machBP p (j : Int)) with q2 | q2
      · simp [-Int.natCast_add, q1, q2, notB, idxN hi hd (Nat.le_refl _)]
      · have q3 := q2
        rw [machB_atP hp hj, ltZ_iff, lenI_eq] at q3
        obtain ⟨w, w1, w2⟩ := pair_atP (b := k) (c := a) hp h hj (by omega) hk haa
        have hw : pairW p s (j : Int) (k : Int) (a : Int) = w := by unfold pairW; rw [w1]
        cases w <;> simp [-Int.natCast_add, q1, q2, notB, hw, w2, idxN hi hd (Nat.le_refl _)]
      · simp [-Int.natCast_add, q1, q2, notB, idxN hi hd (Nat.le_refl _)]
      · simp [-Int.natCast_add, q1, q2, notB, idxN hi hd (Nat.le_refl _)])
    (by
      have hlt : ltZ (d.length : Int) (lenI d) = false := lt_no _
      unfold impl_Plan_holds_L3
      simp only [hlt, Bool.false_eq_true, if_false]
      try rfl)
end Go.Proofs.YtafnhdfjcocpgaaGreat
