/-
  Plain laws: plans: their form, the links and the stocks of one of their activities, in the program and in the reference. Condition: no list is longer than 2 to the 40.
-/
import Derived.Test.YtafnhdfjcocpgaaGreatw3LAct
import Derived.Test.YtafnhdfjcocpgaaGreatw3LSet
import Derived.Test.YtafnhdfjcocpgaaGreatw3LHas
import Derived.Test.YtafnhdfjcocpgaaGreatw3LRange
namespace Go.Proofs.YtafnhdfjcocpgaaGreat
open Go.Abs
set_option linter.unusedVariables false
set_option linter.unusedSimpArgs false

def planB (p : D_Project) (x : D_Plan) : Bool := formB p x.1 && setB x.2.1 && subB x.2.1 (iotaI p.2.1.length)
theorem PlanOk_spec (p : D_Project) (x : D_Plan) (u : Unit) (hp : Sm_Project 1099511627776 p) (hx : x.2.1.length ≤ 1099511627776) : spec_PlanOk (p, x, u) () = some (planB p x, ()) := by
  unfold spec_PlanOk planB
  simp only [ScheduleForm_spec _ _ _ hp, some_bind']
  rcases tf (formB p x.1) with h | h
  · simp [h]
  have hn := (proj_actsP (proj_of_form h)).2
  have k := fun u => rangeN_s p.2.1.length u (by omega)
  have k2 := fun u => SetSubset_spec x.2.1 (iotaI p.2.1.length) u hx (by rw [iotaI_length]; omega)
  simp only [h, if_true, SetOk_spec _ _ hx, some_bind', lenI_eq, k, k2]
  rcases tf (setB x.2.1) with h2 | h2 <;> simp [h2]
theorem PlanOk_impl (p : D_Project) (x : D_Plan) (u : Unit) (hp : Sm_Project 1099511627776 p) (hx : x.2.1.length ≤ 1099511627776) : impl_PlanOk (p, x, u) () = some (planB p x, ()) := by
  unfold impl_PlanOk planB
  simp only [ScheduleForm_impl _ _ _ hp, some_bind']
  rcases tf (formB p x.1) with h | h
  · simp [h]
  have hn := (proj_actsP (proj_of_form h)).2
  have k := fun u => rangeN_s p.2.1.length u (by omega)
  have k2 := fun u => SetSubset_impl x.2.1 (iotaI p.2.1.length) u hx (by rw [iotaI_length]; omega)
  simp only [h, if_true, SetOk_impl _ _ hx, some_bind', lenI_eq, rangeN_i, k, k2]
  rcases tf (setB x.2.1) with h2 | h2 <;> simp [h2]

def failP (p : D_Project) (s : D_Schedule) (k : Nat) : Bool := match spec_l10Fails (p, s, (1, (k : Int), 0, 0, ()), ()) () with | some b => b.1 | none => false
def linkQ (p : D_Project) (s : D_Schedule) (d : List Int) (a : Int) (k : Nat) : Bool := match p.2.2.1[k]? with
  | some l => notB ((eqZ l.1 a || eqZ l.2.1 a) && hasB d l.1 && hasB d l.2.1 && failP p s k)
  | none => true
def linksV (p : D_Project) (s : D_Schedule) (d : List Int) (a : Int) : Bool := (List.range p.2.2.1.length).all (linkQ p s d a)
theorem links_s (p : D_Project) (s : D_Schedule) (d : List Int) (a : Int) (u : Unit) (hp : Sm_Project 1099511627776 p) (h : formB p s = true) (hd : d.length ≤ 1099511627776) : spec_l24Links (p, (s, d, ()), a, u) () = some (linksV p s d a, ()) := by
  obtain ⟨-, -, hk12⟩ := proj_sizesP (proj_of_form h)
  have l0 := fun A : Type => allIS (A := A) (F := spec_l24Links_L0) (fun i => ((i : Int), lenI p.2.2.1, p.2.2.1, a, p, (s, d, ()), ())) (0, lenI p.2.2.1, p.2.2.1, a, p, (s, d, ()), ()) p.2.2.1.length (linkQ p s d a) (Sum.inl (false, lenI p.2.2.1, lenI p.2.2.1, p.2.2.1, a, p, (s, d, ()), ())) (false, ()) rfl (by omega)
    (fun i hi => by
      obtain ⟨b, e, -⟩ := linkHolds_failsP p s i 0 0 hp h hi
      have hb : failP p s i = b := by unfold failP; rw [e]
      have hlt : ltZ (i : Int) (lenI p.2.2.1) = true := lt_yes hi
      have k1 := fun u => SetHas_spec d p.2.2.1[i].1 u hd
      have k2 := fun u => SetHas_spec d p.2.2.1[i].2.1 u hd
      unfold spec_l24Links_L0 linkQ
      rw [List.getElem?_eq_getElem hi]
      simp only [hlt, if_true, getI_lt hi, some_bind', k1, k2, hb, e, idxN hi (show p.2.2.1.length ≤ 1099511627776 by omega) (Nat.le_refl _)]
      rcases tf (eqZ p.2.2.1[i].1 a) with q1 | q1 <;> rcases tf (eqZ p.2.2.1[i].2.1 a) with q2 | q2 <;> rcases tf (hasB d p.2.2.1[i].1) with q3 | q3 <;> rcases tf (hasB d p.2.2.1[i].2.1) with q4 | q4 <;> cases b <;>
        simp [-Int.natCast_add, q1, q2, q3, q4, notB, e, idxN hi (show p.2.2.1.length ≤ 1099511627776 by omega) (Nat.le_refl _)])
    (by
      have hlt : ltZ (p.2.2.1.length : Int) (lenI p.2.2.1) = false := lt_no _
      unfold spec_l24Links_L0; simp only [hlt, Bool.false_eq_true, if_false]; rfl)
  unfold spec_l24Links
  simp only [l0]
  unfold linksV
  rcases tf ((List.range p.2.2.1.length).all (linkQ p s d a)) with q | q <;> simp [q]
theorem links_i (p : D_Project) (s : D_Schedule) (d : List Int) (a : Int) (hp : Sm_Project 1099511627776 p) (h : formB p s = true) (hd : d.length ≤ 1099511627776) (A : Type) :
    loopN (A := A) big impl_Plan_holds_L0 (0, lenI p.2.2.1, p.2.2.1, a, (s, d, ()), p, s, ()) = some (if linksV p s d a = true then .exit (Sum.inl (false, lenI p.2.2.1, lenI p.2.2.1, p.2.2.1, a, (s, d, ()), p, s, ())) else .ret (false, ())) := by
  obtain ⟨-, -, hk12⟩ := proj_sizesP (proj_of_form h)
  exact allIS (A := A) (F := impl_Plan_holds_L0) (fun i => ((i : Int), lenI p.2.2.1, p.2.2.1, a, (s, d, ()), p, s, ())) (0, lenI p.2.2.1, p.2.2.1, a, (s, d, ()), p, s, ()) p.2.2.1.length (linkQ p s d a) (Sum.inl (false, lenI p.2.2.1, lenI p.2.2.1, p.2.2.1, a, (s, d, ()), p, s, ())) (false, ()) rfl (by omega)
    (fun i hi => by
      obtain ⟨b, e, e'⟩ := linkHolds_failsP p s i 0 0 hp h hi
      have hb : failP p s i = b := by unfold failP; rw [e]
      have hlt : ltZ (i : Int) (lenI p.2.2.1) = true := lt_yes hi
      have k1 := fun u => SetHas_impl d p.2.2.1[i].1 u hd
      have k2 := fun u => SetHas_impl d p.2.2.1[i].2.1 u hd
      unfold impl_Plan_holds_L0 linkQ
      rw [List.getElem?_eq_getElem hi]
      simp only [hlt, if_true, getI_lt hi, some_bind', k1, k2, hb, e', idxN hi (show p.2.2.1.length ≤ 1099511627776 by omega) (Nat.le_refl _)]
      rcases tf (eqZ p.2.2.1[i].1 a) with q1 | q1 <;> rcases tf (eqZ p.2.2.1[i].2.1 a) with q2 | q2 <;> rcases tf (hasB d p.2.2.1[i].1) with q3 | q3 <;> rcases tf (hasB d p.2.2.1[i].2.1) with q4 | q4 <;> cases b <;>
        simp [-Int.natCast_add, q1, q2, q3, q4, notB, idxN hi (show p.2.2.1.length ≤ 1099511627776 by omega) (Nat.le_refl _)])
    (by
      have hlt : ltZ (p.2.2.1.length : Int) (lenI p.2.2.1) = false := lt_no _
      unfold impl_Plan_holds_L0; simp only [hlt, Bool.false_eq_true, if_false]; rfl)

/-- the activities of a plan -/
def actsIn (p : D_Project) (d : List Int) : Prop := ∀ o ∈ d, ∃ i : Nat, o = (i : Int) ∧ i < p.2.1.length
def consD (p : D_Project) (s : D_Schedule) (d : List Int) (k : Int) : Int := d.foldl (fun n o => addZ .i64 n (consOfP p s k o)) 0
def stockQ (p : D_Project) (s : D_Schedule) (d : List Int) (k : Nat) : Bool := match p.2.2.2.2.1[k]? with
  | some most => notB (ltZ most (consD p s d (k : Int)))
  | none => true
def stocksV (p : D_Project) (s : D_Schedule) (d : List Int) : Bool := (List.range p.2.2.2.2.1.length).all (stockQ p s d)
theorem stock_s (p : D_Project) (s : D_Schedule) (d : List Int) (k : Nat) (m1 m2 m3 : Int) (hp : Sm_Project 1099511627776 p) (h : formB p s = true) (hd : d.length ≤ 1099511627776) (ha : actsIn p d) (hk : k < p.2.2.2.2.1.length) (A : Type) (st : List Int) :
    loopN (A := A) big spec_l24Stocks_L0 (0, lenI d, d, (k : Int), 0, m1, m2, m3, st, p, (s, d, ()), ()) = some (.exit (Sum.inl (false, lenI d, lenI d, d, (k : Int), consD p s d (k : Int), m1, m2, m3, st, p, (s, d, ()), ()))) :=
  (fold_list (A := A) (F := spec_l24Stocks_L0) (fun i (n : Int) => ((i : Int), lenI d, d, (k : Int), n, m1, m2, m3, st, p, (s, d, ()), ())) d (fun _ _ => True) (fun n o => addZ .i64 n (consOfP p s (k : Int) o)) (fun n => Sum.inl (false, lenI d, lenI d, d, (k : Int), n, m1, m2, m3, st, p, (s, d, ()), ())) hd
    (fun i n hi _ => by
      have hlt : ltZ (i : Int) (lenI d) = true := lt_yes hi
      obtain ⟨j, ej, hj⟩ := ha _ (List.getElem_mem hi)
      obtain ⟨md, gm, gc⟩ := cons_atP hp h hj hk
      refine ⟨?_, trivial⟩
      unfold spec_l24Stocks_L0
      simp only [hlt, if_true, getI_lt hi, some_bind', ej, gm, gc, idxN hi hd (Nat.le_refl _)])
    (fun n _ => by
      have hlt : ltZ (d.length : Int) (lenI d) = false := lt_no _
      unfold spec_l24Stocks_L0
      simp only [hlt, Bool.false_eq_true, if_false]
      rfl)
    (a := 0) (s := (0, lenI d, d, (k : Int), 0, m1, m2, m3, st, p, (s, d, ()), ())) rfl trivial).1
theorem stock_i (p : D_Project) (s : D_Schedule) (d : List Int) (k : Nat) (m1 m2 m3 : Int) (hp : Sm_Project 1099511627776 p) (h : formB p s = true) (hd : d.length ≤ 1099511627776) (ha : actsIn p d) (hk : k < p.2.2.2.2.1.length) (A : Type) (st : List Int) :
    loopN (A := A) big impl_Plan_holds_L5 (0, lenI d, d, (k : Int), 0, m1, m2, m3, st, (s, d, ()), p, s, ()) = some (.exit (Sum.inl (false, lenI d, lenI d, d, (k : Int), consD p s d (k : Int), m1, m2, m3, st, (s, d, ()), p, s, ()))) :=
  (fold_list (A := A) (F := impl_Plan_holds_L5) (fun i (n : Int) => ((i : Int), lenI d, d, (k : Int), n, m1, m2, m3, st, (s, d, ()), p, s, ())) d (fun _ _ => True) (fun n o => addZ .i64 n (consOfP p s (k : Int) o)) (fun n => Sum.inl (false, lenI d, lenI d, d, (k : Int), n, m1, m2, m3, st, (s, d, ()), p, s, ())) hd
    (fun i n hi _ => by
      have hlt : ltZ (i : Int) (lenI d) = true := lt_yes hi
      obtain ⟨j, ej, hj⟩ := ha _ (List.getElem_mem hi)
      obtain ⟨md, gm, gc⟩ := cons_atP hp h hj hk
      refine ⟨?_, trivial⟩
      unfold impl_Plan_holds_L5
      simp only [hlt, if_true, getI_lt hi, some_bind', ej, mode_impl, gm, gc, idxN hi hd (Nat.le_refl _)])
    (fun n _ => by
      have hlt : ltZ (d.length : Int) (lenI d) = false := lt_no _
      unfold impl_Plan_holds_L5
      simp only [hlt, Bool.false_eq_true, if_false]
      rfl)
    (a := 0) (s := (0, lenI d, d, (k : Int), 0, m1, m2, m3, st, (s, d, ()), p, s, ())) rfl trivial).1
theorem stocks_s (p : D_Project) (s : D_Schedule) (d : List Int) (u : Unit) (hp : Sm_Project 1099511627776 p) (h : formB p s = true) (hd : d.length ≤ 1099511627776) (ha : actsIn p d) : spec_l24Stocks (p, (s, d, ()), u) () = some (stocksV p s d, ()) := by
  obtain ⟨-, hk2, -⟩ := proj_sizesP (proj_of_form h)
  have l0 := fun A : Type => allIS (A := A) (F := spec_l24Stocks_L1) (fun i => ((i : Int), lenI p.2.2.2.2.1, p.2.2.2.2.1, p, (s, d, ()), ())) (0, lenI p.2.2.2.2.1, p.2.2.2.2.1, p, (s, d, ()), ()) p.2.2.2.2.1.length (stockQ p s d) (Sum.inl (false, lenI p.2.2.2.2.1, lenI p.2.2.2.2.1, p.2.2.2.2.1, p, (s, d, ()), ())) (false, ()) rfl (by omega)
    (fun i hi => by
      have hlt : ltZ (i : Int) (lenI p.2.2.2.2.1) = true := lt_yes hi
      have l1 := fun (A : Type) (m1 m2 m3 : Int) (st : List Int) => stock_s p s d i m1 m2 m3 hp h hd ha hi A st
      unfold spec_l24Stocks_L1 stockQ
      rw [List.getElem?_eq_getElem hi]
      simp only [hlt, if_true, getI_lt hi, some_bind', l1]
      rcases tf (ltZ p.2.2.2.2.1[i] (consD p s d (i : Int))) with q | q <;> simp [-Int.natCast_add, q, notB, idxN hi (show p.2.2.2.2.1.length ≤ 1099511627776 by omega) (Nat.le_refl _)])
    (by
      have hlt : ltZ (p.2.2.2.2.1.length : Int) (lenI p.2.2.2.2.1) = false := lt_no _
      unfold spec_l24Stocks_L1; simp only [hlt, Bool.false_eq_true, if_false]; rfl)
  unfold spec_l24Stocks
  simp only [l0]
  unfold stocksV
  rcases tf ((List.range p.2.2.2.2.1.length).all (stockQ p s d)) with q | q <;> simp [q]
theorem stocks_i (p : D_Project) (s : D_Schedule) (d : List Int) (hp : Sm_Project 1099511627776 p) (h : formB p s = true) (hd : d.length ≤ 1099511627776) (ha : actsIn p d) (A : Type) :
    loopN (A := A) big impl_Plan_holds_L6 (0, lenI p.2.2.2.2.1, p.2.2.2.2.1, (s, d, ()), p, s, ()) = some (if stocksV p s d = true then .exit (Sum.inl (false, lenI p.2.2.2.2.1, lenI p.2.2.2.2.1, p.2.2.2.2.1, (s, d, ()), p, s, ())) else .ret (false, ())) := by
  obtain ⟨-, hk2, -⟩ := proj_sizesP (proj_of_form h)
  exact allIS (A := A) (F := impl_Plan_holds_L6) (fun i => ((i : Int), lenI p.2.2.2.2.1, p.2.2.2.2.1, (s, d, ()), p, s, ())) (0, lenI p.2.2.2.2.1, p.2.2.2.2.1, (s, d, ()), p, s, ()) p.2.2.2.2.1.length (stockQ p s d) (Sum.inl (false, lenI p.2.2.2.2.1, lenI p.2.2.2.2.1, p.2.2.2.2.1, (s, d, ()), p, s, ())) (false, ()) rfl (by omega)
    (fun i hi => by
      have hlt : ltZ (i : Int) (lenI p.2.2.2.2.1) = true := lt_yes hi
      have l1 := fun (A : Type) (m1 m2 m3 : Int) (st : List Int) => stock_i p s d i m1 m2 m3 hp h hd ha hi A st
      unfold impl_Plan_holds_L6 stockQ
      rw [List.getElem?_eq_getElem hi]
      simp only [hlt, if_true, getI_lt hi, some_bind', l1]
      rcases tf (ltZ p.2.2.2.2.1[i] (consD p s d (i : Int))) with q | q <;> simp [-Int.natCast_add, q, notB, idxN hi (show p.2.2.2.2.1.length ≤ 1099511627776 by omega) (Nat.le_refl _)])
    (by
      have hlt : ltZ (p.2.2.2.2.1.length : Int) (lenI p.2.2.2.2.1) = false := lt_no _
      unfold impl_Plan_holds_L6; simp only [hlt, Bool.false_eq_true, if_false]; rfl)
end Go.Proofs.YtafnhdfjcocpgaaGreat
