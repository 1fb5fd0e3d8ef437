/-
  Plain laws: which rules a schedule violates; which schedules are valid: in the program and in the reference. Condition: no list is longer than 2 to the 40.
-/
import Derived.Test.YtjgmjljdhgfdhaaGreatj3LOk
namespace Go.Proofs.YtjgmjljdhgfdhaaGreat
open Go.Abs
set_option linter.unusedVariables false
set_option linter.unusedSimpArgs false

theorem notB_ltZ (x y : Int) : notB (ltZ x y) = leZ y x := by
  rw [notB_not, Bool.eq_iff_iff, Bool.not_eq_true', Bool.eq_false_iff, Ne, ltZ_iff, leZ_iff]; omega
/-- what is used at a time, in the reference's own way -/
theorem l09Use_spec (p : D_Project) (s : D_Schedule) (j : Nat) (t : Int) (u : Unit) (hp : Sm_Project 1099511627776 p) (h : formB p s = true) (hj : j < p.2.2.2.1.length) : spec_l09Use (p, s, (j : Int), t, u) () = some (useV p s (j : Int) t, ()) := by
  have hle := hp.2.1.1
  have l0 := fun A : Type => (fold_loop (A := A) (F := spec_l09Use_L0) (fun i n => ((i : Int), (p.2.1.length : Int), t, p, s, (j : Int), n, ())) p.2.1.length (fun _ _ => True) (fun i n => if runB p s t (i : Int) = true then addZ .i64 n (useOf p s (j : Int) (i : Int)) else n) (fun n => Sum.inl (false, (p.2.1.length : Int), (p.2.1.length : Int), t, p, s, (j : Int), n, ())) hle
    (fun i n hi _ => by
      obtain ⟨x, e, md, g1, ge, gm, -, -, -, -, -, gr, gu⟩ := run_at hp h hi
      refine ⟨?_, trivial⟩
      unfold spec_l09Use_L0
      simp only [lt_yes hi, if_true, g1, some_bind', gr]
      rcases tf (leZ x t) with h1 | h1 <;> rcases tf (ltZ t e) with h2 | h2 <;> simp [-Int.natCast_add, h1, h2, ge, gm, gu j hj, idxN hi hle (Nat.le_refl _)])
    (fun n _ => by
      unfold spec_l09Use_L0
      simp only [lt_no, Bool.false_eq_true, if_false])
    (a := 0) trivial).1
  have e0 : (((0 : Nat) : Int), (p.2.1.length : Int), t, p, s, (j : Int), (0 : Int), ()) = ((0 : Int), (p.2.1.length : Int), t, p, s, (j : Int), (0 : Int), ()) := rfl
  rw [e0] at l0
  have e1 := foldN_iota (fun (n x : Int) => if runB p s t x = true then addZ .i64 n (useOf p s (j : Int) x) else n) p.2.1.length 0
  unfold spec_l09Use useV runL
  simp only [lenI_eq, l0, some_bind', e1, List.foldl_filter]
/-- the capacity at a time -/
def capV (l : List D_Step) (t : Int) : Int := l.foldl (fun n s => if leZ s.1 t = true then s.2.1 else n) 0
theorem l03At_spec (l : List D_Step) (t : Int) (u : Unit) (hl : l.length ≤ 1099511627776) : spec_l03At (l, t, u) () = some (capV l t, ()) := by
  have l0 := fun A : Type => (fold_list (A := A) (F := spec_l03At_L0) (fun i n => ((i : Int), (l.length : Int), l, t, n, ())) l (fun _ _ => True) (fun n s => if leZ s.1 t = true then s.2.1 else n) (fun n => Sum.inl (false, (l.length : Int), (l.length : Int), l, t, n, ())) hl
    (fun i n hi _ => by
      refine ⟨?_, trivial⟩
      unfold spec_l03At_L0
      simp only [lt_yes hi, if_true, getI_lt hi, some_bind']
      rcases tf (leZ l[i].1 t) with h1 | h1 <;> simp [-Int.natCast_add, h1, idxN hi hl (Nat.le_refl _)])
    (fun n _ => by
      unfold spec_l03At_L0
      simp only [lt_no, Bool.false_eq_true, if_false])
    (a := 0) (s := (0, (l.length : Int), l, t, 0, ())) rfl trivial).1
  unfold spec_l03At capV
  simp only [lenI_eq, l0, some_bind']
theorem capacityAt_impl_eq : impl_capacityAt = spec_l03At := rfl
/-- what an activity consumes -/
def consOf (p : D_Project) (s : D_Schedule) (k a : Int) : Int := match spec_l09Mode (p, s, a, ()) () with
  | some m => (getI m.1.2.2.1 k).getD 0
  | none => 0
def consV (p : D_Project) (s : D_Schedule) (k : Int) : Int := (iotaI p.2.1.length).foldl (fun n a => addZ .i64 n (consOf p s k a)) 0
theorem cons_at {p : D_Project} {s : D_Schedule} (hp : Sm_Project 1099511627776 p) (h : formB p s = true) {i : Nat} (hi : i < p.2.1.length) {k : Nat} (hk : k < p.2.2.2.2.1.length) :
    ∃ md : D_Mode, (∀ u, spec_l09Mode (p, s, (i : Int), u) () = some (md, ())) ∧ getI md.2.2.1 (k : Int) = some (consOf p s (k : Int) (i : Int)) := by
  obtain ⟨t, m, md, g1, g2, g3, hm, h0, h6, hmb, -⟩ := form_at hp h hi
  have gm := fun u => mode_eq (p := p) (s := s) u hi g2 g3
  unfold modeB at hmb
  simp only [Bool.and_eq_true] at hmb
  have hlen := hmb.2.2
  rw [eqZ_dec, decide_eq_true_eq, lenI_eq] at hlen
  have hk' : k < md.2.2.1.length := by omega
  refine ⟨md, gm, ?_⟩
  unfold consOf
  simp only [gm, getI_lt hk', Option.getD_some]
theorem consumption_L0 (p : D_Project) (s : D_Schedule) (k : Nat) (hp : Sm_Project 1099511627776 p) (h : formB p s = true) (hk : k < p.2.2.2.2.1.length) (A : Type) :
    loopN (A := A) big spec_ConsumptionOf_L0 (0, (p.2.1.length : Int), p, s, (k : Int), 0, ()) = some (.exit (Sum.inl (false, (p.2.1.length : Int), (p.2.1.length : Int), p, s, (k : Int), consV p s (k : Int), ()))) := by
  have hle := hp.2.1.1
  have l0 := (fold_loop (A := A) (F := spec_ConsumptionOf_L0) (fun i n => ((i : Int), (p.2.1.length : Int), p, s, (k : Int), n, ())) p.2.1.length (fun _ _ => True) (fun i n => addZ .i64 n (consOf p s (k : Int) (i : Int))) (fun n => Sum.inl (false, (p.2.1.length : Int), (p.2.1.length : Int), p, s, (k : Int), n, ())) hle
    (fun i n hi _ => by
      obtain ⟨md, gm, gc⟩ := cons_at hp h hi hk
      refine ⟨?_, trivial⟩
      unfold spec_ConsumptionOf_L0
      simp only [lt_yes hi, if_true, gm, gc, some_bind', idxN hi hle (Nat.le_refl _)])
    (fun n _ => by
      unfold spec_ConsumptionOf_L0
      simp only [lt_no, Bool.false_eq_true, if_false])
    (a := 0) trivial).1
  have e1 := foldN_iota (fun (n x : Int) => addZ .i64 n (consOf p s (k : Int) x)) p.2.1.length 0
  rw [e1] at l0
  exact l0
theorem inB_at {α : Type} {l : List α} (hl : l.length ≤ 1099511627776) {j : Nat} (hj : j < l.length) : inB (j : Int) 0 (subZ .i64 (lenI l) 1) = true := by
  rw [lenI_sub _ hl, inB_iff]; omega
theorem inB_atN {α : Type} {l : List α} (hl : l.length ≤ 1099511627776) {j : Nat} (hj : j < l.length) : inB (j : Int) 0 (subZ .i64 (l.length : Int) 1) = true := inB_at hl hj
theorem ConsumptionOf_spec_at (p : D_Project) (s : D_Schedule) (k : Nat) (u : Unit) (hp : Sm_Project 1099511627776 p) (h : formB p s = true) (hk : k < p.2.2.2.2.1.length) : spec_ConsumptionOf (p, s, (k : Int), u) () = some (consV p s (k : Int), ()) := by
  unfold spec_ConsumptionOf
  simp only [ScheduleForm_spec _ _ _ hp, h, notB_true, Bool.false_eq_true, if_false, l01In_eq, inB_atN hp.2.2.2.2.1.1 hk, notB_true, Bool.false_eq_true, if_false, some_bind', lenI_eq, consumption_L0 p s k hp h hk]
theorem ConsumptionOf_impl_at (p : D_Project) (s : D_Schedule) (k : Nat) (u : Unit) (hp : Sm_Project 1099511627776 p) (h : formB p s = true) (hk : k < p.2.2.2.2.1.length) : impl_ConsumptionOf (p, s, (k : Int), u) () = some (consV p s (k : Int), ()) := by
  have e : impl_ConsumptionOf_L0 = spec_ConsumptionOf_L0 := rfl
  unfold impl_ConsumptionOf
  simp only [ScheduleForm_impl _ _ _ hp, h, notB_true, Bool.false_eq_true, if_false, hasStock_eq, inB_atN hp.2.2.2.2.1.1 hk, notB_true, Bool.false_eq_true, if_false, some_bind', lenI_eq, e, consumption_L0 p s k hp h hk]
/-- the time that a machine needs between two activities -/
theorem setup_at {p : D_Project} (h : projB p = true) {j b c : Nat} (hj : j < p.2.2.2.1.length) (h0 : 0 < p.2.2.2.1[j].2.1.length) (hb : b < p.2.1.length) (hc : c < p.2.1.length) :
    ∃ row n, getI p.2.2.2.1[j].2.1 p.2.1[b].2.1 = some row ∧ getI row p.2.1[c].2.1 = some n ∧ 0 ≤ n ∧ n ≤ 12 := by
  unfold projB at h
  simp only [Bool.and_eq_true] at h
  obtain ⟨⟨⟨⟨-, ha⟩, hr⟩, -⟩, -⟩ := h
  have fam : ∀ {i : Nat} (hi : i < p.2.1.length), 0 ≤ p.2.1[i].2.1 ∧ p.2.1[i].2.1 ≤ 3 := fun {i} hi => by
    have := List.all_eq_true.1 ha i (by simpa using hi)
    unfold actI at this
    rw [List.getElem?_eq_getElem hi] at this
    simp only [Bool.and_eq_true] at this
    have h2 := this.1
    unfold actB at h2
    simp only [Bool.and_eq_true] at h2
    exact inB_iff.1 h2.2.1.2
  have h1 := List.all_eq_true.1 hr _ (List.getElem_mem hj)
  unfold resrB at h1
  simp only [Bool.and_eq_true, Bool.or_eq_true, eqZ_dec, decide_eq_true_eq] at h1
  have h4 : p.2.2.2.1[j].2.1.length = 4 := by
    rcases h1.2.2 with h | h <;> omega
  obtain ⟨f1, f2⟩ := fam hb
  obtain ⟨f3, f4⟩ := fam hc
  have e1 : p.2.1[b].2.1 = ((p.2.1[b].2.1.toNat : Nat) : Int) := by omega
  have e2 : p.2.1[c].2.1 = ((p.2.1[c].2.1.toNat : Nat) : Int) := by omega
  have l1 : p.2.1[b].2.1.toNat < p.2.2.2.1[j].2.1.length := by omega
  have hrow := List.all_eq_true.1 h1.1 _ (List.getElem_mem l1)
  unfold rowB at hrow
  simp only [Bool.and_eq_true, eqZ_dec, decide_eq_true_eq] at hrow
  have l2 : p.2.1[c].2.1.toNat < p.2.2.2.1[j].2.1[p.2.1[b].2.1.toNat].length := by omega
  have hn := inB_iff.1 (List.all_eq_true.1 hrow.2 _ (List.getElem_mem l2))
  exact ⟨p.2.2.2.1[j].2.1[p.2.1[b].2.1.toNat], p.2.2.2.1[j].2.1[p.2.1[b].2.1.toNat][p.2.1[c].2.1.toNat], (congrArg (getI _) e1).trans (getI_lt l1), (congrArg (getI _) e2).trans (getI_lt l2), hn.1, hn.2⟩
theorem SetupTime_impl_at {p : D_Project} (hp : Sm_Project 1099511627776 p) (h : projB p = true) {j b c : Nat} {row : List Int} {n : Int} (u : Unit) (hj : j < p.2.2.2.1.length) (h0 : 0 < p.2.2.2.1[j].2.1.length) (hb : b < p.2.1.length) (hc : c < p.2.1.length)
    (h1 : getI p.2.2.2.1[j].2.1 p.2.1[b].2.1 = some row) (h2 : getI row p.2.1[c].2.1 = some n) : impl_SetupTime (p, (j : Int), (b : Int), (c : Int), u) () = some (n, ()) := by
  have hM : machB p (j : Int) = true := by
    rw [machB_at hp hj, ltZ_iff, lenI_eq]; omega
  unfold impl_SetupTime
  simp only [IsMachine_impl_eq, IsMachine_spec _ _ _ hp, hM, notB_true, Bool.false_eq_true, if_false, ProjectOk_impl _ _ hp, h, hasActivity_eq, inB_at hp.2.1.1 hb, inB_at hp.2.1.1 hc, some_bind', getI_lt hj, getI_lt hb, getI_lt hc, h1, h2]
theorem Ahead_spec_at {p : D_Project} {s : D_Schedule} {j b c : Nat} {row : List Int} {n x e : Int} (u : Unit) (hj : j < p.2.2.2.1.length) (hb : b < p.2.1.length) (hc : c < p.2.1.length)
    (h1 : getI p.2.2.2.1[j].2.1 p.2.1[b].2.1 = some row) (h2 : getI row p.2.1[c].2.1 = some n) (he : ∀ u, spec_l09End (p, s, (b : Int), u) () = some (e, ())) (hx : getI s.1 (c : Int) = some x) : spec_l10Ahead (p, s, (j : Int), (b : Int), (c : Int), u) () = some (leZ (addZ .i64 e n) x, ()) := by
  unfold spec_l10Ahead
  simp only [he, some_bind', getI_lt hj, getI_lt hb, getI_lt hc, h1, h2, hx]
/-- what a link leaves -/
theorem link_at {p : D_Project} (hp : Sm_Project 1099511627776 p) (h : projB p = true) {k : Nat} (hk : k < p.2.2.1.length) : ∃ f t : Nat, p.2.2.1[k].1 = (f : Int) ∧ p.2.2.1[k].2.1 = (t : Int) ∧ f < p.2.1.length ∧ t < p.2.1.length ∧ f ≠ t ∧ -60 ≤ p.2.2.1[k].2.2.2.1 ∧ p.2.2.1[k].2.2.2.1 ≤ 60 := by
  unfold projB at h
  simp only [Bool.and_eq_true] at h
  have h1 := List.all_eq_true.1 h.2 _ (List.getElem_mem hk)
  unfold linkB at h1
  simp only [Bool.and_eq_true] at h1
  obtain ⟨f, e1, f1⟩ := inB_place hp.2.1.1 h1.1.1.1
  obtain ⟨t, e2, t1⟩ := inB_place hp.2.1.1 h1.1.1.2
  have h3 := h1.1.2
  rw [notB_not, eqZ_dec, e1, e2] at h3
  have h4 := inB_iff.1 h1.2
  refine ⟨f, t, e1, e2, f1, t1, fun e => ?_, h4.1, h4.2⟩
  subst e
  simp at h3
theorem linkHolds_fails (p : D_Project) (s : D_Schedule) (k : Nat) (r3 r4 : Int) (hp : Sm_Project 1099511627776 p) (h : formB p s = true) (hk : k < p.2.2.1.length) : ∃ b, (∀ u, spec_l10Fails (p, s, (1, (k : Int), r3, r4, ()), u) () = some (b, ())) ∧ ∀ u, impl_Project_linkHolds (p, s, p.2.2.1[k], u) () = some (notB b, ()) := by
  obtain ⟨f, t, ef, et, hf, ht, -⟩ := link_at hp (proj_of_form h) hk
  obtain ⟨x, e, md, g1, ge, -⟩ := run_at hp h hf
  obtain ⟨y, e', md', g1', ge', -⟩ := run_at hp h ht
  have z : eqZ 1 1 = true := rfl
  rcases tf p.2.2.1[k].2.2.1 with hb | hb
  · refine ⟨ltZ y (addZ .i64 x p.2.2.1[k].2.2.2.1), fun u => ?_, fun u => ?_⟩
    · unfold spec_l10Fails
      simp only [z, if_true, getI_lt hk, some_bind', ef, et, g1, g1', ge, hb, Bool.false_eq_true, if_false]
    · unfold impl_Project_linkHolds
      simp only [end_impl, some_bind', ef, et, g1, g1', ge, hb, Bool.false_eq_true, if_false, notB_ltZ]
  · refine ⟨ltZ y (addZ .i64 e p.2.2.1[k].2.2.2.1), fun u => ?_, fun u => ?_⟩
    · unfold spec_l10Fails
      simp only [z, if_true, getI_lt hk, some_bind', ef, et, g1, g1', ge, hb]
    · unfold impl_Project_linkHolds
      simp only [end_impl, some_bind', ef, et, g1, g1', ge, hb, if_true, notB_ltZ]
theorem rule_holds {p : D_Project} {s : D_Schedule} {r : D_Rule} (hp : Sm_Project 1099511627776 p) (h : formB p s = true) (hr : ruleIn p r) :
    ∃ b, (∀ u, spec_l10Fails (p, s, r, u) () = some (b, ())) ∧ ∀ u, impl_Project_satisfies (p, s, r, u) () = some (notB b, ()) := by
  have h0 := proj_of_form h
  obtain ⟨k, a, r3, r4, ⟨⟩⟩ := r
  unfold ruleIn at hr
  simp only at hr
  rcases hr with ⟨rfl, k, rfl, hk⟩ | ⟨rfl, i, rfl, hi⟩ | ⟨rfl, j, rfl, hj⟩ | ⟨rfl, j, b, c, hj, rfl, rfl, rfl, hb, hc, hpos, -⟩ | ⟨rfl, k, rfl, hk⟩
  · obtain ⟨b, e1, e2⟩ := linkHolds_fails p s k r3 r4 hp h hk
    refine ⟨b, e1, fun u => ?_⟩
    have z : eqZ 1 1 = true := rfl
    unfold impl_Project_satisfies
    simp only [z, if_true, getI_lt hk, some_bind', e2]
  · obtain ⟨x, e, md, g1, ge, -⟩ := run_at hp h hi
    have z1 : eqZ 2 1 = false := rfl
    have z2 : eqZ 2 2 = true := rfl
    refine ⟨ltZ p.1 e, fun u => ?_, fun u => ?_⟩
    · unfold spec_l10Fails
      simp only [z1, z2, if_true, Bool.false_eq_true, if_false, some_bind', ge]
    · unfold impl_Project_satisfies
      simp only [z1, z2, if_true, Bool.false_eq_true, if_false, some_bind', end_impl, ge, notB_ltZ]
  · have z1 : eqZ 3 1 = false := rfl
    have z2 : eqZ 3 2 = false := rfl
    have z3 : eqZ 3 3 = true := rfl
    have hst : p.2.2.2.1[j].1.length ≤ 1099511627776 := (hp.2.2.2.1.2 _ (List.getElem_mem hj)).1.1
    refine ⟨ltZ (capV p.2.2.2.1[j].1 r3) (useV p s (j : Int) r3), fun u => ?_, fun u => ?_⟩
    · unfold spec_l10Fails
      simp only [z1, z2, z3, if_true, Bool.false_eq_true, if_false, some_bind', l09Use_spec _ _ _ _ _ hp h hj, getI_lt hj, l03At_spec _ _ _ hst]
    · unfold impl_Project_satisfies
      simp only [z1, z2, z3, if_true, Bool.false_eq_true, if_false, some_bind', usage_impl _ _ _ _ _ hp h hj, getI_lt hj, capacityAt_impl_eq, l03At_spec _ _ _ hst, notB_ltZ]
  · have z1 : eqZ 5 1 = false := rfl
    have z2 : eqZ 5 2 = false := rfl
    have z3 : eqZ 5 3 = false := rfl
    have z4 : eqZ 5 4 = false := rfl
    have z5 : eqZ 5 5 = true := rfl
    obtain ⟨x, e, md, g1, ge, gm, -, -, -, -, -, gr, gu⟩ := run_at hp h hb
    obtain ⟨x', e', md', g1', ge', gm', -, -, -, -, -, gr', gu'⟩ := run_at hp h hc
    obtain ⟨row, n, s1, s2, -⟩ := setup_at h0 hj hpos hb hc
    obtain ⟨row', n', s1', s2', -⟩ := setup_at h0 hj hpos hc hb
    have A1 := fun u => Ahead_spec_at (p := p) (s := s) u hj hb hc s1 s2 ge g1'
    have A2 := fun u => Ahead_spec_at (p := p) (s := s) u hj hc hb s1' s2' ge' g1
    have S1 := fun u => SetupTime_impl_at hp h0 u hj hpos hb hc s1 s2
    have S2 := fun u => SetupTime_impl_at hp h0 u hj hpos hc hb s1' s2'
    refine ⟨(if eqZ (useOf p s (j : Int) (b : Int)) 0 = true then false else if eqZ (useOf p s (j : Int) (c : Int)) 0 = true then false else if leZ (addZ .i64 e n) x' = true then false else notB (leZ (addZ .i64 e' n') x)), fun u => ?_, fun u => ?_⟩
    · unfold spec_l10Fails spec_l10Pair
      simp only [z1, z2, z3, z4, z5, if_true, Bool.false_eq_true, if_false, some_bind', gm, gm', gu j hj, gu' j hj]
      rcases tf (eqZ (useOf p s (j : Int) (b : Int)) 0) with h1 | h1 <;> rcases tf (eqZ (useOf p s (j : Int) (c : Int)) 0) with h2 | h2 <;> rcases tf (leZ (addZ .i64 e n) x') with h3 | h3 <;> simp [notB, h1, h2, h3, gm', gu' j hj, A1, A2]
    · unfold impl_Project_satisfies impl_Project_pairHolds
      simp only [z1, z2, z3, z4, z5, if_true, Bool.false_eq_true, if_false, some_bind', mode_impl, end_impl, gm, gm', gu j hj, gu' j hj]
      rcases tf (eqZ (useOf p s (j : Int) (b : Int)) 0) with h1 | h1 <;> rcases tf (eqZ (useOf p s (j : Int) (c : Int)) 0) with h2 | h2 <;> rcases tf (leZ (addZ .i64 e n) x') with h3 | h3 <;> simp [notB, h1, h2, h3, gm', gu' j hj, ge, ge', g1, g1', S1, S2]
  · have z1 : eqZ 6 1 = false := rfl
    have z2 : eqZ 6 2 = false := rfl
    have z3 : eqZ 6 3 = false := rfl
    have z4 : eqZ 6 4 = false := rfl
    have z5 : eqZ 6 5 = false := rfl
    refine ⟨ltZ p.2.2.2.2.1[k] (consV p s (k : Int)), fun u => ?_, fun u => ?_⟩
    · unfold spec_l10Fails
      simp only [z1, z2, z3, z4, z5, Bool.false_eq_true, if_false, some_bind', ConsumptionOf_spec_at _ _ _ _ hp h hk, getI_lt hk]
    · unfold impl_Project_satisfies
      simp only [z1, z2, z3, z4, z5, Bool.false_eq_true, if_false, some_bind', ConsumptionOf_impl_at _ _ _ _ hp h hk, getI_lt hk, notB_ltZ]
/-- does a schedule break a rule? -/
def failB (p : D_Project) (s : D_Schedule) (r : D_Rule) : Bool := match spec_l10Fails (p, s, r, ()) () with | some b => b.1 | none => false
theorem fails_spec {p : D_Project} {s : D_Schedule} {r : D_Rule} (hp : Sm_Project 1099511627776 p) (h : formB p s = true) (hr : ruleIn p r) (u : Unit) : spec_l10Fails (p, s, r, u) () = some (failB p s r, ()) := by
  obtain ⟨b, e, -⟩ := rule_holds hp h hr
  unfold failB
  simp only [e]
theorem satisfies_impl {p : D_Project} {s : D_Schedule} {r : D_Rule} (hp : Sm_Project 1099511627776 p) (h : formB p s = true) (hr : ruleIn p r) (u : Unit) : impl_Project_satisfies (p, s, r, u) () = some (notB (failB p s r), ()) := by
  obtain ⟨b, e, e'⟩ := rule_holds hp h hr
  unfold failB
  simp only [e, e']
/-- the rules that a schedule breaks -/
def violL (p : D_Project) (s : D_Schedule) : List D_Rule := if formB p s = true then (ruleL p).filter (failB p s) else []
theorem ViolatedRules_spec (p : D_Project) (s : D_Schedule) (u : Unit) (hp : Sm_Project 1099511627776 p) : spec_ViolatedRules (p, s, u) () = some (violL p s, ()) := by
  unfold spec_ViolatedRules violL
  simp only [ScheduleForm_spec _ _ _ hp, some_bind']
  rcases tf (formB p s) with h | h
  · simp [h, notB]
  have h0 := proj_of_form h
  obtain ⟨hl, hR⟩ := ruleL_le hp h0
  have l0 := fun A : Type => (fold_list (A := A) (F := spec_ViolatedRules_L0) (fun i out => ((i : Int), ((ruleL p).length : Int), ruleL p, p, s, out, ())) (ruleL p) (fun i out => out.length ≤ i) (fun out r => if failB p s r = true then out ++ [r] else out) (fun out => Sum.inl (false, ((ruleL p).length : Int), ((ruleL p).length : Int), ruleL p, p, s, out, ())) (by omega)
    (fun i out hi ho => by
      have ha := add_one out (ruleL p)[i] (by omega)
      have hf := fun u => fails_spec hp h (hR _ (List.getElem_mem hi)) u
      constructor
      · unfold spec_ViolatedRules_L0
        simp only [lt_yes hi, if_true, getI_lt hi, some_bind', hf]
        rcases tf (failB p s (ruleL p)[i]) with h1 | h1 <;> simp [-Int.natCast_add, h1, ha, idxN hi hl (show 400 ≤ 1099511627776 by omega)]
      · rcases tf (failB p s (ruleL p)[i]) with h1 | h1 <;> simp [h1] <;> omega)
    (fun out ho => by
      unfold spec_ViolatedRules_L0
      simp only [lt_no, Bool.false_eq_true, if_false])
    (a := []) (s := (0, ((ruleL p).length : Int), ruleL p, p, s, [], ())) rfl (Nat.le_refl _)).1
  simp only [h, notB_true, Bool.false_eq_true, if_false, if_true, rules_spec _ _ hp h0, some_bind', lenI_eq, l0, foldl_filter, List.nil_append]
theorem ViolatedRules_impl (p : D_Project) (s : D_Schedule) (u : Unit) (hp : Sm_Project 1099511627776 p) : impl_ViolatedRules (p, s, u) () = some (violL p s, ()) := by
  unfold impl_ViolatedRules violL
  simp only [ScheduleForm_impl _ _ _ hp, some_bind']
  rcases tf (formB p s) with h | h
  · simp [h, notB]
  have h0 := proj_of_form h
  obtain ⟨hl, hR⟩ := ruleL_le hp h0
  have l0 := fun A : Type => (fold_list (A := A) (F := impl_ViolatedRules_L0) (fun i out => ((i : Int), ((ruleL p).length : Int), ruleL p, p, s, out, ())) (ruleL p) (fun i out => out.length ≤ i) (fun out r => if failB p s r = true then out ++ [r] else out) (fun out => Sum.inl (false, ((ruleL p).length : Int), ((ruleL p).length : Int), ruleL p, p, s, out, ())) (by omega)
    (fun i out hi ho => by
      have ha := add_one out (ruleL p)[i] (by omega)
      have hf := fun u => satisfies_impl hp h (hR _ (List.getElem_mem hi)) u
      constructor
      · unfold impl_ViolatedRules_L0
        simp only [lt_yes hi, if_true, getI_lt hi, some_bind', hf]
        rcases tf (failB p s (ruleL p)[i]) with h1 | h1 <;> simp [-Int.natCast_add, notB, h1, ha, idxN hi hl (show 400 ≤ 1099511627776 by omega)]
      · rcases tf (failB p s (ruleL p)[i]) with h1 | h1 <;> simp [h1] <;> omega)
    (fun out ho => by
      unfold impl_ViolatedRules_L0
      simp only [lt_no, Bool.false_eq_true, if_false])
    (a := []) (s := (0, ((ruleL p).length : Int), ruleL p, p, s, [], ())) rfl (Nat.le_refl _)).1
  simp only [h, notB_true, Bool.false_eq_true, if_false, if_true, rules_impl_eq, rules_spec _ _ hp h0, some_bind', lenI_eq, l0, foldl_filter, List.nil_append]
/-- is a schedule valid? -/
def okV (p : D_Project) (s : D_Schedule) : Bool := formB p s && eqZ (lenI (violL p s)) 0
theorem ScheduleOk_spec (p : D_Project) (s : D_Schedule) (u : Unit) (hp : Sm_Project 1099511627776 p) : spec_ScheduleOk (p, s, u) () = some (okV p s, ()) := by
  unfold spec_ScheduleOk okV
  simp only [ScheduleForm_spec _ _ _ hp, ViolatedRules_spec _ _ _ hp, some_bind']
  rcases tf (formB p s) with h | h <;> simp [h]
theorem ScheduleOk_impl (p : D_Project) (s : D_Schedule) (u : Unit) (hp : Sm_Project 1099511627776 p) : impl_ScheduleOk (p, s, u) () = some (okV p s, ()) := by
  unfold impl_ScheduleOk okV
  simp only [ScheduleForm_impl _ _ _ hp, ViolatedRules_impl _ _ _ hp, some_bind']
  rcases tf (formB p s) with h | h <;> simp [h]
theorem form_of_ok {p : D_Project} {s : D_Schedule} (h : okV p s = true) : formB p s = true := by
  unfold okV at h
  rw [Bool.and_eq_true] at h
  exact h.1
end Go.Proofs.YtjgmjljdhgfdhaaGreat
