/-
  Plain laws: does an activity fit into a plan? The same in the program and in the reference.
-/
import Derived.Test.YtafnhdfjcocpgaaGreatw3LPlan3
import Derived.Test.YtafnhdfjcocpgaaGreatw3LSetAdd
namespace Go.Proofs.YtafnhdfjcocpgaaGreat
open Go.Abs
set_option linter.unusedVariables false
set_option linter.unusedSimpArgs false

theorem setB_asc {l : List Int} (h : setB l = true) : Asc l := by
  have adj : ∀ j (hj : j + 1 < l.length), l[j] < l[j + 1] := fun j hj => by
    unfold setB at h
    have := List.all_eq_true.1 h (j + 1) (by simpa using hj)
    rw [show ordI l (j + 1) = (match l[j]?, l[j + 1]? with | some x, some y => notB (leZ y x) | _, _ => true) from rfl] at this
    rw [List.getElem?_eq_getElem (show j < l.length by omega), List.getElem?_eq_getElem hj] at this
    simp only [notB_not, Bool.not_eq_true', Bool.eq_false_iff, Ne, leZ_iff] at this
    omega
  refine List.pairwise_iff_getElem.2 fun i j hi hj hij => ?_
  induction j with
  | zero => omega
  | succ k ih =>
    by_cases e : i = k
    · subst e; exact adj i hj
    · exact Int.lt_trans (ih (by omega) (by omega)) (adj k hj)
theorem asc_len : ∀ (l : List Int) (lo : Int) (n : Nat), Asc l → (∀ x ∈ l, lo ≤ x ∧ x < lo + n) → l.length ≤ n
  | [], _, _, _, _ => by simp
  | x :: r, lo, n, h, hb => by
    have h1 := List.pairwise_cons.1 h
    have hx := hb x List.mem_cons_self
    have := asc_len r (lo + 1) (n - 1) h1.2 (fun y hy => by
      have a := h1.1 y hy
      have b := hb y (List.mem_cons_of_mem _ hy)
      omega)
    simp only [List.length_cons]
    omega
theorem plan_at {p : D_Project} {x : D_Plan} (h : planB p x = true) : formB p x.1 = true ∧ Asc x.2.1 ∧ actsIn p x.2.1 ∧ x.2.1.length ≤ 6 := by
  unfold planB at h
  simp only [Bool.and_eq_true] at h
  have hn := (proj_actsP (proj_of_form h.1.1)).2
  have ha : actsIn p x.2.1 := fun o ho => by
    have h2 := h.2
    unfold subB at h2
    have h3 := List.all_eq_true.1 h2 o ho
    unfold hasB at h3
    obtain ⟨y, hy, e⟩ := List.any_eq_true.1 h3
    rw [eqZ_dec, decide_eq_true_eq] at e
    subst e
    unfold iotaI at hy
    obtain ⟨i, hi, e⟩ := List.mem_map.1 hy
    exact ⟨i, e.symm, List.mem_range.1 hi⟩
  refine ⟨h.1.1, setB_asc h.1.2, ha, ?_⟩
  have := asc_len x.2.1 0 p.2.1.length (setB_asc h.1.2) (fun y hy => by
    obtain ⟨i, e, hi⟩ := ha y hy
    omega)
  omega
theorem hasB_not {l : List Int} {n : Int} (h : hasB l n = false) : n ∉ l := fun hm => by
  unfold hasB at h
  have := List.any_eq_false.1 h n hm
  rw [eqZ_dec] at this
  simp at this
theorem form_len {p : D_Project} {s : D_Schedule} (h : formB p s = true) : s.1.length = p.2.1.length ∧ s.2.1.length = p.2.1.length := by
  unfold formB at h
  simp only [Bool.and_eq_true] at h
  exact ⟨len_of_eqZ h.1.1.2, len_of_eqZ h.1.2⟩
def putS (s : D_Schedule) (a m t : Int) : D_Schedule := (setI s.1 a (fun _ => t), setI s.2.1 a (fun _ => m), ())
theorem form_put {p : D_Project} {s : D_Schedule} {a : Nat} {m t : Int} (h : formB p s = true) (haa : a < p.2.1.length) (ht : inB t 0 60 = true) (hm : inB m 0 (subZ .i64 (lenI p.2.1[a].2.2.1) 1) = true) : formB p (putS s (a : Int) m t) = true := by
  obtain ⟨n1, n2⟩ := form_len h
  unfold formB at h ⊢
  simp only [Bool.and_eq_true] at h ⊢
  unfold putS
  refine ⟨⟨⟨h.1.1.1, ?_⟩, ?_⟩, ?_⟩
  · simp only [lenI_eq, setI_length, n1, eqZ_self]
  · simp only [lenI_eq, setI_length, n2, eqZ_self]
  · refine List.all_eq_true.2 fun i hi => ?_
    have h4 := List.all_eq_true.1 h.2 i hi
    have hi' : i < p.2.1.length := List.mem_range.1 hi
    unfold formI at h4 ⊢
    rw [List.getElem?_eq_getElem hi', List.getElem?_eq_getElem (show i < s.1.length by omega), List.getElem?_eq_getElem (show i < s.2.1.length by omega)] at h4
    simp only [setI_nat, List.getElem?_modify]
    by_cases e : a = i
    · subst e
      simp only [if_true, List.getElem?_eq_getElem hi', List.getElem?_eq_getElem (show a < s.1.length by omega), List.getElem?_eq_getElem (show a < s.2.1.length by omega), Option.map_eq_map, Option.map_some, ht, hm, Bool.and_self]
    · simp only [if_neg e, List.getElem?_eq_getElem hi', List.getElem?_eq_getElem (show i < s.1.length by omega), List.getElem?_eq_getElem (show i < s.2.1.length by omega), Option.map_eq_map, Option.map_some, id, h4]
theorem cloneP (x : List Int) (u : Unit) (h : x.length ≤ 1048576) : slices_Clone_int_int (x, u) () = some (x, ()) := by
  unfold slices_Clone_int_int
  simp only [addNilR x h, some_bind']
def fitsV (p : D_Project) (s : D_Schedule) (d : List Int) (a : Nat) (m t : Int) : Bool := match spec_l09End (p, putS s (a : Int) m t, (a : Int), ()) () with
  | some e => leZ e.1 p.1 && holdsV p (putS s (a : Int) m t) (insV (a : Int) d) a
  | none => false
theorem acts_ins {p : D_Project} {d : List Int} {a : Nat} (ha : actsIn p d) (haa : a < p.2.1.length) : actsIn p (insV (a : Int) d) := fun o ho => by
  rcases insV_mem.1 ho with e | e
  · exact ⟨a, e, haa⟩
  · exact ha o e
theorem Fits_s (p : D_Project) (s : D_Schedule) (d : List Int) (a : Nat) (m t : Int) (u : Unit) (hp : Sm_Project 1099511627776 p) (h : formB p s = true) (hA : Asc d) (ha : actsIn p d) (hd : d.length ≤ 6) (hn : (a : Int) ∉ d) (haa : a < p.2.1.length) (ht : inB t 0 60 = true) (hm : inB m 0 (subZ .i64 (lenI p.2.1[a].2.2.1) 1) = true) :
    spec_l24Fits (p, (s, d, ()), (a : Int), m, t, u) () = some (fitsV p s d a m t, ()) := by
  have hf := form_put h haa ht hm
  have hn6 := (proj_actsP (proj_of_form h)).2
  obtain ⟨n1, n2⟩ := form_len h
  have hl : (insV (a : Int) d).length ≤ 1099511627776 := by rw [insV_length]; omega
  obtain ⟨x, e, md, g1, ge, gm, hee, hx0, hx6, hd1, hd2, -, -⟩ := run_atP hp hf haa
  have l1 := fun u => links_s p (putS s (a : Int) m t) (insV (a : Int) d) (a : Int) u hp hf hl
  have l2 := fun u => room_s p (putS s (a : Int) m t) (insV (a : Int) d) a u hp hf hl (acts_ins ha haa) haa
  have l3 := fun u => stocks_s p (putS s (a : Int) m t) (insV (a : Int) d) u hp hf hl (acts_ins ha haa)
  have c1 := addNilR s.1 (by omega)
  have c2 := addNilR s.2.1 (by omega)
  have c3 := addNilR d (by omega)
  unfold putS at l1 l2 l3 ge
  unfold spec_l24Fits spec_l24Copy spec_l09Copy fitsV holdsV putS
  simp only [c1, c2, c3, some_bind', getI_lt (show a < s.1.length by omega), getI_lt (show a < s.2.1.length by omega), SetAdd_s d (a : Int) _ (by omega) hA hn, ge, l1, l2, l3]
  rcases tf (leZ e p.1) with q0 | q0 <;> rcases tf (linksV p (setI s.1 (a : Int) (fun _ => t), setI s.2.1 (a : Int) (fun _ => m), ()) (insV (a : Int) d) (a : Int)) with q1 | q1 <;> rcases tf (roomV p (setI s.1 (a : Int) (fun _ => t), setI s.2.1 (a : Int) (fun _ => m), ()) (insV (a : Int) d) a) with q2 | q2 <;> simp [q0, q1, q2]
def okV24 (p : D_Project) (x : D_Plan) (a m : Int) : Bool := if planB p x = true then if inB a 0 (subZ .i64 (lenI p.2.1) 1) = true then if hasB x.2.1 a = true then false else (match getI p.2.1 a with | some ac => inB m 0 (subZ .i64 (lenI ac.2.2.1) 1) | none => false) else false else false
theorem l24Ok_s (p : D_Project) (x : D_Plan) (a m : Int) (u : Unit) (hp : Sm_Project 1099511627776 p) (hx : x.2.1.length ≤ 1099511627776) : spec_l24Ok (p, x, a, m, u) () = some (okV24 p x a m, ()) := by
  unfold okV24
  rcases tf (planB p x) with hP | hP
  · unfold spec_l24Ok
    simp [PlanOk_spec _ _ _ hp hx, hP]
  rcases tf (inB a 0 (subZ .i64 (lenI p.2.1) 1)) with hI | hI
  · unfold spec_l24Ok
    simp [PlanOk_spec _ _ _ hp hx, hP, l01In_eq, hI]
  rcases tf (hasB x.2.1 a) with hH | hH
  · obtain ⟨a, rfl, haa⟩ := inB_place hp.2.1.1 hI
    unfold spec_l24Ok
    simp [PlanOk_spec _ _ _ hp hx, hP, l01In_eq, hI, SetHas_spec _ _ _ hx, hH, notB, getI_lt haa]
  · unfold spec_l24Ok
    simp [PlanOk_spec _ _ _ hp hx, hP, l01In_eq, hI, SetHas_spec _ _ _ hx, hH, notB]
theorem PlanFits_no (p : D_Project) (x : D_Plan) (a m t : Int) (u : Unit) (hp : Sm_Project 1099511627776 p) (hx : x.2.1.length ≤ 1099511627776) (ho : okV24 p x a m = false) : impl_PlanFits (p, x, a, m, t, u) () = some (false, ()) := by
  unfold okV24 at ho
  rcases tf (planB p x) with hP | hP
  · unfold impl_PlanFits
    simp [PlanOk_impl _ _ _ hp hx, hP, notB]
  rcases tf (inB a 0 (subZ .i64 (lenI p.2.1) 1)) with hI | hI
  · unfold impl_PlanFits
    simp [PlanOk_impl _ _ _ hp hx, hP, notB, hasActivity_eq, hI]
  rcases tf (hasB x.2.1 a) with hH | hH
  · obtain ⟨a, rfl, haa⟩ := inB_place hp.2.1.1 hI
    simp only [hP, hI, hH, if_true, Bool.false_eq_true, if_false, getI_lt haa] at ho
    unfold impl_PlanFits
    simp [PlanOk_impl _ _ _ hp hx, hP, notB, hasActivity_eq, hI, SetHas_impl _ _ _ hx, hH, getI_lt haa, within_eq, ho]
  · unfold impl_PlanFits
    simp [PlanOk_impl _ _ _ hp hx, hP, notB, hasActivity_eq, hI, SetHas_impl _ _ _ hx, hH]
theorem PlanFits_yes (p : D_Project) (s : D_Schedule) (d : List Int) (a : Nat) (m t : Int) (u : Unit) (hp : Sm_Project 1099511627776 p) (hx : d.length ≤ 1099511627776) (hP : planB p (s, d, ()) = true) (haa : a < p.2.1.length) (hH : hasB d (a : Int) = false) (hM : inB m 0 (subZ .i64 (lenI p.2.1[a].2.2.1) 1) = true) :
    impl_PlanFits (p, (s, d, ()), (a : Int), m, t, u) () = some (inB t 0 60 && fitsV p s d a m t, ()) := by
  have hI : inB (a : Int) 0 (subZ .i64 (lenI p.2.1) 1) = true := inB_atP hp.2.1.1 haa
  rcases tf (inB t 0 60) with hT | hT
  · unfold impl_PlanFits
    simp [PlanOk_impl p (s, d, ()) _ hp hx, hP, notB, hasActivity_eq, hI, SetHas_impl _ _ _ hx, hH, getI_lt haa, within_eq, hM, isTime_eq, hT]
  obtain ⟨h, hA, ha, hd⟩ := plan_at hP
  have hn := hasB_not hH
  replace h : formB p s = true := h
  have hf := form_put h haa hT hM
  have hn6 := (proj_actsP (proj_of_form h)).2
  obtain ⟨n1, n2⟩ := form_len h
  have hd' : d.length ≤ 6 := hd
  have hn' : (a : Int) ∉ d := hn
  have hA' : Asc d := hA
  have hl : (insV (a : Int) d).length ≤ 1099511627776 := by rw [insV_length]; omega
  obtain ⟨mm, em, hmm⟩ := inB_place (hp.2.1.2 _ (List.getElem_mem haa)).2.2.1.1 hM
  have k1 : getI (putS s (a : Int) m t).1 (a : Int) = some t := getI_setI_eq (getI_lt (show a < s.1.length from n1 ▸ haa))
  have k2 : getI (putS s (a : Int) m t).2.1 (a : Int) = some (mm : Int) := by
    rw [← em]; exact getI_setI_eq (getI_lt (show a < s.2.1.length from n2 ▸ haa))
  have ge := end_eq (p := p) (s := putS s (a : Int) m t) () haa k1 k2 (getI_lt hmm)
  have l1 := fun u => holds_i p (putS s (a : Int) m t) (insV (a : Int) d) a u hp hf hl (acts_ins ha haa) haa
  have k3 : getI p.2.1[a].2.2.1 m = some p.2.1[a].2.2.1[mm] := by rw [em]; exact getI_lt hmm
  unfold putS at l1
  unfold impl_PlanFits impl_Plan_with impl_Plan_copied fitsV
  rw [ge]
  unfold putS
  simp only [PlanOk_impl p (s, d, ()) _ hp hx, hP, notB_true, hasActivity_eq, hI, SetHas_impl _ _ _ hx, hH, getI_lt haa, within_eq, hM, isTime_eq, hT, Bool.true_and, some_bind', Bool.false_eq_true, if_false, k3,
    cloneP s.1 _ (show s.1.length ≤ 1048576 by omega), cloneP s.2.1 _ (show s.2.1.length ≤ 1048576 by omega), cloneP d _ (show d.length ≤ 1048576 by omega), SetAdd_i d (a : Int) _ (show d.length ≤ 11 by omega) hA' hn',
    getI_lt (show a < s.1.length by omega), getI_lt (show a < s.2.1.length by omega), l1]
  have q : ltZ p.1 (addZ .i64 t p.2.1[a].2.2.1[mm].1) = notB (leZ (addZ .i64 t p.2.1[a].2.2.1[mm].1) p.1) := by
    rw [← notB_ltZP]; cases ltZ p.1 (addZ .i64 t p.2.1[a].2.2.1[mm].1) <;> rfl
  rw [q]
  rcases tf (leZ (addZ .i64 t p.2.1[a].2.2.1[mm].1) p.1) with q0 | q0 <;> simp [q0, notB]
theorem fits_late {p : D_Project} {s : D_Schedule} {d : List Int} {a : Nat} {m t : Int} (hp : Sm_Project 1099511627776 p) (h : formB p s = true) (haa : a < p.2.1.length) (ht : inB t 0 60 = true) (hm : inB m 0 (subZ .i64 (lenI p.2.1[a].2.2.1) 1) = true) (hl : p.1 ≤ t) : fitsV p s d a m t = false := by
  have hf := form_put h haa ht hm
  have hn6 := (proj_actsP (proj_of_form h)).2
  obtain ⟨n1, n2⟩ := form_len h
  obtain ⟨x, e, md, g1, ge, gm, hee, hx0, hx6, hd1, hd2, -, -⟩ := run_atP hp hf haa
  have k1 : getI (putS s (a : Int) m t).1 (a : Int) = some t := getI_setI_eq (getI_lt (show a < s.1.length from n1 ▸ haa))
  rw [k1] at g1
  have hxt : t = x := Option.some.inj g1
  have q : leZ e p.1 = false := by
    rw [Bool.eq_false_iff, Ne, leZ_iff, hee, addZ64 (by omega) (by omega)]; omega
  unfold fitsV
  simp only [ge, q, Bool.false_and]
theorem first_loop {σ B C : Type} {F : σ → Option (Out σ B C)} (emb : Nat → σ) (n : Nat) (q : Nat → Bool) (r : Nat → C) (b : B) (hn : n ≤ 1099511627776)
    (ht : ∀ i, i < n → F (emb i) = some (if q i = true then .ret (r i) else .norm (emb (i + 1)))) (he : F (emb n) = some (.exit b)) :
    (∃ k, k < n ∧ q k = true ∧ (∀ j, j < k → q j = false) ∧ ∀ A : Type, loopN (A := A) big F (emb 0) = some (.ret (r k))) ∨ ((∀ j, j < n → q j = false) ∧ ∀ A : Type, loopN (A := A) big F (emb 0) = some (.exit b)) := by
  by_cases hk : ∃ k, k < n ∧ q k = true ∧ ∀ j, j < k → q j = false
  · obtain ⟨k, hk, h1, h2⟩ := hk
    refine .inl ⟨k, hk, h1, h2, fun A => ?_⟩
    obtain ⟨o, ho, e⟩ := loopN_count (A := A) (F := F) n (fun i s => s = emb i ∧ i ≤ k) (fun o => o = .ret (r k)) (fun i s hi hI => by
      obtain ⟨rfl, hik⟩ := hI
      have hin : i < n := by omega
      refine ⟨_, ht i hin, ?_⟩
      by_cases e : i = k
      · subst e
        simp only [h1, if_true]
      · simp only [h2 i (by omega), Bool.false_eq_true, if_false]
        exact ⟨hin, trivial, by omega⟩) (s := emb 0) ⟨rfl, by omega⟩ (lt_bigN hn)
    rw [ho, e]
  · have hall : ∀ i, i ≤ n → ∀ j, j < i → q j = false := fun i => by
      induction i with
      | zero => intro _ j hj; omega
      | succ i ih =>
        intro hi j hj
        have := ih (by omega)
        by_cases e : j = i
        · subst e
          rcases tf (q j) with h | h
          · exact h
          · exact absurd ⟨j, by omega, h, this⟩ hk
        · exact this j (by omega)
    refine .inr ⟨hall n (Nat.le_refl _), fun A => ?_⟩
    obtain ⟨o, ho, e⟩ := loopN_count (A := A) (F := F) n (fun i s => s = emb i) (fun o => o = .exit b) (fun i s hi hI => by
      subst hI
      by_cases e : i = n
      · subst e
        exact ⟨_, he, rfl⟩
      · have hin : i < n := by omega
        refine ⟨_, ht i hin, ?_⟩
        simp only [hall n (Nat.le_refl _) i hin, Bool.false_eq_true, if_false]
        exact ⟨hin, trivial⟩) (s := emb 0) rfl (lt_bigN hn)
    rw [ho, e]
end Go.Proofs.YtafnhdfjcocpgaaGreat
