/-
  Plain laws: copies of a domain, a domain cut down by a literal, in the program and in the reference. Conditions: no list is longer than 2 to the 20; for the reference the lists of modes have no element twice.
-/
import Derived.Test.YtjgmjljdhgfdhaaGreatj4LProjM
import Derived.Test.YtjgmjljdhgfdhaaGreatj4LSetM
namespace Go.Proofs.YtjgmjljdhgfdhaaGreat
open Go.Abs
set_option linter.unusedVariables false
set_option linter.unusedSimpArgs false

theorem big_two : ∃ n, big = n + 1 + 1 := ⟨18446744073709551614, rfl⟩
theorem loop_exit1 {σ A B C : Type} {F : σ → Option (Out σ B C)} {s : σ} {b : B} (h : F s = some (.exit b)) : loopN (A := A) big F s = some (.exit b) := by
  obtain ⟨n, hn⟩ := big_two
  rw [hn]
  simp only [loopN, h]
  rfl
theorem loop_exit2 {σ A B C : Type} {F : σ → Option (Out σ B C)} {s s' : σ} {b : B} (h : F s = some (.norm s')) (h' : F s' = some (.exit b)) : loopN (A := A) big F s = some (.exit b) := by
  obtain ⟨n, hn⟩ := big_two
  rw [hn]
  simp only [loopN, h, h', Option.bind_some]
theorem cloneR (x : List Int) (u : Unit) (h : x.length ≤ 1048576) : slices_Clone_int_int (x, u) () = some (x, ()) := by
  unfold slices_Clone_int_int
  simp only [addNilR _ h, some_bind']
theorem dcopy_s (b : D_Domain) (u : Unit) (h : Sm_Domain 1048576 b) : spec_l12Copy (b, u) () = some (b, ()) := by
  obtain ⟨⟨h1, -⟩, ⟨h2, -⟩, ⟨h3, hm⟩, -⟩ := h
  have l0 := fun A : Type => (fold_list (A := A) (F := spec_l12Copy_L0) (fun i out => ((i : Int), lenI b.2.2.1, b.2.2.1, (b.1, b.2.1, out, ()), ([], [], [], ()), ())) b.2.2.1 (fun i out => out.length = i) (fun out m => out ++ [m]) (fun out => Sum.inl (false, lenI b.2.2.1, lenI b.2.2.1, b.2.2.1, (b.1, b.2.1, out, ()), ([], [], [], ()), ())) (by omega)
    (fun i out hi ho => by
      have hlt : ltZ (i : Int) (lenI b.2.2.1) = true := lt_yes hi
      refine ⟨?_, by simp [ho]⟩
      unfold spec_l12Copy_L0
      simp only [hlt, if_true, getI_lt hi, some_bind', addNilR _ (hm _ (List.getElem_mem hi)).1, addOneR out _ (show out.length ≤ 1048576 by omega), idxN hi (show b.2.2.1.length ≤ 1099511627776 by omega) (Nat.le_refl _)])
    (fun out ho => by
      have hlt : ltZ (b.2.2.1.length : Int) (lenI b.2.2.1) = false := lt_no _
      unfold spec_l12Copy_L0
      simp only [hlt, Bool.false_eq_true, if_false]
      rfl)
    (a := []) (s := (0, lenI b.2.2.1, b.2.2.1, (b.1, b.2.1, [], ()), ([], [], [], ()), ())) rfl rfl).1
  unfold spec_l12Copy
  simp only [addNilR _ h1, addNilR _ h2, l0, some_bind', foldl_append, List.nil_append]
theorem dcopy_i (b : D_Domain) (u : Unit) (h : Sm_Domain 1048576 b) : impl_Domain_copied (b, u) () = some (b, ()) := by
  obtain ⟨⟨h1, -⟩, ⟨h2, -⟩, ⟨h3, hm⟩, -⟩ := h
  have l0 := fun A : Type => (fold_list (A := A) (F := impl_Domain_copied_L0) (fun i out => ((i : Int), lenI b.2.2.1, b.2.2.1, (b.1, b.2.1, out, ()), ([], [], [], ()), ())) b.2.2.1 (fun i out => out.length = i) (fun out m => out ++ [m]) (fun out => Sum.inl (false, lenI b.2.2.1, lenI b.2.2.1, b.2.2.1, (b.1, b.2.1, out, ()), ([], [], [], ()), ())) (by omega)
    (fun i out hi ho => by
      have hlt : ltZ (i : Int) (lenI b.2.2.1) = true := lt_yes hi
      have hc := fun u => cloneR _ u (hm _ (List.getElem_mem hi)).1
      refine ⟨?_, by simp [ho]⟩
      unfold impl_Domain_copied_L0
      simp only [hlt, if_true, getI_lt hi, some_bind', hc, addOneR out _ (show out.length ≤ 1048576 by omega), idxN hi (show b.2.2.1.length ≤ 1099511627776 by omega) (Nat.le_refl _)])
    (fun out ho => by
      have hlt : ltZ (b.2.2.1.length : Int) (lenI b.2.2.1) = false := lt_no _
      unfold impl_Domain_copied_L0
      simp only [hlt, Bool.false_eq_true, if_false]
      rfl)
    (a := []) (s := (0, lenI b.2.2.1, b.2.2.1, (b.1, b.2.1, [], ()), ([], [], [], ()), ())) rfl rfl).1
  unfold impl_Domain_copied
  simp only [cloneR _ _ h1, cloneR _ _ h2, l0, some_bind', foldl_append, List.nil_append]

def placeB {α : Type} (l : List α) (a : Int) : Bool := leZ 0 a && ltZ a (lenI l)
def hasV (b : D_Domain) (a : Int) : Bool := placeB b.1 a && placeB b.2.1 a && placeB b.2.2.1 a
theorem inB_placeB {α : Type} {l : List α} (h : l.length ≤ 1099511627776) (a : Int) : inB a 0 (subZ .i64 (lenI l) 1) = placeB l a := by
  rw [lenI_sub _ h]
  unfold placeB
  rw [leZ_dec, ltZ_dec, lenI_eq, Bool.eq_iff_iff, inB_iff, Bool.and_eq_true, decide_eq_true_eq, decide_eq_true_eq]
  omega
theorem There_s (b : D_Domain) (a : Int) (u : Unit) (h : Sm_Domain 1099511627776 b) : spec_l12There (b, a, u) () = some (hasV b a, ()) := by
  unfold spec_l12There hasV
  simp only [l01In_eq, some_bind', inB_placeB h.1.1, inB_placeB h.2.1.1, inB_placeB h.2.2.1.1]
  rcases tf (placeB b.1 a) with q | q <;> rcases tf (placeB b.2.1 a) with q' | q' <;> simp [q, q']
theorem has_i (b : D_Domain) (a : Int) (u : Unit) : impl_Domain_has (b, a, u) () = some (hasV b a, ()) := by
  unfold impl_Domain_has hasV placeB
  rcases tf (leZ 0 a) with q | q <;> rcases tf (ltZ a (lenI b.1)) with q1 | q1 <;> rcases tf (ltZ a (lenI b.2.1)) with q2 | q2 <;> simp [q, q1, q2]
theorem hasV_at {b : D_Domain} {a : Int} (h : hasV b a = true) : ∃ i : Nat, a = (i : Int) ∧ i < b.1.length ∧ i < b.2.1.length ∧ i < b.2.2.1.length := by
  unfold hasV placeB at h
  simp only [Bool.and_eq_true, leZ_dec, ltZ_dec, lenI_eq, decide_eq_true_eq] at h
  exact ⟨a.toNat, by omega, by omega, by omega, by omega⟩

def clampV (n : Int) : Int := minI (maxI n (-2)) 62
theorem clamped_i (n : Int) (u : Unit) : impl_clamped (n, u) () = some (clampV n, ()) := rfl
theorem clamped_s (n : Int) (u : Unit) : spec_l12Brought (n, u) () = some (clampV n, ()) := by
  unfold spec_l12Brought spec_l02Min spec_l02Max clampV minI maxI
  simp only [ltZ_dec, decide_eq_true_eq]
  by_cases h1 : (62 : Int) < n
  · have h2 : ¬ (62 : Int) < -2 := by omega
    have h3 : ¬ (-2 : Int) > n := by omega
    have h4 : (62 : Int) < n := h1
    simp [h1, h2, h3]
  · by_cases h2 : n < -2
    · have h3 : ¬ (62 : Int) < -2 := by omega
      simp [h1, h2, h3]
    · simp [h1, h2]
theorem l02Max_s (x y : Int) (u : Unit) : spec_l02Max (x, y, u) () = some (maxI x y, ()) := by
  unfold spec_l02Max maxI
  simp only [ltZ_dec, decide_eq_true_eq]
  by_cases h1 : y < x
  · have h2 : ¬ y > x := by omega
    simp [h1, h2]
  · by_cases h2 : y > x
    · simp [h1, h2]
    · have : x = y := by omega
      simp [h1, h2, this]
theorem l02Min_s (x y : Int) (u : Unit) : spec_l02Min (x, y, u) () = some (minI x y, ()) := by
  unfold spec_l02Min minI
  simp only [ltZ_dec, decide_eq_true_eq]
  by_cases h1 : x < y
  · have h2 : ¬ y < x := by omega
    simp [h1, h2]
  · by_cases h2 : y < x
    · simp [h1, h2]
    · have : x = y := by omega
      simp [h1, h2, this]

theorem keptV (l : List Int) (f : (Int × Unit) → Option Bool) (q : Int → Bool) (u : Unit) (hl : l.length ≤ 1048576) (hf : ∀ a ∈ l, f (a, ()) = some (q a)) : impl_kept (l, f, u) () = some (l.filter q, ()) := by
  unfold impl_kept
  simp only [lenI_eq]
  have l0 := fun A : Type => (fold_list (A := A) (B := (Bool × Int × Int × List Int × ((Int × Unit) → Option Bool) × List Int × Unit) ⊕ Empty) (C := List Int × Unit) (F := impl_kept_L0) (fun i out => ((i : Int), (l.length : Int), l, f, out, ())) l (fun i out => out.length ≤ i) (fun out x => if q x = true then out ++ [x] else out) (fun out => Sum.inl (false, (l.length : Int), (l.length : Int), l, f, out, ())) (by omega)
    (fun i out hi ho => by
      have ha : addI out [l[i]] = some (out ++ [l[i]]) := addI_ok (by rw [room_eq]; simp; omega)
      constructor
      · unfold impl_kept_L0
        simp only [lt_yes hi, if_true, getI_lt hi, some_bind', hf _ (List.getElem_mem hi)]
        rcases tf (q l[i]) with h | h <;> simp [-Int.natCast_add, h, ha, idxN hi (show l.length ≤ 1099511627776 by omega) (Nat.le_refl _)]
      · rcases tf (q l[i]) with h | h <;> simp [h] <;> omega)
    (fun out ho => by
      unfold impl_kept_L0
      simp only [lt_no, Bool.false_eq_true, if_false])
    (a := []) (s := (0, (l.length : Int), l, f, [], ())) rfl (Nat.le_refl _)).1
  simp only [l0, some_bind', foldl_filter, List.nil_append]
theorem SetRemove_s (l : List Int) (n : Int) (u : Unit) (hl : l.length ≤ 1048576) : spec_SetRemove (l, n, u) () = some (l.filter (fun x => notB (eqZ x n)), ()) := by
  unfold spec_SetRemove
  simp only [lenI_eq]
  have l0 := fun A : Type => (fold_list (A := A) (B := (Bool × Int × Int × List Int × Int × List Int × Unit) ⊕ Empty) (C := List Int × Unit) (F := spec_SetRemove_L0) (fun i out => ((i : Int), (l.length : Int), l, n, out, ())) l (fun i out => out.length ≤ i) (fun out x => if (notB (eqZ x n)) = true then out ++ [x] else out) (fun out => Sum.inl (false, (l.length : Int), (l.length : Int), l, n, out, ())) (by omega)
    (fun i out hi ho => by
      have ha : addI out [l[i]] = some (out ++ [l[i]]) := addI_ok (by rw [room_eq]; simp; omega)
      constructor
      · unfold spec_SetRemove_L0
        simp only [lt_yes hi, if_true, getI_lt hi, some_bind']
        rcases tf (notB (eqZ l[i] n)) with h | h <;> simp [-Int.natCast_add, h, ha, idxN hi (show l.length ≤ 1099511627776 by omega) (Nat.le_refl _)]
      · rcases tf (notB (eqZ l[i] n)) with h | h <;> simp [h] <;> omega)
    (fun out ho => by
      unfold spec_SetRemove_L0
      simp only [lt_no, Bool.false_eq_true, if_false])
    (a := []) (s := (0, (l.length : Int), l, n, [], ())) rfl (Nat.le_refl _)).1
  have e := foldl_filter (fun x => notB (eqZ x n)) l []
  simp only [l0, some_bind', e, List.nil_append]
theorem SetRemove_i (l : List Int) (n : Int) (u : Unit) (hl : l.length ≤ 1048576) : impl_SetRemove (l, n, u) () = some (l.filter (fun x => notB (eqZ x n)), ()) := by
  unfold impl_SetRemove
  rw [keptV l _ (fun x => notB (eqZ x n)) () hl (fun a _ => rfl)]
  rfl
theorem put_nil (v : Int) (u : Unit) : spec_l02Put ([], v, u) () = some ([v], ()) := by
  have h := fun u => SetHasR_spec [] v u (by simp)
  have l0 := fun A : Type => loop_exit1 (A := A) (F := spec_l02Put_L0) (s := (v, [], 0, ())) (b := Sum.inl (false, v, [], 0, ())) rfl
  unfold spec_l02Put
  simp only [h, some_bind', hasR, List.any_nil, Bool.false_eq_true, if_false, l0]
  rfl
theorem SetOf_one (v : Int) (u : Unit) : spec_SetOf ([v], u) () = some ([v], ()) := by
  have h := fun u => put_nil v u
  have l0 := fun A : Type => loop_exit2 (A := A) (F := spec_SetOf_L0) (s := (0, lenI [v], [v], [], ())) (s' := (1, lenI [v], [v], [v], ())) (b := Sum.inl (false, 1, lenI [v], [v], [v], ())) (by
    unfold spec_SetOf_L0
    have e1 : ltZ 0 (lenI [v]) = true := rfl
    have e2 : getI [v] 0 = some v := rfl
    simp only [e1, e2, if_true, some_bind', h]
    rfl) rfl
  unfold spec_SetOf
  simp only [l0, some_bind']
theorem SetOf_nil (u : Unit) : spec_SetOf ([], u) () = some ([], ()) := by
  have l0 := fun A : Type => loop_exit1 (A := A) (F := spec_SetOf_L0) (s := (0, lenI ([] : List Int), [], [], ())) (b := Sum.inl (false, 0, lenI ([] : List Int), [], [], ())) rfl
  unfold spec_SetOf
  simp only [l0, some_bind']
theorem Inter_one (v : Int) (m : List Int) (u : Unit) (hm : m.length ≤ 1099511627776) : spec_SetIntersection ([v], m, u) () = some (if hasR m v = true then [v] else [], ()) := by
  have h := fun u => SetHasR_spec m v u hm
  have e1 : ltZ 0 (lenI [v]) = true := rfl
  have e2 : getI [v] 0 = some v := rfl
  have e3 : addI ([] : List Int) [v] = some [v] := rfl
  unfold spec_SetIntersection
  rcases tf (hasR m v) with q | q
  · have l0 := fun A : Type => loop_exit2 (A := A) (F := spec_SetIntersection_L0) (s := (0, lenI [v], [v], m, [], ())) (s' := (1, lenI [v], [v], m, [], ())) (b := Sum.inl (false, 1, lenI [v], [v], m, [], ())) (by
      unfold spec_SetIntersection_L0
      simp only [e1, e2, if_true, some_bind', h, q, Bool.false_eq_true, if_false]
      rfl) rfl
    simp only [l0, some_bind', SetOf_nil, q, Bool.false_eq_true, if_false]
  · have l0 := fun A : Type => loop_exit2 (A := A) (F := spec_SetIntersection_L0) (s := (0, lenI [v], [v], m, [], ())) (s' := (1, lenI [v], [v], m, [v], ())) (b := Sum.inl (false, 1, lenI [v], [v], m, [v], ())) (by
      unfold spec_SetIntersection_L0
      simp only [e1, e2, e3, if_true, some_bind', h, q]
      rfl) rfl
    simp only [l0, some_bind', SetOf_one, q, if_true]
theorem filter_one {m : List Int} (hm : m.Nodup) (v : Int) : m.filter (fun n => eqZ n v) = if hasR m v = true then [v] else [] := by
  induction m with
  | nil => rfl
  | cons a m ih =>
    obtain ⟨h1, h2⟩ := List.nodup_cons.1 hm
    have ih := ih h2
    unfold hasR at ih ⊢
    simp only [List.filter_cons, List.any_cons]
    by_cases e : a = v
    · subst e
      have hn : m.filter (fun n => eqZ n a) = [] := List.filter_eq_nil_iff.2 fun x hx => by
        rw [eqZ_dec]; simp; intro e; exact h1 (e ▸ hx)
      simp only [eqZ_self, hn, if_true, Bool.true_or]
    · simp only [eqZ_ne e, Bool.false_eq_true, if_false, Bool.false_or]
      exact ih
/-- a domain cut down by a literal -/
def restV (b : D_Domain) (l : D_Literal) : D_Domain :=
  if hasV b l.2.1 = true then
    (if eqZ l.1 1 = true then (setI b.1 l.2.1 (fun x => maxI x (clampV l.2.2.1)), b.2.1, b.2.2.1, ())
    else if eqZ l.1 2 = true then (b.1, setI b.2.1 l.2.1 (fun x => minI x (clampV l.2.2.1)), b.2.2.1, ())
    else if eqZ l.1 3 = true then (b.1, b.2.1, setI b.2.2.1 l.2.1 (fun m => m.filter fun n => eqZ n (clampV l.2.2.1)), ())
    else if eqZ l.1 4 = true then (b.1, b.2.1, setI b.2.2.1 l.2.1 (fun m => m.filter fun n => notB (eqZ n (clampV l.2.2.1))), ())
    else b)
  else b
theorem Restrict_impl (b : D_Domain) (l : D_Literal) (u : Unit) (hb : Sm_Domain 1048576 b) : impl_Restrict (b, l, u) () = some (restV b l, ()) := by
  obtain ⟨k, a, n, u'⟩ := l
  unfold impl_Restrict restV
  simp only [dcopy_i _ _ hb, has_i, clamped_i, some_bind']
  rcases tf (hasV b a) with h | h
  · simp only [h, notB_false, if_true, Bool.false_eq_true, if_false]
  obtain ⟨i, rfl, h1, h2, h3⟩ := hasV_at h
  have hm := (hb.2.2.1.2 _ (List.getElem_mem h3)).1
  have kk := keptV b.2.2.1[i] (fun v32 => Option.bind (impl_Restrict_1 v32 (clampV n, ())) fun v33 => some v33.1) (fun x => eqZ x (clampV n)) () hm (fun a _ => rfl)
  have kr := fun u => SetRemove_i b.2.2.1[i] (clampV n) u hm
  simp only [h, notB_true, Bool.false_eq_true, if_false, if_true]
  rcases tf (eqZ k 1) with q1 | q1
  · rcases tf (eqZ k 2) with q2 | q2
    · rcases tf (eqZ k 3) with q3 | q3
      · rcases tf (eqZ k 4) with q4 | q4
        · simp only [q1, q2, q3, q4, Bool.false_eq_true, if_false, some_bind']
        · simp only [q1, q2, q3, q4, Bool.false_eq_true, if_false, if_true, getI_lt h3, some_bind', kr, setI_const (getI_lt h3)]
      · simp only [q1, q2, q3, Bool.false_eq_true, if_false, if_true, getI_lt h3, some_bind', kk, setI_const (getI_lt h3)]
    · simp only [q1, q2, Bool.false_eq_true, if_false, if_true, getI_lt h2, some_bind', setI_const (getI_lt h2)]
  · simp only [q1, if_true, getI_lt h1, some_bind', setI_const (getI_lt h1)]
theorem Restrict_spec (b : D_Domain) (l : D_Literal) (u : Unit) (hb : Sm_Domain 1048576 b) (hn : ∀ m ∈ b.2.2.1, m.Nodup) : spec_Restrict (b, l, u) () = some (restV b l, ()) := by
  obtain ⟨k, a, n, u'⟩ := l
  have hb' := smm_Domain (B' := 1099511627776) (by omega) b hb
  unfold spec_Restrict restV
  simp only [dcopy_s _ _ hb, There_s _ _ _ hb', clamped_s, some_bind']
  rcases tf (hasV b a) with h | h
  · simp only [h, notB_false, if_true, Bool.false_eq_true, if_false]
  obtain ⟨i, rfl, h1, h2, h3⟩ := hasV_at h
  have hm := (hb.2.2.1.2 _ (List.getElem_mem h3)).1
  have kk := fun u => Inter_one (clampV n) b.2.2.1[i] u (by omega)
  have kr := fun u => SetRemove_s b.2.2.1[i] (clampV n) u hm
  have hf := filter_one (hn _ (List.getElem_mem h3)) (clampV n)
  simp only [h, notB_true, Bool.false_eq_true, if_false, if_true]
  rcases tf (eqZ k 1) with q1 | q1
  · rcases tf (eqZ k 2) with q2 | q2
    · rcases tf (eqZ k 3) with q3 | q3
      · rcases tf (eqZ k 4) with q4 | q4
        · simp only [q1, q2, q3, q4, Bool.false_eq_true, if_false, some_bind']
        · simp only [q1, q2, q3, q4, Bool.false_eq_true, if_false, if_true, getI_lt h3, some_bind', kr, setI_const (getI_lt h3)]
      · simp only [q1, q2, q3, Bool.false_eq_true, if_false, if_true, getI_lt h3, some_bind', kk, setI_const (getI_lt h3), hf]
    · simp only [q1, q2, Bool.false_eq_true, if_false, if_true, getI_lt h2, some_bind', l02Min_s, setI_const (getI_lt h2)]
  · simp only [q1, if_true, getI_lt h1, some_bind', l02Max_s, setI_const (getI_lt h1)]
end Go.Proofs.YtjgmjljdhgfdhaaGreat
