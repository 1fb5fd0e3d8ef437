/-
  Plain laws: which activities run at a time, and what they use, in the program and in the reference. Condition: no list is longer than 2 to the 40.
-/
import Derived.Test.YtjgmjljdhgfdhaaGreatj3LForm
import Derived.Test.YtjgmjljdhgfdhaaGreatN35
namespace Go.Proofs.YtjgmjljdhgfdhaaGreat
open Go.Abs
set_option linter.unusedVariables false
set_option linter.unusedSimpArgs false

theorem kept_eq (l : List Int) (f : (Int × Unit) → Option Bool) (q : Int → Bool) (u : Unit) (hl : l.length ≤ 1048576) (hf : ∀ a ∈ l, f (a, ()) = some (q a)) : impl_kept (l, f, u) () = some (l.filter q, ()) := by
  unfold impl_kept
  simp only [lenI_eq]
  have l0 := fun A : Type => (fold_list (A := A) (B := (Bool × Int × Int × List Int × ((Int × Unit) → Option Bool) × List Int × Unit) ⊕ Empty) (C := List Int × Unit) (F := impl_kept_L0) (fun i out => ((i : Int), (l.length : Int), l, f, out, ())) l (fun i out => out.length ≤ i) (fun out x => if q x = true then out ++ [x] else out) (fun out => Sum.inl (false, (l.length : Int), (l.length : Int), l, f, out, ())) (by omega)
    (fun i out hi ho => by
      have ha : addI out [l[i]] = some (out ++ [l[i]]) := addI_ok (by rw [room_eq]; simp; omega)
      constructor
      · unfold impl_kept_L0
        simp only [lt_yes hi, if_true, getI_lt hi, some_bind', hf _ (List.getElem_mem hi)]
        rcases tf (q l[i]) with h | h <;> simp [-Int.natCast_add, h, ha, idxN hi (show l.length ≤ 1099511627776 by omega) (Nat.le_refl _)]
      · rcases tf (q l[i]) with h | h <;> simp [h] <;> omega)
    (fun out ho => by
      unfold impl_kept_L0
      simp only [lt_no, Bool.false_eq_true, if_false])
    (a := []) (s := (0, (l.length : Int), l, f, [], ())) rfl (Nat.le_refl _)).1
  simp only [l0, some_bind', foldl_filter, List.nil_append]
theorem IntRange_impl (n : Nat) (u : Unit) (hn : n ≤ 200) : impl_IntRange ((n : Int), u) () = some (iotaI n, ()) := by
  unfold impl_IntRange
  have hw : inB (n : Int) 0 200 = true := inB_iff.2 ⟨by omega, by omega⟩
  simp only [within_eq, some_bind', hw, notB_true, Bool.false_eq_true, if_false]
  have l0 := fun A : Type => (fold_loop (A := A) (B := (Bool × Int × Int × List Int × Unit) ⊕ Empty) (C := List Int × Unit) (F := impl_IntRange_L0) (fun i out => ((i : Int), (n : Int), out, ())) n (fun i out => out.length = i) (fun i out => out ++ [(i : Int)]) (fun out => Sum.inl (false, (n : Int), (n : Int), out, ())) (by omega)
    (fun i out hi ho => by
      have ha : addI out [(i : Int)] = some (out ++ [(i : Int)]) := addI_ok (by rw [room_eq]; simp; omega)
      constructor
      · unfold impl_IntRange_L0
        simp only [lt_yes hi, if_true, ha, some_bind', idxN hi (show n ≤ 1099511627776 by omega) (Nat.le_refl _)]
      · simp [ho])
    (fun out ho => by
      unfold impl_IntRange_L0
      simp only [lt_no, Bool.false_eq_true, if_false])
    (a := []) rfl).1
  have e0 : (((0 : Nat) : Int), (n : Int), ([] : List Int), ()) = ((0 : Int), (n : Int), ([] : List Int), ()) := rfl
  rw [e0] at l0
  have e1 := foldN_iota (fun (out : List Int) (x : Int) => out ++ [x]) n []
  simp only [l0, some_bind', e1, foldl_append, List.nil_append]

/-- Does an activity run at a time? -/
def runB (p : D_Project) (s : D_Schedule) (t a : Int) : Bool := match getI s.1 a, spec_l09End (p, s, a, ()) () with
  | some x, some e => leZ x t && ltZ t e.1
  | _, _ => false
def runL (p : D_Project) (s : D_Schedule) (t : Int) : List Int := (iotaI p.2.1.length).filter (runB p s t)
/-- what an activity uses -/
def useOf (p : D_Project) (s : D_Schedule) (res a : Int) : Int := match spec_l09Mode (p, s, a, ()) () with
  | some m => (getI m.1.2.1 res).getD 0
  | none => 0
def useV (p : D_Project) (s : D_Schedule) (res t : Int) : Int := (runL p s t).foldl (fun n a => addZ .i64 n (useOf p s res a)) 0
theorem proj_acts {p : D_Project} (h : projB p = true) : 1 ≤ p.2.1.length ∧ p.2.1.length ≤ 6 := by
  unfold projB at h
  simp only [Bool.and_eq_true] at h
  have := inB_iff.1 h.1.1.1.1.1.1.1.2
  rw [lenI_eq] at this
  omega
theorem mode_eq {p : D_Project} {s : D_Schedule} {i m : Nat} {md : D_Mode} (u : Unit) (hi : i < p.2.1.length) (h2 : getI s.2.1 (i : Int) = some (m : Int)) (h3 : getI p.2.1[i].2.2.1 (m : Int) = some md) :
    spec_l09Mode (p, s, (i : Int), u) () = some (md, ()) := by
  unfold spec_l09Mode
  simp only [getI_lt hi, h2, h3, some_bind']
/-- what is known of an activity in a schedule of the right form -/
theorem run_at {p : D_Project} {s : D_Schedule} (hp : Sm_Project 1099511627776 p) (h : formB p s = true) {i : Nat} (hi : i < p.2.1.length) :
    ∃ (x e : Int) (md : D_Mode), getI s.1 (i : Int) = some x ∧ (∀ u, spec_l09End (p, s, (i : Int), u) () = some (e, ())) ∧ (∀ u, spec_l09Mode (p, s, (i : Int), u) () = some (md, ())) ∧ e = addZ .i64 x md.1 ∧ 0 ≤ x ∧ x ≤ 60 ∧ 1 ≤ md.1 ∧ md.1 ≤ 12 ∧
      (∀ t, runB p s t (i : Int) = (leZ x t && ltZ t e)) ∧ ∀ j : Nat, j < p.2.2.2.1.length → getI md.2.1 (j : Int) = some (useOf p s (j : Int) (i : Int)) := by
  obtain ⟨t, m, md, g1, g2, g3, hm, h0, h6, hmb, -⟩ := form_at hp h hi
  have ge := fun u => end_eq (p := p) (s := s) u hi g1 g2 g3
  have gm := fun u => mode_eq (p := p) (s := s) u hi g2 g3
  unfold modeB at hmb
  simp only [Bool.and_eq_true] at hmb
  have hd := inB_iff.1 hmb.1.1
  refine ⟨t, _, md, g1, ge, gm, rfl, h0, h6, hd.1, hd.2, fun t' => ?_, fun j hj => ?_⟩
  · unfold runB
    simp only [g1, ge]
  · have hlen := hmb.1.2.2
    rw [eqZ_dec, decide_eq_true_eq, lenI_eq] at hlen
    have hj' : j < md.2.1.length := by omega
    unfold useOf
    simp only [gm, getI_lt hj', Option.getD_some]
theorem running_impl (p : D_Project) (s : D_Schedule) (t : Int) (u : Unit) (hp : Sm_Project 1099511627776 p) (h : formB p s = true) : impl_Project_running (p, s, t, u) () = some (runL p s t, ()) := by
  obtain ⟨n1, n2⟩ := proj_acts (proj_of_form h)
  unfold impl_Project_running runL
  simp only [lenI_eq, IntRange_impl _ _ (show p.2.1.length ≤ 200 by omega), some_bind']
  rw [kept_eq (iotaI p.2.1.length) _ (runB p s t) () (by rw [iotaI_length]; omega) (fun a ha => by
    obtain ⟨i, rfl, hi⟩ := iotaI_mem ha
    obtain ⟨x, e, md, g1, ge, -, -, -, -, -, -, gr, -⟩ := run_at hp h hi
    unfold impl_Project_running_1
    simp only [g1, some_bind', end_impl, ge, gr]
    rcases tf (leZ x t) with h1 | h1 <;> simp [h1, end_impl, ge])]
  rfl
theorem runL_mem {p : D_Project} {s : D_Schedule} {t a : Int} (h : a ∈ runL p s t) : ∃ i : Nat, a = (i : Int) ∧ i < p.2.1.length := iotaI_mem (List.mem_filter.1 h).1
theorem runL_length (p : D_Project) (s : D_Schedule) (t : Int) : (runL p s t).length ≤ p.2.1.length := by
  have := List.length_filter_le (runB p s t) (iotaI p.2.1.length)
  rw [iotaI_length] at this
  exact this
theorem usage_impl (p : D_Project) (s : D_Schedule) (j : Nat) (t : Int) (u : Unit) (hp : Sm_Project 1099511627776 p) (h : formB p s = true) (hj : j < p.2.2.2.1.length) : impl_Project_usage (p, s, (j : Int), t, u) () = some (useV p s (j : Int) t, ()) := by
  have hlen := runL_length p s t
  have hle := hp.2.1.1
  unfold impl_Project_usage useV
  simp only [running_impl _ _ _ _ hp h, some_bind', lenI_eq]
  have l0 := fun A : Type => (fold_list (A := A) (B := (Bool × Int × Int × List Int × D_Project × D_Schedule × Int × Int × Unit) ⊕ Empty) (C := Int × Unit) (F := impl_Project_usage_L0) (fun i n => ((i : Int), ((runL p s t).length : Int), runL p s t, p, s, (j : Int), n, ())) (runL p s t) (fun _ _ => True) (fun n a => addZ .i64 n (useOf p s (j : Int) a)) (fun n => Sum.inl (false, ((runL p s t).length : Int), ((runL p s t).length : Int), runL p s t, p, s, (j : Int), n, ())) (by omega)
    (fun i n hi _ => by
      obtain ⟨a, ea, ha⟩ := runL_mem (List.getElem_mem hi)
      obtain ⟨x, e, md, -, -, gm, -, -, -, -, -, -, gu⟩ := run_at hp h ha
      refine ⟨?_, trivial⟩
      unfold impl_Project_usage_L0
      simp only [lt_yes hi, if_true, getI_lt hi, some_bind', ea, mode_impl, gm, gu j hj, idxN hi (show (runL p s t).length ≤ 1099511627776 by omega) (Nat.le_refl _)])
    (fun n _ => by
      unfold impl_Project_usage_L0
      simp only [lt_no, Bool.false_eq_true, if_false])
    (a := 0) (s := (0, ((runL p s t).length : Int), runL p s t, p, s, (j : Int), 0, ())) rfl trivial).1
  simp only [l0, some_bind']
end Go.Proofs.YtjgmjljdhgfdhaaGreat
