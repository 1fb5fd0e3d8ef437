/-
  Plain laws: numbers in a row, lists that hold a number, sets, domains (several small texts in one). Condition: no list is longer than 2 to the 40.
-/
import Derived.Test.YtholdafohofboaaGreatDoore8LFormM
import Derived.Test.YtholdafohofboaaGreatDoorN35
namespace Go.Proofs.YtholdafohofboaaGreatDoor
open Go.Abs
set_option linter.unusedVariables false
set_option linter.unusedSimpArgs false

theorem kept_eq (l : List Int) (f : (Int × Unit) → Option Bool) (q : Int → Bool) (u : Unit) (hl : l.length ≤ 1048576) (hf : ∀ a ∈ l, f (a, ()) = some (q a)) : impl_kept (l, f, u) () = some (l.filter q, ()) := by
  unfold impl_kept
  simp only [lenI_eq]
  have l0 := fun A : Type => (fold_list (A := A) (B := (Bool × Int × Int × List Int × ((Int × Unit) → Option Bool) × List Int × Unit) ⊕ Empty) (C := List Int × Unit) (F := impl_kept_L0) (fun i out => ((i : Int), (l.length : Int), l, f, out, ())) l (fun i out => out.length ≤ i) (fun out x => if q x = true then out ++ [x] else out) (fun out => Sum.inl (false, (l.length : Int), (l.length : Int), l, f, out, ())) (by omega)
    (fun i out hi ho => by
      have ha : addI out [l[i]] = some (out ++ [l[i]]) := addI_ok (by rw [room_eq]; simp; omega)
      constructor
      · unfold impl_kept_L0
        simp only [lt_yes hi, if_true, getI_lt hi, some_bind', hf _ (List.getElem_mem hi)]
        rcases tf (q l[i]) with h | h <;> simp [-Int.natCast_add, h, ha, idxN hi (show l.length ≤ 1099511627776 by omega) (Nat.le_refl _)]
      · rcases tf (q l[i]) with h | h <;> simp [h] <;> omega)
    (fun out ho => by
      unfold impl_kept_L0
      simp only [lt_no, Bool.false_eq_true, if_false])
    (a := []) (s := (0, (l.length : Int), l, f, [], ())) rfl (Nat.le_refl _)).1
  simp only [l0, some_bind', foldl_filter, List.nil_append]
theorem IntRange_impl (n : Nat) (u : Unit) (hn : n ≤ 200) : impl_IntRange ((n : Int), u) () = some (iotaI n, ()) := by
  unfold impl_IntRange
  have hw : inB (n : Int) 0 200 = true := inB_iff.2 ⟨by omega, by omega⟩
  simp only [within_eq, some_bind', hw, notB_true, Bool.false_eq_true, if_false]
  have l0 := fun A : Type => (fold_loop (A := A) (B := (Bool × Int × Int × List Int × Unit) ⊕ Empty) (C := List Int × Unit) (F := impl_IntRange_L0) (fun i out => ((i : Int), (n : Int), out, ())) n (fun i out => out.length = i) (fun i out => out ++ [(i : Int)]) (fun out => Sum.inl (false, (n : Int), (n : Int), out, ())) (by omega)
    (fun i out hi ho => by
      have ha : addI out [(i : Int)] = some (out ++ [(i : Int)]) := addI_ok (by rw [room_eq]; simp; omega)
      constructor
      · unfold impl_IntRange_L0
        simp only [lt_yes hi, if_true, ha, some_bind', idxN hi (show n ≤ 1099511627776 by omega) (Nat.le_refl _)]
      · simp [ho])
    (fun out ho => by
      unfold impl_IntRange_L0
      simp only [lt_no, Bool.false_eq_true, if_false])
    (a := []) rfl).1
  have e0 : (((0 : Nat) : Int), (n : Int), ([] : List Int), ()) = ((0 : Int), (n : Int), ([] : List Int), ()) := rfl
  rw [e0] at l0
  have e1 := foldN_iota (fun (out : List Int) (x : Int) => out ++ [x]) n []
  simp only [l0, some_bind', e1, foldl_append, List.nil_append]

/-- Does an activity run at a time? -/
def runB (p : D_Project) (s : D_Schedule) (t a : Int) : Bool := match getI s.1 a, spec_l09End (p, s, a, ()) () with
  | some x, some e => leZ x t && ltZ t e.1
  | _, _ => false
def runL (p : D_Project) (s : D_Schedule) (t : Int) : List Int := (iotaI p.2.1.length).filter (runB p s t)
/-- what an activity uses -/
def useOf (p : D_Project) (s : D_Schedule) (res a : Int) : Int := match spec_l09Mode (p, s, a, ()) () with
  | some m => (getI m.1.2.1 res).getD 0
  | none => 0
def useV (p : D_Project) (s : D_Schedule) (res t : Int) : Int := (runL p s t).foldl (fun n a => addZ .i64 n (useOf p s res a)) 0
theorem proj_acts {p : D_Project} (h : projB p = true) : 1 ≤ p.2.1.length ∧ p.2.1.length ≤ 6 := by
  unfold projB at h
  simp only [Bool.and_eq_true] at h
  have := inB_iff.1 h.1.1.1.1.1.1.1.2
  rw [lenI_eq] at this
  omega
theorem mode_eq {p : D_Project} {s : D_Schedule} {i m : Nat} {md : D_Mode} (u : Unit) (hi : i < p.2.1.length) (h2 : getI s.2.1 (i : Int) = some (m : Int)) (h3 : getI p.2.1[i].2.2.1 (m : Int) = some md) :
    spec_l09Mode (p, s, (i : Int), u) () = some (md, ()) := by
  unfold spec_l09Mode
  simp only [getI_lt hi, h2, h3, some_bind']
/-- what is known of an activity in a schedule of the right form -/
theorem run_at {p : D_Project} {s : D_Schedule} (hp : Sm_Project 1099511627776 p) (h : formB p s = true) {i : Nat} (hi : i < p.2.1.length) :
    ∃ (x e : Int) (md : D_Mode), getI s.1 (i : Int) = some x ∧ (∀ u, spec_l09End (p, s, (i : Int), u) () = some (e, ())) ∧ (∀ u, spec_l09Mode (p, s, (i : Int), u) () = some (md, ())) ∧ e = addZ .i64 x md.1 ∧ 0 ≤ x ∧ x ≤ 60 ∧ 1 ≤ md.1 ∧ md.1 ≤ 12 ∧
      (∀ t, runB p s t (i : Int) = (leZ x t && ltZ t e)) ∧ ∀ j : Nat, j < p.2.2.2.1.length → getI md.2.1 (j : Int) = some (useOf p s (j : Int) (i : Int)) := by
  obtain ⟨t, m, md, g1, g2, g3, hm, h0, h6, hmb, -⟩ := form_at hp h hi
  have ge := fun u => end_eq (p := p) (s := s) u hi g1 g2 g3
  have gm := fun u => mode_eq (p := p) (s := s) u hi g2 g3
  unfold modeB at hmb
  simp only [Bool.and_eq_true] at hmb
  have hd := inB_iff.1 hmb.1.1
  refine ⟨t, _, md, g1, ge, gm, rfl, h0, h6, hd.1, hd.2, fun t' => ?_, fun j hj => ?_⟩
  · unfold runB
    simp only [g1, ge]
  · have hlen := hmb.1.2.2
    rw [eqZ_dec, decide_eq_true_eq, lenI_eq] at hlen
    have hj' : j < md.2.1.length := by omega
    unfold useOf
    simp only [gm, getI_lt hj', Option.getD_some]
theorem running_impl (p : D_Project) (s : D_Schedule) (t : Int) (u : Unit) (hp : Sm_Project 1099511627776 p) (h : formB p s = true) : impl_Project_running (p, s, t, u) () = some (runL p s t, ()) := by
  obtain ⟨n1, n2⟩ := proj_acts (proj_of_form h)
  unfold impl_Project_running runL
  simp only [lenI_eq, IntRange_impl _ _ (show p.2.1.length ≤ 200 by omega), some_bind']
  rw [kept_eq (iotaI p.2.1.length) _ (runB p s t) () (by rw [iotaI_length]; omega) (fun a ha => by
    obtain ⟨i, rfl, hi⟩ := iotaI_mem ha
    obtain ⟨x, e, md, g1, ge, -, -, -, -, -, -, gr, -⟩ := run_at hp h hi
    unfold impl_Project_running_1
    simp only [g1, some_bind', end_impl, ge, gr]
    rcases tf (leZ x t) with h1 | h1 <;> simp [h1, end_impl, ge])]
  rfl
theorem runL_mem {p : D_Project} {s : D_Schedule} {t a : Int} (h : a ∈ runL p s t) : ∃ i : Nat, a = (i : Int) ∧ i < p.2.1.length := iotaI_mem (List.mem_filter.1 h).1
theorem runL_length (p : D_Project) (s : D_Schedule) (t : Int) : (runL p s t).length ≤ p.2.1.length := by
  have := List.length_filter_le (runB p s t) (iotaI p.2.1.length)
  rw [iotaI_length] at this
  exact this
theorem usage_impl (p : D_Project) (s : D_Schedule) (j : Nat) (t : Int) (u : Unit) (hp : Sm_Project 1099511627776 p) (h : formB p s = true) (hj : j < p.2.2.2.1.length) : impl_Project_usage (p, s, (j : Int), t, u) () = some (useV p s (j : Int) t, ()) := by
  have hlen := runL_length p s t
  have hle := hp.2.1.1
  unfold impl_Project_usage useV
  simp only [running_impl _ _ _ _ hp h, some_bind', lenI_eq]
  have l0 := fun A : Type => (fold_list (A := A) (B := (Bool × Int × Int × List Int × D_Project × D_Schedule × Int × Int × Unit) ⊕ Empty) (C := Int × Unit) (F := impl_Project_usage_L0) (fun i n => ((i : Int), ((runL p s t).length : Int), runL p s t, p, s, (j : Int), n, ())) (runL p s t) (fun _ _ => True) (fun n a => addZ .i64 n (useOf p s (j : Int) a)) (fun n => Sum.inl (false, ((runL p s t).length : Int), ((runL p s t).length : Int), runL p s t, p, s, (j : Int), n, ())) (by omega)
    (fun i n hi _ => by
      obtain ⟨a, ea, ha⟩ := runL_mem (List.getElem_mem hi)
      obtain ⟨x, e, md, -, -, gm, -, -, -, -, -, -, gu⟩ := run_at hp h ha
      refine ⟨?_, trivial⟩
      unfold impl_Project_usage_L0
      simp only [lt_yes hi, if_true, getI_lt hi, some_bind', ea, mode_impl, gm, gu j hj, idxN hi (show (runL p s t).length ≤ 1099511627776 by omega) (Nat.le_refl _)])
    (fun n _ => by
      unfold impl_Project_usage_L0
      simp only [lt_no, Bool.false_eq_true, if_false])
    (a := 0) (s := (0, ((runL p s t).length : Int), runL p s t, p, s, (j : Int), 0, ())) rfl trivial).1
  simp only [l0, some_bind']
open Go.Abs
set_option linter.unusedVariables false
set_option linter.unusedSimpArgs false

theorem RunningAt_spec (p : D_Project) (s : D_Schedule) (t : Int) (u : Unit) (hp : Sm_Project 1099511627776 p) : spec_RunningAt (p, s, t, u) () = some (if formB p s = true then runL p s t else [], ()) := by
  unfold spec_RunningAt
  simp only [ScheduleForm_spec _ _ _ hp, some_bind']
  rcases tf (formB p s) with h | h
  · simp [h, notB]
  obtain ⟨n1, n2⟩ := proj_acts (proj_of_form h)
  have l0 := fun A : Type => (fold_loop (A := A) (B := (Bool × Int × Int × D_Project × D_Schedule × Int × List Int × Unit) ⊕ Empty) (C := List Int × Unit) (F := spec_RunningAt_L0) (fun i out => ((i : Int), lenI p.2.1, p, s, t, out, ())) p.2.1.length (fun i out => out.length ≤ i) (fun i out => if runB p s t (i : Int) = true then out ++ [(i : Int)] else out) (fun out => Sum.inl (false, lenI p.2.1, lenI p.2.1, p, s, t, out, ())) (by omega)
    (fun i out hi ho => by
      obtain ⟨x, e, md, g1, ge, -, -, -, -, -, -, gr, -⟩ := run_at hp h hi
      have ha : addI out [(i : Int)] = some (out ++ [(i : Int)]) := addI_ok (by rw [room_eq]; simp; omega)
      have hl : ltZ (i : Int) (lenI p.2.1) = true := lt_yes hi
      constructor
      · unfold spec_RunningAt_L0
        simp only [hl, if_true, g1, some_bind', ge, gr]
        rcases tf (leZ x t) with h1 | h1 <;> rcases tf (ltZ t e) with h2 | h2 <;> simp [-Int.natCast_add, h1, h2, ha, ge, idxN hi (show p.2.1.length ≤ 1099511627776 by omega) (Nat.le_refl _)]
      · rw [gr]
        rcases tf (leZ x t && ltZ t e) with h1 | h1 <;> simp only [h1, if_true, Bool.false_eq_true, if_false, List.length_append, List.length_singleton] <;> omega)
    (fun out ho => by
      have hl : ltZ (p.2.1.length : Int) (lenI p.2.1) = false := lt_no _
      unfold spec_RunningAt_L0
      simp only [hl, Bool.false_eq_true, if_false]
      rfl)
    (a := []) (Nat.le_refl _)).1
  have e0 : (((0 : Nat) : Int), lenI p.2.1, p, s, t, ([] : List Int), ()) = ((0 : Int), lenI p.2.1, p, s, t, ([] : List Int), ()) := rfl
  rw [e0] at l0
  have e1 := foldN_iota (fun (out : List Int) (x : Int) => if runB p s t x = true then out ++ [x] else out) p.2.1.length []
  simp only [h, notB_true, Bool.false_eq_true, if_false, if_true, l0, some_bind', e1, foldl_filter, List.nil_append, runL]
/-- what is used at a time, for all arguments -/
def useT (p : D_Project) (s : D_Schedule) (res t : Int) : Int := if (inB res 0 (subZ .i64 (lenI p.2.2.2.1) 1) && formB p s) = true then useV p s res t else 0
theorem UsageAt_spec (p : D_Project) (s : D_Schedule) (res t : Int) (u : Unit) (hp : Sm_Project 1099511627776 p) : spec_UsageAt (p, s, res, t, u) () = some (useT p s res t, ()) := by
  unfold spec_UsageAt useT
  simp only [l01In_eq, some_bind', RunningAt_spec _ _ _ _ hp]
  rcases tf (inB res 0 (subZ .i64 (lenI p.2.2.2.1) 1)) with h1 | h1
  · simp [h1, notB]
  obtain ⟨j, rfl, hj⟩ := inB_place hp.2.2.2.1.1 h1
  have hlen := runL_length p s t
  have hle := hp.2.1.1
  rcases tf (formB p s) with h | h
  · have l0 := fun A : Type => (fold_loop (A := A) (B := (Bool × Int × Int × List Int × D_Project × D_Schedule × Int × Int × Unit) ⊕ Empty) (C := Int × Unit) (F := spec_UsageAt_L0) (fun i n => ((i : Int), lenI ([] : List Int), ([] : List Int), p, s, (j : Int), n, ())) 0 (fun _ _ => True) (fun _ n => n) (fun n => Sum.inl (false, ((0 : Nat) : Int), lenI ([] : List Int), ([] : List Int), p, s, (j : Int), n, ())) (by omega)
      (fun i n hi _ => absurd hi (by omega))
      (fun n _ => by
        have e : ltZ ((0 : Nat) : Int) (lenI ([] : List Int)) = false := rfl
        unfold spec_UsageAt_L0
        simp only [e, Bool.false_eq_true, if_false])
      (a := 0) trivial).1
    have e0 : (((0 : Nat) : Int), lenI ([] : List Int), ([] : List Int), p, s, (j : Int), (0 : Int), ()) = ((0 : Int), lenI ([] : List Int), ([] : List Int), p, s, (j : Int), (0 : Int), ()) := rfl
    rw [e0] at l0
    simp only [h1, h, notB_true, Bool.false_eq_true, if_false, Bool.and_false, l0, some_bind', foldN]
  · have l0 := fun A : Type => (fold_list (A := A) (B := (Bool × Int × Int × List Int × D_Project × D_Schedule × Int × Int × Unit) ⊕ Empty) (C := Int × Unit) (F := spec_UsageAt_L0) (fun i n => ((i : Int), lenI (runL p s t), runL p s t, p, s, (j : Int), n, ())) (runL p s t) (fun _ _ => True) (fun n a => addZ .i64 n (useOf p s (j : Int) a)) (fun n => Sum.inl (false, lenI (runL p s t), lenI (runL p s t), runL p s t, p, s, (j : Int), n, ())) (by omega)
      (fun i n hi _ => by
        obtain ⟨a, ea, ha⟩ := runL_mem (List.getElem_mem hi)
        obtain ⟨x, e, md, -, -, gm, -, -, -, -, -, -, gu⟩ := run_at hp h ha
        have hl : ltZ (i : Int) (lenI (runL p s t)) = true := lt_yes hi
        refine ⟨?_, trivial⟩
        unfold spec_UsageAt_L0
        simp only [hl, if_true, getI_lt hi, some_bind', ea, gm, gu j hj, idxN hi (show (runL p s t).length ≤ 1099511627776 by omega) (Nat.le_refl _)])
      (fun n _ => by
        have hl : ltZ ((runL p s t).length : Int) (lenI (runL p s t)) = false := lt_no _
        unfold spec_UsageAt_L0
        simp only [hl, Bool.false_eq_true, if_false]
        rfl)
      (a := 0) (s := (0, lenI (runL p s t), runL p s t, p, s, (j : Int), 0, ())) rfl trivial).1
    simp only [h1, h, notB_true, Bool.false_eq_true, if_false, if_true, Bool.and_self, l0, some_bind', useV]
open Go.Abs
set_option linter.unusedVariables false
set_option linter.unusedSimpArgs false

def sumN (f : Nat → Nat) : Nat → Nat
  | 0 => 0
  | n + 1 => sumN f n + f n
theorem sumN_congr {f g : Nat → Nat} : ∀ {n : Nat}, (∀ i, i < n → f i = g i) → sumN f n = sumN g n
  | 0, _ => rfl
  | n + 1, h => by
    simp only [sumN]
    rw [sumN_congr fun i hi => h i (by omega), h n (by omega)]
theorem sumN_add (f g : Nat → Nat) : ∀ n, sumN (fun i => f i + g i) n = sumN f n + sumN g n
  | 0 => rfl
  | n + 1 => by
    simp only [sumN]
    rw [sumN_add f g n]
    omega
theorem sumN_le {f : Nat → Nat} {c : Nat} : ∀ {n : Nat}, (∀ i, i < n → f i ≤ c) → sumN f n ≤ n * c
  | 0, _ => by simp [sumN]
  | n + 1, h => by
    have h1 := sumN_le (n := n) fun i hi => h i (by omega)
    have h2 := h n (by omega)
    simp only [sumN, Nat.succ_mul]
    omega
/-- two sums in the other order -/
theorem sumN_swap (f : Nat → Nat → Nat) (m : Nat) : ∀ n, sumN (fun t => sumN (f t) m) n = sumN (fun i => sumN (fun t => f t i) n) m
  | 0 => by
    simp only [sumN]
    induction m with
    | zero => rfl
    | succ m ih => simp only [sumN]; omega
  | n + 1 => by
    simp only [sumN]
    rw [sumN_swap f m n, ← sumN_add]
/-- one that runs from x on for d rounds is met d times -/
theorem sumN_run (x d c : Nat) : ∀ n, sumN (fun t => if x ≤ t ∧ t < x + d then c else 0) n = (min n (x + d) - min n x) * c
  | 0 => by simp [sumN]
  | n + 1 => by
    simp only [sumN]
    rw [sumN_run x d c n]
    by_cases h : x ≤ n ∧ n < x + d
    · rw [if_pos h]
      have e1 : min (n + 1) (x + d) - min (n + 1) x = (min n (x + d) - min n x) + 1 := by omega
      rw [e1, Nat.succ_mul]
    · rw [if_neg h]
      have e1 : min (n + 1) (x + d) - min (n + 1) x = min n (x + d) - min n x := by omega
      rw [e1]
      omega
theorem sumN_run_all {x d n : Nat} (c : Nat) (h : x + d ≤ n) : sumN (fun t => if x ≤ t ∧ t < x + d then c else 0) n = d * c := by
  rw [sumN_run]
  congr 1
  omega
/-- a sum over those of the first n that are kept -/
theorem fold_sum (q : Int → Bool) (u : Int → Int) (U : Nat → Nat) (c : Nat) : ∀ (n : Nat) (s : Nat), (∀ i, i < n → u (i : Int) = (U i : Int) ∧ U i ≤ c) → s + n * c ≤ 1000000 →
    ((iotaI n).filter q).foldl (fun n a => addZ .i64 n (u a)) (s : Int) = ((s + sumN (fun i => if q (i : Int) = true then U i else 0) n : Nat) : Int)
  | 0, s, _, _ => by simp [iotaI, sumN]
  | n + 1, s, h, hb => by
    rw [Nat.succ_mul] at hb
    have ih := fold_sum q u U c n s (fun i hi => h i (by omega)) (by omega)
    obtain ⟨h1, h2⟩ := h n (by omega)
    rw [iotaI_succ, List.filter_append, List.foldl_append, ih]
    have hle : sumN (fun i => if q (i : Int) = true then U i else 0) n ≤ n * c := sumN_le fun i hi => by
      split
      · exact (h i (by omega)).2
      · omega
    simp only [sumN]
    rcases tf (q (n : Int)) with hq | hq
    · simp [hq]
    · simp only [List.filter_cons, hq, if_true, List.filter_nil, List.foldl_cons, List.foldl_nil, h1]
      rw [addZ64 (by omega) (by omega)]
      omega
open Go.Abs
set_option linter.unusedVariables false
set_option linter.unusedSimpArgs false

theorem maxI_le (x y : Int) : x ≤ maxI x y ∧ y ≤ maxI x y := by
  unfold maxI
  split <;> omega
theorem foldl_max_ge {α : Type} (f : α → Int) : ∀ (l : List α) (a : Int), a ≤ l.foldl (fun m x => maxI m (f x)) a ∧ ∀ x ∈ l, f x ≤ l.foldl (fun m x => maxI m (f x)) a
  | [], a => ⟨Int.le_refl _, by simp⟩
  | y :: l, a => by
    obtain ⟨h1, h2⟩ := foldl_max_ge f l (maxI a (f y))
    obtain ⟨k1, k2⟩ := maxI_le a (f y)
    simp only [List.foldl_cons]
    refine ⟨Int.le_trans k1 h1, fun x hx => ?_⟩
    rcases List.mem_cons.1 hx with rfl | hx
    · exact Int.le_trans k2 h1
    · exact h2 x hx
theorem foldN_max_ge (g : Nat → Int) : ∀ (k i : Nat) (a : Int), a ≤ foldN (fun t m => maxI m (g t)) k i a ∧ ∀ t, i ≤ t → t < i + k → g t ≤ foldN (fun t m => maxI m (g t)) k i a
  | 0, i, a => ⟨Int.le_refl _, fun t h1 h2 => absurd h2 (by omega)⟩
  | k + 1, i, a => by
    obtain ⟨h1, h2⟩ := foldN_max_ge g k (i + 1) (maxI a (g i))
    obtain ⟨k1, k2⟩ := maxI_le a (g i)
    simp only [foldN]
    refine ⟨Int.le_trans k1 h1, fun t ht1 ht2 => ?_⟩
    rcases Nat.lt_or_ge i t with hlt | hge
    · exact h2 t (by omega) (by omega)
    · obtain rfl : t = i := by omega
      exact Int.le_trans k2 h1
theorem foldN_snoc {α : Type} (f : Nat → α → α) : ∀ (k i : Nat) (a : α), foldN f (k + 1) i a = f (i + k) (foldN f k i a)
  | 0, i, a => rfl
  | k + 1, i, a => by
    show foldN f (k + 1) (i + 1) (f i a) = f (i + (k + 1)) (foldN f k (i + 1) (f i a))
    rw [foldN_snoc f k (i + 1) (f i a)]
    congr 1
    omega
theorem foldN_sum (g : Nat → Nat) : ∀ n, foldN (fun i a => a + g i) n 0 0 = sumN g n
  | 0 => rfl
  | n + 1 => by rw [foldN_snoc, foldN_sum g n, Nat.zero_add]; rfl
open Go.Abs
set_option linter.unusedVariables false
set_option linter.unusedSimpArgs false

theorem max_spec (x y : Int) (u : Unit) : spec_l02Max (x, y, u) () = some (maxI x y, ()) := by
  unfold spec_l02Max
  rw [← maxI_if]
  rcases tf (ltZ y x) with h | h <;> simp [h]
def endV (p : D_Project) (s : D_Schedule) (a : Int) : Int := match spec_l09End (p, s, a, ()) () with | some e => e.1 | none => 0
theorem endV_at {p : D_Project} {s : D_Schedule} (hp : Sm_Project 1099511627776 p) (h : formB p s = true) {i : Nat} (hi : i < p.2.1.length) : (∀ u, spec_l09End (p, s, (i : Int), u) () = some (endV p s (i : Int), ())) ∧ 1 ≤ endV p s (i : Int) ∧ endV p s (i : Int) ≤ 72 := by
  obtain ⟨x, e, md, g1, ge, gm, he, h1, h2, h3, h4, -⟩ := run_at hp h hi
  have : endV p s (i : Int) = e := by unfold endV; rw [ge]
  rw [this]
  refine ⟨ge, ?_⟩
  rw [he, addZ64 (by omega) (by omega)]
  omega
/-- the end of the last activity -/
def spanV (p : D_Project) (s : D_Schedule) : Int := (iotaI p.2.1.length).foldl (fun m a => maxI m (endV p s a)) 0
theorem iotaI_cons (n : Nat) : iotaI (n + 1) = 0 :: (List.range n).map fun (i : Nat) => ((i + 1 : Nat) : Int) := by
  unfold iotaI
  rw [List.range_succ_eq_map, List.map_cons, List.map_map]
  rfl
theorem span_from (p : D_Project) (s : D_Schedule) (hp : Sm_Project 1099511627776 p) (h : formB p s = true) : (iotaI p.2.1.length).foldl (fun m a => maxI m (endV p s a)) (-1) = spanV p s := by
  obtain ⟨n1, n2⟩ := proj_acts (proj_of_form h)
  obtain ⟨n, hn⟩ : ∃ n, p.2.1.length = n + 1 := ⟨p.2.1.length - 1, by omega⟩
  obtain ⟨-, e1, -⟩ := endV_at hp h (i := 0) (by omega)
  unfold spanV
  rw [hn, iotaI_cons, List.foldl_cons, List.foldl_cons]
  have z : ((0 : Nat) : Int) = 0 := rfl
  rw [z] at e1
  have k1 : maxI (-1) (endV p s 0) = endV p s 0 := by unfold maxI; rw [if_pos (by omega)]
  have k2 : maxI 0 (endV p s 0) = endV p s 0 := by unfold maxI; rw [if_pos (by omega)]
  rw [k1, k2]
open Go.Abs
set_option linter.unusedVariables false
set_option linter.unusedSimpArgs false

theorem l02Max_eq (x y : Int) (u : Unit) : spec_l02Max (x, y, u) () = some (maxI x y, ()) := by
  unfold spec_l02Max
  rw [← maxI_if]
  rcases tf (ltZ y x) with h | h <;> simp [h]
def peakV (p : D_Project) (s : D_Schedule) (res : Int) : Int := foldN (fun t m => maxI m (useT p s res (t : Int))) 61 0 0
theorem foldN_zero (f : Nat → Int → Int) (h : ∀ t, f t 0 = 0) : ∀ (k i : Nat), foldN f k i 0 = 0
  | 0, _ => rfl
  | k + 1, i => by
    simp only [foldN, h]
    exact foldN_zero f h k (i + 1)
open Go.Abs
set_option linter.unusedVariables false
set_option linter.unusedSimpArgs false

def capVS (l : List D_Step) (t : Int) : Int := l.foldl (fun n s => if leZ s.1 t = true then s.2.1 else n) 0
theorem capacityAt_S (l : List D_Step) (t : Int) (u : Unit) (hl : l.length ≤ 1099511627776) : impl_capacityAt (l, t, u) () = some (capVS l t, ()) := by
  have l0 := fun A : Type => (fold_list (A := A) (F := impl_capacityAt_L0) (fun i n => ((i : Int), (l.length : Int), l, t, n, ())) l (fun _ _ => True) (fun n s => if leZ s.1 t = true then s.2.1 else n) (fun n => Sum.inl (false, (l.length : Int), (l.length : Int), l, t, n, ())) hl
    (fun i n hi _ => by
      refine ⟨?_, trivial⟩
      unfold impl_capacityAt_L0
      simp only [lt_yes hi, if_true, getI_lt hi, some_bind']
      rcases tf (leZ l[i].1 t) with h1 | h1 <;> simp [-Int.natCast_add, h1, idxN hi hl (Nat.le_refl _)])
    (fun n _ => by
      unfold impl_capacityAt_L0
      simp only [lt_no, Bool.false_eq_true, if_false])
    (a := 0) (s := (0, (l.length : Int), l, t, 0, ())) rfl trivial).1
  unfold impl_capacityAt capVS
  simp only [lenI_eq, l0, some_bind']
theorem capVS_le {l : List D_Step} (h : stepsB l = true) (t : Int) : 0 ≤ capVS l t ∧ capVS l t ≤ 20 := by
  have hs : ∀ s ∈ l, 0 ≤ s.2.1 ∧ s.2.1 ≤ 20 := fun s hs => by
    obtain ⟨i, hi, rfl⟩ := List.mem_iff_getElem.1 hs
    unfold stepsB at h
    simp only [Bool.and_eq_true, List.all_eq_true, List.mem_range] at h
    have := h.1.1 i hi
    unfold stepI at this
    rw [List.getElem?_eq_getElem hi] at this
    simp only [Bool.and_eq_true] at this
    exact inB_iff.1 this.1.2
  have key : ∀ (l : List D_Step) (a : Int), (∀ s ∈ l, 0 ≤ s.2.1 ∧ s.2.1 ≤ 20) → 0 ≤ a ∧ a ≤ 20 → 0 ≤ l.foldl (fun n s => if leZ s.1 t = true then s.2.1 else n) a ∧ l.foldl (fun n s => if leZ s.1 t = true then s.2.1 else n) a ≤ 20 := by
    intro l
    induction l with
    | nil => intro a _ ha; exact ha
    | cons s l ih =>
      intro a hl ha
      simp only [List.foldl_cons]
      refine ih _ (fun s hs => hl s (by simp [hs])) ?_
      split
      · exact hl s (by simp)
      · exact ha
  exact key l 0 hs (by omega)

/-- what is known of an activity in a schedule that is drawn -/
structure SchAt (p : D_Project) (st md : List Int) (i : Nat) (hi : i < p.2.1.length) (x d w : Nat) (k : Int) (m : D_Mode) : Prop where
  hx : x ≤ 24
  hd : 1 ≤ d ∧ d ≤ 4
  hw : w ≤ 2
  gx : getI st (i : Int) = some (x : Int)
  gk : getI md (i : Int) = some k
  gm : getI p.2.1[i].2.2.1 k = some m
  dm : m.1 = (d : Int)
  mu : getI m.2.1 0 = some (w : Int)
  use : useOf p (st, (md, ())) 0 (i : Int) = (w : Int)
  run : ∀ t : Nat, runB p (st, (md, ())) (t : Int) (i : Int) = decide (x ≤ t ∧ t < x + d)
  fin : endV p (st, (md, ())) (i : Int) = ((x + d : Nat) : Int)
  mg : GenM p.2.2.2.1.length p.2.2.2.2.1.length m
  mo : ∀ u, spec_l09Mode (p, (st, (md, ())), (i : Int), u) () = some (m, ())
theorem sched_at {p : D_Project} {st md : List Int} (hP : GenP 6 p) (hS : GenS p.2.1 p.2.1.length st md) {i : Nat} (hi : i < p.2.1.length) :
    ∃ (x d w : Nat) (k : Int) (m : D_Mode), SchAt p st md i hi x d w k m := by
  have hp : Sm_Project 1099511627776 p := hP.sm (by omega) (by omega)
  have hf := hS.form hP
  have hrl := hP.rl
  obtain ⟨t, k, mo, g1, g2, g3, hm, -, -, -, -⟩ := form_at hp hf hi
  obtain ⟨x, e, mo', r1, re, rm, he, -, -, -, -, hr, hu⟩ := run_at hp hf hi
  have e1 : x = t := Option.some.inj (r1.symm.trans g1)
  have e2 : mo' = mo := by
    have := (rm ()).symm.trans (mode_eq (s := (st, (md, ()))) () hi g2 g3)
    exact (Prod.mk.inj (Option.some.inj this)).1
  subst e1 e2
  have gm := (hP.a i hi).m _ hm
  have hi1 : i < st.length := by rw [hS.s1]; exact hi
  have r1' : getI st (i : Int) = some x := r1
  have hxm : x ∈ st := by
    rw [getI_lt hi1] at r1'
    cases r1'
    exact List.getElem_mem hi1
  have hx := hS.s x hxm
  have hu0 := hu 0 (by omega)
  have hul : useOf p (st, (md, ())) 0 (i : Int) ∈ mo'.2.1 := by
    have hu0 : getI mo'.2.1 ((0 : Nat) : Int) = some (useOf p (st, (md, ())) 0 (i : Int)) := hu0
    rw [getI_nat] at hu0
    exact List.mem_of_getElem? hu0
  have hw := gm.u _ hul
  have hd := gm.d
  have hen : e = x + mo'.1 := by rw [he, addZ64 (by omega) (by omega)]
  refine ⟨x.toNat, mo'.1.toNat, (useOf p (st, (md, ())) 0 (i : Int)).toNat, (k : Int), mo', by omega, by omega, by omega, ?_, g2, g3, by omega, ?_, by omega, fun t' => ?_, ?_, gm, rm⟩
  · rw [r1']; congr 1; omega
  · have hu0 : getI mo'.2.1 0 = some (useOf p (st, (md, ())) 0 (i : Int)) := hu0
    rw [hu0]; congr 1; omega
  · rw [hr, Bool.eq_iff_iff, Bool.and_eq_true, leZ_iff, ltZ_iff, decide_eq_true_eq]
    omega
  · unfold endV
    rw [re]
    show e = _
    omega
def schX (st : List Int) (i : Nat) : Nat := ((getI st (i : Int)).getD 0).toNat
def schW (p : D_Project) (st md : List Int) (i : Nat) : Nat := (useOf p (st, (md, ())) 0 (i : Int)).toNat
def schD (p : D_Project) (st md : List Int) (i : Nat) : Nat := (endV p (st, (md, ())) (i : Int)).toNat - schX st i
theorem SchAt.names {p : D_Project} {st md : List Int} {i : Nat} {hi : i < p.2.1.length} {x d w : Nat} {k : Int} {m : D_Mode} (h : SchAt p st md i hi x d w k m) : schX st i = x ∧ schW p st md i = w ∧ schD p st md i = d := by
  have h1 : schX st i = x := by unfold schX; rw [h.gx]; simp
  refine ⟨h1, by unfold schW; rw [h.use]; simp, ?_⟩
  unfold schD
  rw [h.fin, h1]
  omega
/-- what is used at a time, as a sum -/
def schV (p : D_Project) (st md : List Int) (t : Nat) : Nat := sumN (fun i => if runB p (st, (md, ())) (t : Int) (i : Int) = true then schW p st md i else 0) p.2.1.length
theorem use_sum {p : D_Project} {st md : List Int} (hP : GenP 6 p) (hS : GenS p.2.1 p.2.1.length st md) (t : Nat) : useV p (st, (md, ())) 0 (t : Int) = ((schV p st md t : Nat) : Int) ∧ schV p st md t ≤ 12 := by
  have hal := hP.al
  have hw : ∀ i, i < p.2.1.length → useOf p (st, (md, ())) 0 (i : Int) = (schW p st md i : Int) ∧ schW p st md i ≤ 2 := fun i hi => by
    obtain ⟨x, d, w, k, m, h⟩ := sched_at hP hS hi
    obtain ⟨-, h2, -⟩ := h.names
    have := h.hw
    exact ⟨by rw [h.use, h2], by omega⟩
  constructor
  · unfold useV runL schV
    have := fold_sum (runB p (st, (md, ())) (t : Int)) (useOf p (st, (md, ())) 0) (schW p st md) 2 p.2.1.length 0 hw (by omega)
    rw [Nat.zero_add] at this
    exact this
  · unfold schV
    have := sumN_le (f := fun i => if runB p (st, (md, ())) (t : Int) (i : Int) = true then schW p st md i else 0) (c := 2) (n := p.2.1.length) fun i hi => by
      have := (hw i hi).2
      split <;> omega
    omega
theorem work_sum {p : D_Project} {st md : List Int} (hP : GenP 6 p) (hS : GenS p.2.1 p.2.1.length st md) : sumN (schV p st md) 60 = sumN (fun i => schD p st md i * schW p st md i) p.2.1.length := by
  unfold schV
  rw [sumN_swap]
  refine sumN_congr fun i hi => ?_
  obtain ⟨x, d, w, k, m, h⟩ := sched_at hP hS hi
  obtain ⟨h1, h2, h3⟩ := h.names
  have hx := h.hx
  have hd := h.hd
  rw [h2, h3, ← sumN_run_all (x := x) w (show x + d ≤ 60 by omega)]
  refine sumN_congr fun t ht => ?_
  rw [h.run t]
  simp only [decide_eq_true_eq]

theorem hasRes_S (p : D_Project) (a : Int) (u : Unit) : impl_Project_hasResource (p, a, u) () = some (inB a 0 (subZ .i64 (lenI p.2.2.2.1) 1), ()) := by
  unfold impl_Project_hasResource
  simp only [within_eq, some_bind']
theorem zero_in {n : Nat} (h1 : 1 ≤ n) (h2 : n ≤ 1099511627776) : inB 0 0 (subZ .i64 (n : Int) 1) = true := by
  rw [inB_iff, subZ64 (by omega) (by omega)]
  omega
theorem RunningAt_S (p : D_Project) (s : D_Schedule) (t : Int) (u : Unit) (hp : Sm_Project 1099511627776 p) (h : formB p s = true) : impl_RunningAt (p, s, t, u) () = some (runL p s t, ()) := by
  unfold impl_RunningAt
  simp only [ScheduleForm_impl _ _ _ hp, some_bind', h, notB_true, Bool.false_eq_true, if_false, running_impl _ _ _ _ hp h]
def consS (p : D_Project) (s : D_Schedule) (i : Nat) : Int := match spec_l09Mode (p, s, (i : Int), ()) () with
  | some m => (getI m.1.2.2.1 0).getD 0
  | none => 0
theorem ConsumptionOf_S {p : D_Project} {st md : List Int} (hP : GenP 6 p) (hS : GenS p.2.1 p.2.1.length st md) (hs : 1 ≤ p.2.2.2.2.1.length) (u : Unit) : ∃ v, 0 ≤ v ∧ impl_ConsumptionOf (p, (st, (md, ())), 0, u) () = some (v, ()) := by
  have hp : Sm_Project 1099511627776 p := hP.sm (by omega) (by omega)
  have hf := hS.form hP
  have hal := hP.al
  have hin := zero_in hs hp.2.2.2.2.1.1
  have hst : ∀ (a : Int) (u : Unit), impl_Project_hasStock (p, a, u) () = some (inB a 0 (subZ .i64 (lenI p.2.2.2.2.1) 1), ()) := fun a u => by
    unfold impl_Project_hasStock
    simp only [within_eq, some_bind']
  have hc : ∀ i (hi : i < p.2.1.length), ∃ (m : D_Mode), (∀ u, spec_l09Mode (p, (st, (md, ())), (i : Int), u) () = some (m, ())) ∧ getI m.2.2.1 0 = some (consS p (st, (md, ())) i) ∧ 0 ≤ consS p (st, (md, ())) i ∧ consS p (st, (md, ())) i ≤ 2 := fun i hi => by
    obtain ⟨x, d, w, k, m, h⟩ := sched_at hP hS hi
    have hl : 0 < m.2.2.1.length := by rw [h.mg.cl]; omega
    have e : getI m.2.2.1 0 = some m.2.2.1[0] := getI_lt (i := 0) hl
    have e1 : consS p (st, (md, ())) i = m.2.2.1[0] := by
      unfold consS
      simp only [h.mo, e, Option.getD_some]
    rw [e1]
    exact ⟨m, h.mo, e, h.mg.c _ (List.getElem_mem hl)⟩
  have l0 := fun A : Type => fold_loop (A := A) (C := Int × Unit) (F := impl_ConsumptionOf_L0) (fun i (a : Int) => ((i : Int), (p.2.1.length : Int), p, (st, (md, ())), (0 : Int), a, ())) p.2.1.length (fun i a => 0 ≤ a ∧ a ≤ i * 2) (fun i a => a + consS p (st, (md, ())) i)
    (fun a => Sum.inl (false, (p.2.1.length : Int), (p.2.1.length : Int), p, (st, (md, ())), (0 : Int), a, ())) (by omega)
    (fun i a hi ha => by
      obtain ⟨m, hm, hv, hv1, hv2⟩ := hc i hi
      constructor
      · unfold impl_ConsumptionOf_L0
        simp only [lt_yes hi, if_true, mode_impl, hm, hv, some_bind', idxN hi (Nat.le_refl _) (show p.2.1.length ≤ 1099511627776 by omega), addZ64 (show -9223372036854775808 ≤ a + consS p (st, (md, ())) i by omega) (by omega)]
      · omega)
    (fun a ha => by
      unfold impl_ConsumptionOf_L0
      simp only [lt_no, Bool.false_eq_true, if_false])
    (a := 0) (by omega)
  refine ⟨_, (l0 Unit).2.1, ?_⟩
  have l1 := fun A : Type => (l0 A).1
  have e0 : (((0 : Nat) : Int), (p.2.1.length : Int), p, (st, (md, ())), (0 : Int), (0 : Int), ()) = ((0 : Int), (p.2.1.length : Int), p, (st, (md, ())), (0 : Int), (0 : Int), ()) := rfl
  rw [e0] at l1
  unfold impl_ConsumptionOf
  simp only [ScheduleForm_impl _ _ _ hp, hst, lenI_eq, some_bind', hf, notB_true, Bool.false_eq_true, if_false, if_true, hin, l1]
end Go.Proofs.YtholdafohofboaaGreatDoor
