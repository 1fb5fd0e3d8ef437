/-
  Plain laws: numbers in a row, lists that hold a number, sets, domains (several small texts in one). Condition: no list is longer than 2 to the 40.
-/
import Derived.Test.YtholdafohofboaaGreatDoorN37
import Derived.Test.YtholdafohofboaaGreatDoore8W
import Derived.Test.YtholdafohofboaaGreatDoore8LFormM
import Derived.Test.YtholdafohofboaaGreatDoore8LRunM
namespace Go.Proofs.YtholdafohofboaaGreatDoor
open Go.Abs
set_option linter.unusedVariables false
set_option linter.unusedSimpArgs false

theorem fmt_in (x lo hi : Int) (u : Unit) : spec_l01In (x, lo, hi, u) () = some (inB x lo hi, ()) := by
  unfold spec_l01In inB
  rcases tf (leZ lo x) with h | h <;> simp [h]
theorem fmt_within (x lo hi : Int) (u : Unit) : impl_within (x, lo, hi, u) () = some (inB x lo hi, ()) := by
  unfold impl_within inB
  rcases tf (leZ lo x) with h | h <;> simp [h]
/-- a number as text -/
def fmtV (n : Int) : List UInt8 := if inB n (-100000) 100000 = true then Lib.itoa n else []
theorem dec_small {u : Nat} (h : u < 10) : Lib.decDigits u = [UInt8.ofNat (48 + u)] := by rw [Lib.decDigits, dif_pos h]
theorem dec_big {u : Nat} (h : ¬ u < 10) : Lib.decDigits u = Lib.decDigits (u / 10) ++ [UInt8.ofNat (48 + u % 10)] := by rw [Lib.decDigits, dif_neg h]
theorem dec_length : ∀ (k u : Nat), u < 10 ^ (k + 1) → (Lib.decDigits u).length ≤ k + 1
  | 0, u, h => by rw [dec_small (by simpa using h)]; simp
  | k + 1, u, h => by
    by_cases h1 : u < 10
    · rw [dec_small h1]; simp
    · rw [dec_big h1]
      have := dec_length k (u / 10) (by rw [Nat.pow_succ] at h; omega)
      simp only [List.length_append, List.length_singleton]
      omega
theorem dec_len6 {u : Nat} (h : u ≤ 100000) : (Lib.decDigits u).length ≤ 6 := dec_length 5 u (by omega)
theorem dec_ne (u : Nat) : 1 ≤ (Lib.decDigits u).length := by
  by_cases h1 : u < 10
  · rw [dec_small h1]; simp
  · rw [dec_big h1]; simp
theorem fmtV_len (n : Int) : (fmtV n).length ≤ 7 := by
  unfold fmtV
  split
  · rename_i h
    have h := inB_iff.1 h
    unfold Lib.itoa
    split
    · have := dec_len6 (u := n.natAbs) (by omega)
      simp only [List.length_cons]
      omega
    · have := dec_len6 (u := n.toNat) (by omega)
      omega
  · simp
theorem digit_byte {d : Nat} (h : d < 10) : ofBytes [wrapI .u8 (addZ .i64 48 (d : Int))] = [UInt8.ofNat (48 + d)] := by
  have e1 : addZ .i64 48 (d : Int) = ((48 + d : Nat) : Int) := by rw [addZ64 (by omega) (by omega)]; omega
  have e2 : wrapI .u8 ((48 + d : Nat) : Int) = ((48 + d : Nat) : Int) := by
    show IntKind.u8.wrap _ = _
    rw [IntKind.wrap_u8]
    omega
  rw [e1, e2]
  rfl
def leadD (n : Nat) : Nat := ((Lib.decDigits n).headD 0).toNat - 48
theorem lead_of {n d : Nat} {s : List UInt8} (hd : d < 10) (h : UInt8.ofNat (48 + d) :: s = Lib.decDigits n) : d = leadD n ∧ s = (Lib.decDigits n).tail := by
  unfold leadD
  rw [← h]
  refine ⟨?_, rfl⟩
  show d = (UInt8.ofNat (48 + d)).toNat - 48
  rw [UInt8.toNat_ofNat']
  omega
theorem fmt_loop (n0 : Nat) (h0 : n0 ≤ 100000) : leadD n0 < 10 ∧ UInt8.ofNat (48 + leadD n0) :: (Lib.decDigits n0).tail = Lib.decDigits n0 ∧
    ∀ A : Type, loopN (A := A) big spec_FormatInt_L0 ((n0 : Int), [], ()) = some (.exit (Sum.inl (false, (leadD n0 : Int), (Lib.decDigits n0).tail, ()))) := by
  have hlen := dec_len6 h0
  have key : ∀ A : Type, ∃ (d : Nat) (s : List UInt8), d < 10 ∧ UInt8.ofNat (48 + d) :: s = Lib.decDigits n0 ∧ loopN (A := A) big spec_FormatInt_L0 ((n0 : Int), [], ()) = some (.exit (Sum.inl (false, (d : Int), s, ()))) := fun A => by
    obtain ⟨o, ho, d, s, h1, h2, h3⟩ := loopN_run (A := A) (F := spec_FormatInt_L0) (fun t => ∃ (n : Nat) (s : List UInt8), t = ((n : Int), s, ()) ∧ n ≤ 100000 ∧ Lib.decDigits n ++ s = Lib.decDigits n0) (fun t => t.1.toNat)
      (fun o => ∃ (d : Nat) (s : List UInt8), d < 10 ∧ UInt8.ofNat (48 + d) :: s = Lib.decDigits n0 ∧ o = .exit (Sum.inl (false, (d : Int), s, ())))
      (fun t hI => by
        obtain ⟨n, s, rfl, hb, hs⟩ := hI
        have hsl : s.length ≤ 6 := by
          have := congrArg List.length hs
          simp only [List.length_append] at this
          omega
        by_cases hn : n < 10
        · have hl : ltZ 9 (n : Int) = false := by rw [Bool.eq_false_iff, Ne, ltZ_iff]; omega
          refine ⟨.exit (Sum.inl (false, (n : Int), s, ())), ?_, n, s, hn, by rw [← hs, dec_small hn]; rfl, rfl⟩
          unfold spec_FormatInt_L0
          simp only [hl, Bool.false_eq_true, if_false]
        · have hl : ltZ 9 (n : Int) = true := by rw [ltZ_iff]; omega
          have hr : remZ (n : Int) 10 = some ((n % 10 : Nat) : Int) := remZ_nat n 10 (by omega)
          have hq : quoZ .i64 (n : Int) 10 = some ((n / 10 : Nat) : Int) := by
            unfold quoZ
            rw [if_neg (by omega)]
            have e : (n : Int).tdiv 10 = ((n / 10 : Nat) : Int) := by rfl
            rw [e]
            congr 1
            exact wrap64 (by omega) (by omega)
          have ha : addI [UInt8.ofNat (48 + n % 10)] s = some (UInt8.ofNat (48 + n % 10) :: s) := addI_ok (by rw [room_eq]; simp; omega)
          refine ⟨.norm (((n / 10 : Nat) : Int), UInt8.ofNat (48 + n % 10) :: s, ()), ?_, ⟨n / 10, _, rfl, by omega, by rw [← hs, dec_big hn]; simp⟩, ?_⟩
          · unfold spec_FormatInt_L0
            simp only [hl, if_true, hr, some_bind', digit_byte (Nat.mod_lt n (by omega : 0 < 10)), ha, hq]
          · show (((n / 10 : Nat) : Int)).toNat < ((n : Nat) : Int).toNat
            omega)
      big ((n0 : Int), [], ()) ⟨n0, [], rfl, h0, by simp⟩ (by show ((n0 : Nat) : Int).toNat < big; rw [big_eq]; omega)
    exact ⟨d, s, h1, h2, by rw [ho, h3]⟩
  obtain ⟨d, s, h1, h2, -⟩ := key Unit
  obtain ⟨e1, e2⟩ := lead_of h1 h2
  refine ⟨by omega, by rw [← e1, ← e2]; exact h2, fun A => ?_⟩
  obtain ⟨d', s', k1, k2, k3⟩ := key A
  obtain ⟨f1, f2⟩ := lead_of k1 k2
  rw [k3, f1, f2]
theorem r1_L0 : spec_FormatInt_r1_L0 = spec_FormatInt_L0 := rfl
theorem FormatInt_r1 (n : Nat) (h : n ≤ 100000) (u : Unit) : spec_FormatInt_r1 ((n : Int), u) () = some (Lib.decDigits n, ()) := by
  have hin : inB (n : Int) (-100000) 100000 = true := inB_iff.2 (by omega)
  have hl : ltZ (n : Int) 0 = false := by rw [Bool.eq_false_iff, Ne, ltZ_iff]; omega
  obtain ⟨h1, h2, h3⟩ := fmt_loop n h
  have hlen := dec_len6 h
  have ha : addI [UInt8.ofNat (48 + leadD n)] (Lib.decDigits n).tail = some (UInt8.ofNat (48 + leadD n) :: (Lib.decDigits n).tail) := addI_ok (by
    have := congrArg List.length h2
    simp only [List.length_cons] at this
    rw [room_eq]; simp only [List.length_singleton]; omega)
  unfold spec_FormatInt_r1
  simp only [fmt_in, some_bind', hin, notB_true, Bool.false_eq_true, if_false, hl, r1_L0, h3, digit_byte h1, ha, h2]
theorem FormatInt_spec (n : Int) (u : Unit) : spec_FormatInt (n, u) () = some (fmtV n, ()) := by
  unfold spec_FormatInt fmtV
  simp only [fmt_in, some_bind']
  rcases tf (inB n (-100000) 100000) with h | h
  · simp [h, notB]
  have hb := inB_iff.1 h
  by_cases hn : n < 0
  · obtain ⟨m, rfl⟩ : ∃ m : Nat, n = -(m : Int) := ⟨n.natAbs, by omega⟩
    have hl : ltZ (-(m : Int)) 0 = true := by rw [ltZ_iff]; omega
    have hs : subZ .i64 0 (-(m : Int)) = (m : Int) := by rw [subZ64 (by omega) (by omega)]; omega
    have hm := dec_len6 (u := m) (by omega)
    have ha : addI [45] (Lib.decDigits m) = some (45 :: Lib.decDigits m) := addI_ok (by rw [room_eq]; simp; omega)
    have hi : Lib.itoa (-(m : Int)) = 45 :: Lib.decDigits m := by
      unfold Lib.itoa
      rw [if_pos hn]
      simp
    simp only [h, notB_true, Bool.false_eq_true, if_false, if_true, hl, hs, FormatInt_r1 m (by omega), some_bind', ha, hi]
  · obtain ⟨m, rfl⟩ : ∃ m : Nat, n = (m : Int) := ⟨n.toNat, by omega⟩
    have hl : ltZ (m : Int) 0 = false := by rw [Bool.eq_false_iff, Ne, ltZ_iff]; omega
    obtain ⟨h1, h2, h3⟩ := fmt_loop m (by omega)
    have hlen := dec_len6 (u := m) (by omega)
    have ha : addI [UInt8.ofNat (48 + leadD m)] (Lib.decDigits m).tail = some (UInt8.ofNat (48 + leadD m) :: (Lib.decDigits m).tail) := addI_ok (by
      have := congrArg List.length h2
      simp only [List.length_cons] at this
      rw [room_eq]; simp only [List.length_singleton]; omega)
    simp only [h, notB_true, Bool.false_eq_true, if_false, if_true, hl, h3, some_bind', digit_byte h1, ha, h2, Lib.itoa_nonneg]
theorem FormatInt_impl (n : Int) (u : Unit) : impl_FormatInt (n, u) () = some (fmtV n, ()) := by
  unfold impl_FormatInt fmtV
  simp only [fmt_within, some_bind']
  rcases tf (inB n (-100000) 100000) with h | h
  · simp [h, notB]
  have hb := inB_iff.1 h
  have hi : ∀ u, strconv_Itoa (n, u) () = some (Lib.itoa n, ()) := fun u => by
    unfold strconv_Itoa itoaF
    exact if_pos ⟨by show -9223372036854775808 ≤ n; omega, by show n ≤ 9223372036854775807; omega⟩
  simp only [h, notB_true, Bool.false_eq_true, if_false, if_true, hi, some_bind']
open Go.Abs
set_option linter.unusedVariables false

theorem proj_nameS {p : D_Project} (h : projB p = true) {i : Nat} (hi : i < p.2.1.length) : p.2.1[i].1.length ≤ 8 := by
  unfold projB at h
  simp only [Bool.and_eq_true] at h
  have h1 := List.all_eq_true.1 h.1.1.1.2 i (by simpa using hi)
  unfold actI at h1
  rw [List.getElem?_eq_getElem hi] at h1
  simp only [Bool.and_eq_true] at h1
  have h2 := h1.1
  unfold actB at h2
  simp only [Bool.and_eq_true] at h2
  have h3 := h2.2.1.1
  unfold nameB at h3
  simp only [Bool.and_eq_true] at h3
  have := inB_iff.1 h3.2
  omega
theorem proj_actsF {p : D_Project} (h : projB p = true) : 1 ≤ p.2.1.length ∧ p.2.1.length ≤ 6 := by
  unfold projB at h
  simp only [Bool.and_eq_true] at h
  have := inB_iff.1 h.1.1.1.1.1.1.1.2
  rw [lenI_eq] at this
  omega
open Go.Abs
set_option linter.unusedVariables false
set_option linter.unusedSimpArgs false

theorem proj_hor {p : D_Project} (h : projB p = true) : 1 ≤ p.1 ∧ p.1 ≤ 60 := by
  unfold projB at h
  simp only [Bool.and_eq_true] at h
  exact inB_iff.1 h.1.1.1.1.1.1.1.1
theorem proj_stepsR {p : D_Project} (h : projB p = true) {j : Nat} (hj : j < p.2.2.2.1.length) : stepsB p.2.2.2.1[j].1 = true := by
  unfold projB at h
  simp only [Bool.and_eq_true] at h
  have h1 := List.all_eq_true.1 h.1.1.2 _ (List.getElem_mem hj)
  unfold resrB at h1
  simp only [Bool.and_eq_true] at h1
  exact h1.2.1
def capVC (l : List D_Step) (t : Int) : Int := l.foldl (fun n s => if leZ s.1 t = true then s.2.1 else n) 0
theorem l03At_C (l : List D_Step) (t : Int) (u : Unit) (hl : l.length ≤ 1099511627776) : spec_l03At (l, t, u) () = some (capVC l t, ()) := by
  have l0 := fun A : Type => (fold_list (A := A) (F := spec_l03At_L0) (fun i n => ((i : Int), (l.length : Int), l, t, n, ())) l (fun _ _ => True) (fun n s => if leZ s.1 t = true then s.2.1 else n) (fun n => Sum.inl (false, (l.length : Int), (l.length : Int), l, t, n, ())) hl
    (fun i n hi _ => by
      refine ⟨?_, trivial⟩
      unfold spec_l03At_L0
      simp only [lt_yes hi, if_true, getI_lt hi, some_bind']
      rcases tf (leZ l[i].1 t) with h1 | h1 <;> simp [-Int.natCast_add, h1, idxN hi hl (Nat.le_refl _)])
    (fun n _ => by
      unfold spec_l03At_L0
      simp only [lt_no, Bool.false_eq_true, if_false])
    (a := 0) (s := (0, (l.length : Int), l, t, 0, ())) rfl trivial).1
  unfold spec_l03At capVC
  simp only [lenI_eq, l0, some_bind']
theorem capacityAt_C (l : List D_Step) (t : Int) (u : Unit) (hl : l.length ≤ 1099511627776) : impl_capacityAt (l, t, u) () = some (capVC l t, ()) := by
  have l0 := fun A : Type => (fold_list (A := A) (F := impl_capacityAt_L0) (fun i n => ((i : Int), (l.length : Int), l, t, n, ())) l (fun _ _ => True) (fun n s => if leZ s.1 t = true then s.2.1 else n) (fun n => Sum.inl (false, (l.length : Int), (l.length : Int), l, t, n, ())) hl
    (fun i n hi _ => by
      refine ⟨?_, trivial⟩
      unfold impl_capacityAt_L0
      simp only [lt_yes hi, if_true, getI_lt hi, some_bind']
      rcases tf (leZ l[i].1 t) with h1 | h1 <;> simp [-Int.natCast_add, h1, idxN hi hl (Nat.le_refl _)])
    (fun n _ => by
      unfold impl_capacityAt_L0
      simp only [lt_no, Bool.false_eq_true, if_false])
    (a := 0) (s := (0, (l.length : Int), l, t, 0, ())) rfl trivial).1
  unfold impl_capacityAt capVC
  simp only [lenI_eq, l0, some_bind']
theorem CapacityAt_C {l : List D_Step} {t : Nat} (u : Unit) (hl : l.length ≤ 1099511627776) (h : stepsB l = true) (ht : t ≤ 60) : spec_CapacityAt (l, (t : Int), u) () = some (capVC l (t : Int), ()) := by
  have hin : inB (t : Int) 0 60 = true := inB_iff.2 (by omega)
  unfold spec_CapacityAt
  simp only [StepsOk_spec _ _ hl, l01In_eq, some_bind', h, notB_true, Bool.false_eq_true, if_false, hin, l03At_C _ _ _ hl]
/-- a cell of a resource's row -/
def cellV (p : D_Project) (s : D_Schedule) (j t : Nat) : List UInt8 :=
  if ltZ (capVC (match p.2.2.2.1[j]? with | some r => r.1 | none => []) (t : Int)) (useV p s (j : Int) (t : Int)) = true then [33]
  else if ltZ 9 (useV p s (j : Int) (t : Int)) = true then [42] else fmtV (useV p s (j : Int) (t : Int))
theorem cellV_len (p : D_Project) (s : D_Schedule) (j t : Nat) : (cellV p s j t).length ≤ 7 := by
  have key : ∀ (b1 b2 : Bool) (x : List UInt8), x.length ≤ 7 → (if b1 = true then [33] else if b2 = true then [42] else x).length ≤ 7 := fun b1 b2 x h => by cases b1 <;> cases b2 <;> simp [h]
  exact key _ _ _ (fmtV_len _)
def rowR (p : D_Project) (s : D_Schedule) (j : Nat) : Nat → List UInt8
  | 0 => []
  | k + 1 => rowR p s j k ++ cellV p s j k
theorem rowR_len (p : D_Project) (s : D_Schedule) (j : Nat) : ∀ k, (rowR p s j k).length ≤ 7 * k
  | 0 => by simp [rowR]
  | k + 1 => by
    have h1 := rowR_len p s j k
    have h2 := cellV_len p s j k
    simp only [rowR, List.length_append]
    omega
/-- a resource's row -/
def resRowV (p : D_Project) (s : D_Schedule) (r : Int) : List UInt8 := if (formB p s && inB r 0 (subZ .i64 (lenI p.2.2.2.1) 1)) = true then rowR p s r.toNat p.1.toNat else []
theorem resRowV_len (p : D_Project) (s : D_Schedule) (r : Int) : (resRowV p s r).length ≤ 420 := by
  unfold resRowV
  split
  · rename_i h
    simp only [Bool.and_eq_true] at h
    have hn := proj_hor (proj_of_form h.1)
    have := rowR_len p s r.toNat p.1.toNat
    omega
  · simp
theorem lt10 (x : Int) : ltZ x 10 = notB (ltZ 9 x) := by
  rcases tf (ltZ 9 x) with h | h
  · rw [h]
    have : ¬ (9 < x) := fun hh => by rw [ltZ_iff.2 hh] at h; cases h
    show ltZ x 10 = true
    rw [ltZ_iff]
    omega
  · rw [h]
    rw [ltZ_iff] at h
    show ltZ x 10 = false
    rw [Bool.eq_false_iff, Ne, ltZ_iff]
    omega
theorem hasResource_C (p : D_Project) (a : Int) (u : Unit) : impl_Project_hasResource (p, a, u) () = some (inB a 0 (subZ .i64 (lenI p.2.2.2.1) 1), ()) := by
  unfold impl_Project_hasResource
  simp only [within_eq, some_bind']
theorem ResourceRow_spec (p : D_Project) (s : D_Schedule) (r : Int) (u : Unit) (hp : Sm_Project 1099511627776 p) : spec_ResourceRow (p, s, r, u) () = some (resRowV p s r, ()) := by
  unfold spec_ResourceRow resRowV
  simp only [ScheduleForm_spec _ _ _ hp, l01In_eq, some_bind']
  rcases tf (formB p s) with h | h
  · simp [h, notB]
  rcases tf (inB r 0 (subZ .i64 (lenI p.2.2.2.1) 1)) with h1 | h1
  · simp [h, h1, notB]
  have h1' := h1
  obtain ⟨j, rfl, hj⟩ := inB_place hp.2.2.2.1.1 h1
  have hok := proj_of_form h
  obtain ⟨n1, n2⟩ := proj_hor hok
  obtain ⟨n, hn⟩ : ∃ n : Nat, p.1 = (n : Int) := ⟨p.1.toNat, by omega⟩
  have hst := proj_stepsR hok hj
  have hsl := (hp.2.2.2.1.2 _ (List.getElem_mem hj)).1.1
  have hut : ∀ t : Int, useT p s (j : Int) t = useV p s (j : Int) t := fun t => by
    unfold useT
    simp only [h, h1', Bool.and_self, if_true]
  have l0 := fun A : Type => (fold_loop (A := A) (B := (Bool × Int × D_Schedule × D_Project × Int × List UInt8 × Unit) ⊕ Empty) (C := List UInt8 × Unit) (F := spec_ResourceRow_L0) (fun i (out : List UInt8) => ((i : Int), s, p, (j : Int), out, ())) n (fun i out => out = rowR p s j i) (fun i _ => rowR p s j (i + 1))
    (fun out => Sum.inl (false, (n : Int), s, p, (j : Int), out, ())) (by omega)
    (fun i out hi ho => by
      subst ho
      have hl : ltZ (i : Int) p.1 = true := by rw [ltZ_iff]; omega
      have k1 := rowR_len p s j i
      have k2 := fmtV_len (useV p s (j : Int) (i : Int))
      have ad : ∀ y : List UInt8, y.length ≤ 7 → addI (rowR p s j i) y = some (rowR p s j i ++ y) := fun y hy => addI_ok (by rw [room_eq]; omega)
      have a1 := ad [33] (by simp)
      have a2 := ad [42] (by simp)
      have a3 := ad _ k2
      refine ⟨?_, rfl⟩
      unfold spec_ResourceRow_L0
      simp only [hl, if_true, UsageAt_spec _ _ _ _ _ hp, hut, getI_lt hj, CapacityAt_C () hsl hst (show i ≤ 60 by omega), some_bind', rowR, cellV, List.getElem?_eq_getElem hj]
      rcases tf (ltZ (capVC p.2.2.2.1[j].1 (i : Int)) (useV p s (j : Int) (i : Int))) with e1 | e1 <;> rcases tf (ltZ 9 (useV p s (j : Int) (i : Int))) with e2 | e2 <;>
        simp only [e1, e2, if_true, if_false, Bool.false_eq_true, FormatInt_spec, a1, a2, a3, some_bind', idxN hi (Nat.le_refl n) (show n ≤ 1099511627776 by omega)])
    (fun out _ => by
      have hl : ltZ (n : Int) p.1 = false := by rw [Bool.eq_false_iff, Ne, ltZ_iff]; omega
      unfold spec_ResourceRow_L0
      simp only [hl, Bool.false_eq_true, if_false])
    (a := []) rfl)
  have hI := (l0 Unit).2
  have l1 := fun A : Type => (l0 A).1
  rw [hI] at l1
  have e0 : (((0 : Nat) : Int), s, p, (j : Int), ([] : List UInt8), ()) = ((0 : Int), s, p, (j : Int), ([] : List UInt8), ()) := rfl
  rw [e0] at l1
  have en : p.1.toNat = n := by omega
  simp only [h, h1', notB_true, Bool.false_eq_true, if_false, if_true, Bool.and_self, l1, some_bind', en, Int.toNat_natCast]
theorem ResourceRow_impl (p : D_Project) (s : D_Schedule) (r : Int) (u : Unit) (hp : Sm_Project 1099511627776 p) : impl_ResourceRow (p, s, r, u) () = some (resRowV p s r, ()) := by
  unfold impl_ResourceRow resRowV
  simp only [ScheduleForm_impl _ _ _ hp, hasResource_C, some_bind']
  rcases tf (formB p s) with h | h
  · simp [h, notB]
  rcases tf (inB r 0 (subZ .i64 (lenI p.2.2.2.1) 1)) with h1 | h1
  · simp [h, h1, notB]
  have h1' := h1
  obtain ⟨j, rfl, hj⟩ := inB_place hp.2.2.2.1.1 h1
  have hok := proj_of_form h
  obtain ⟨n1, n2⟩ := proj_hor hok
  obtain ⟨n, hn⟩ : ∃ n : Nat, p.1 = (n : Int) := ⟨p.1.toNat, by omega⟩
  have hsl := (hp.2.2.2.1.2 _ (List.getElem_mem hj)).1.1
  have l0 := fun A : Type => (fold_loop (A := A) (B := (Bool × Int × Int × D_Schedule × D_Project × Int × List UInt8 × Unit) ⊕ Empty) (C := List UInt8 × Unit) (F := impl_ResourceRow_L0) (fun i (out : List UInt8) => ((i : Int), (n : Int), s, p, (j : Int), out, ())) n (fun i out => out = rowR p s j i) (fun i _ => rowR p s j (i + 1))
    (fun out => Sum.inl (false, (n : Int), (n : Int), s, p, (j : Int), out, ())) (by omega)
    (fun i out hi ho => by
      subst ho
      have hl : ltZ (i : Int) (n : Int) = true := by rw [ltZ_iff]; omega
      have k1 := rowR_len p s j i
      have k2 := fmtV_len (useV p s (j : Int) (i : Int))
      have ad : ∀ y : List UInt8, y.length ≤ 7 → addI (rowR p s j i) y = some (rowR p s j i ++ y) := fun y hy => addI_ok (by rw [room_eq]; omega)
      have a1 := ad [33] (by simp)
      have a2 := ad [42] (by simp)
      have a3 := ad _ k2
      refine ⟨?_, rfl⟩
      unfold impl_ResourceRow_L0
      simp only [hl, if_true, usage_impl p s j _ _ hp h hj, getI_lt hj, capacityAt_C _ _ _ hsl, some_bind', rowR, cellV, List.getElem?_eq_getElem hj, lt10]
      rcases tf (ltZ (capVC p.2.2.2.1[j].1 (i : Int)) (useV p s (j : Int) (i : Int))) with e1 | e1 <;> rcases tf (ltZ 9 (useV p s (j : Int) (i : Int))) with e2 | e2 <;>
        simp only [e1, e2, notB_true, notB_false, if_true, if_false, Bool.false_eq_true, FormatInt_impl, a1, a2, a3, some_bind', idxN hi (Nat.le_refl n) (show n ≤ 1099511627776 by omega)])
    (fun out _ => by
      unfold impl_ResourceRow_L0
      simp only [lt_no, Bool.false_eq_true, if_false])
    (a := []) rfl)
  have hI := (l0 Unit).2
  have l1 := fun A : Type => (l0 A).1
  rw [hI] at l1
  have e0 : (((0 : Nat) : Int), (n : Int), s, p, (j : Int), ([] : List UInt8), ()) = ((0 : Int), p.1, s, p, (j : Int), ([] : List UInt8), ()) := by rw [hn]; rfl
  rw [e0] at l1
  have en : p.1.toNat = n := by omega
  simp only [h, h1', notB_true, Bool.false_eq_true, if_false, if_true, Bool.and_self, l1, some_bind', en, Int.toNat_natCast]
open Go.Abs
set_option linter.unusedVariables false
set_option linter.unusedSimpArgs false

def rowF (t e : Int) (i : Nat) (out : List UInt8) : List UInt8 := out ++ [if (leZ t i && ltZ i e) = true then 35 else 46]
def rowV (p : D_Project) (s : D_Schedule) (a : Int) : List UInt8 := match getI s.1 a, spec_l09End (p, s, a, ()) () with
  | some t, some e => foldN (rowF t e.1) p.1.toNat 0 []
  | _, _ => []
def rowB' (p : D_Project) (s : D_Schedule) (a : Int) : List UInt8 := if (formB p s && inB a 0 (subZ .i64 (lenI p.2.1) 1)) = true then rowV p s a else []
theorem ActivityRow_spec (p : D_Project) (s : D_Schedule) (a : Int) (u : Unit) (h : Sm_Project 1099511627776 p) : spec_ActivityRow (p, s, a, u) () = some (rowB' p s a, ()) := by
  unfold spec_ActivityRow rowB'
  simp only [ScheduleForm_spec _ _ _ h, l01In_eq, some_bind']
  cases h1 : formB p s with
  | false => simp [notB]
  | true =>
  cases h2 : inB a 0 (subZ .i64 (lenI p.2.1) 1) with
  | false => simp [notB, l01In_eq, h2]
  | true =>
  obtain ⟨i, rfl, hi⟩ := inB_place h.2.1.1 h2
  obtain ⟨t, m, md, g1, g2, g3, -, -, -, -, -⟩ := form_at h h1 hi
  have ge := fun u => end_eq (p := p) (s := s) u hi g1 g2 g3
  generalize addZ .i64 t md.1 = e at ge
  obtain ⟨d1, d2⟩ := proj_dead (proj_of_form h1)
  obtain ⟨n, hn⟩ : ∃ n : Nat, p.1 = (n : Int) := ⟨p.1.toNat, by omega⟩
  have hn6 : n ≤ 60 := by omega
  have l0 := fun A : Type => (fold_loop (A := A) (B := (Bool × Int × D_Project × D_Schedule × Int × List UInt8 × Unit) ⊕ Empty) (C := List UInt8 × Unit) (F := spec_ActivityRow_L0) (fun j out => ((j : Int), p, s, (i : Int), out, ())) n (fun j out => out.length = j) (rowF t e) (fun out => Sum.inl (false, (n : Int), p, s, (i : Int), out, ())) (by omega)
    (fun j out hj ho => by
      have hl : ltZ (j : Int) p.1 = true := by rw [hn]; exact lt_yes hj
      have ha : ∀ b : UInt8, addI out [b] = some (out ++ [b]) := fun b => addI_ok (by rw [room_eq]; simp; omega)
      refine ⟨?_, by unfold rowF; simp [ho]⟩
      unfold spec_ActivityRow_L0 rowF
      simp only [hl, if_true, g1, some_bind', ge]
      cases k1 : leZ t (j : Int) <;> cases k2 : ltZ (j : Int) e <;> simp [-Int.natCast_add, ha, ge, k2, idxN hj (Nat.le_refl _) (show n ≤ 1099511627776 by omega)])
    (fun out ho => by
      have hl : ltZ (n : Int) p.1 = false := by rw [hn]; exact lt_no n
      unfold spec_ActivityRow_L0
      simp only [hl, Bool.false_eq_true, if_false])
    (a := []) rfl).1
  have e0 : (((0 : Nat) : Int), p, s, (i : Int), ([] : List UInt8), ()) = ((0 : Int), p, s, (i : Int), ([] : List UInt8), ()) := rfl
  rw [e0] at l0
  simp only [notB_true, Bool.false_eq_true, if_false, h2, some_bind', l01In_eq, l0]
  simp only [rowV, g1, ge, hn, Int.toNat_natCast, Bool.and_self, if_true]
theorem ActivityRow_impl (p : D_Project) (s : D_Schedule) (a : Int) (u : Unit) (h : Sm_Project 1099511627776 p) : impl_ActivityRow (p, s, a, u) () = some (rowB' p s a, ()) := by
  unfold impl_ActivityRow rowB'
  simp only [ScheduleForm_impl _ _ _ h, hasActivity_eq, some_bind']
  cases h1 : formB p s with
  | false => simp [notB]
  | true =>
  cases h2 : inB a 0 (subZ .i64 (lenI p.2.1) 1) with
  | false => simp [notB, hasActivity_eq, h2]
  | true =>
  obtain ⟨i, rfl, hi⟩ := inB_place h.2.1.1 h2
  obtain ⟨t, m, md, g1, g2, g3, -, -, -, -, -⟩ := form_at h h1 hi
  have ge := fun u => end_eq (p := p) (s := s) u hi g1 g2 g3
  generalize addZ .i64 t md.1 = e at ge
  obtain ⟨d1, d2⟩ := proj_dead (proj_of_form h1)
  obtain ⟨n, hn⟩ : ∃ n : Nat, p.1 = (n : Int) := ⟨p.1.toNat, by omega⟩
  have hn6 : n ≤ 60 := by omega
  have l0 := fun A : Type => (fold_loop (A := A) (B := (Bool × Int × Int × D_Project × D_Schedule × Int × List UInt8 × Unit) ⊕ Empty) (C := List UInt8 × Unit) (F := impl_ActivityRow_L0) (fun j out => ((j : Int), p.1, p, s, (i : Int), out, ())) n (fun j out => out.length = j) (rowF t e) (fun out => Sum.inl (false, (n : Int), p.1, p, s, (i : Int), out, ())) (by omega)
    (fun j out hj ho => by
      have hl : ltZ (j : Int) p.1 = true := by rw [hn]; exact lt_yes hj
      have ha : ∀ b : UInt8, addI out [b] = some (out ++ [b]) := fun b => addI_ok (by rw [room_eq]; simp; omega)
      refine ⟨?_, by unfold rowF; simp [ho]⟩
      unfold impl_ActivityRow_L0 rowF
      simp only [hl, if_true, g1, some_bind', end_impl, ge]
      cases k1 : leZ t (j : Int) <;> cases k2 : ltZ (j : Int) e <;> simp [-Int.natCast_add, ha, ge, end_impl, k2, idxN hj (Nat.le_refl _) (show n ≤ 1099511627776 by omega)])
    (fun out ho => by
      have hl : ltZ (n : Int) p.1 = false := by rw [hn]; exact lt_no n
      unfold impl_ActivityRow_L0
      simp only [hl, Bool.false_eq_true, if_false])
    (a := []) rfl).1
  have e0 : (((0 : Nat) : Int), p.1, p, s, (i : Int), ([] : List UInt8), ()) = ((0 : Int), p.1, p, s, (i : Int), ([] : List UInt8), ()) := rfl
  rw [e0] at l0
  simp only [notB_true, Bool.false_eq_true, if_false, h2, some_bind', hasActivity_eq, l0]
  simp only [rowV, g1, ge, hn, Int.toNat_natCast, Bool.and_self, if_true]
open Go.Abs
set_option linter.unusedVariables false
set_option linter.unusedSimpArgs false

theorem foldN_rowF_len (t e : Int) : ∀ (k i : Nat) (out : List UInt8), (foldN (rowF t e) k i out).length = out.length + k
  | 0, i, out => rfl
  | k + 1, i, out => by
    show (foldN (rowF t e) k (i + 1) (rowF t e i out)).length = _
    rw [foldN_rowF_len t e k (i + 1)]
    unfold rowF
    simp only [List.length_append, List.length_singleton]
    omega
theorem rowB_len (p : D_Project) (s : D_Schedule) (a : Int) : (rowB' p s a).length ≤ 60 := by
  unfold rowB'
  split
  · rename_i h
    simp only [Bool.and_eq_true] at h
    have hn := proj_hor (proj_of_form h.1)
    unfold rowV
    split
    · rw [foldN_rowF_len]
      simp only [List.length_nil]
      omega
    · simp
  · simp
def actLine (p : D_Project) (s : D_Schedule) (i : Nat) : List UInt8 := (match p.2.1[i]? with | some a => a.1 | none => []) ++ ([32] ++ rowB' p s (i : Int))
def resLine (p : D_Project) (s : D_Schedule) (j : Nat) : List UInt8 := [114, 101, 115, 111, 117, 114, 99, 101] ++ (fmtV (j : Int) ++ ([32] ++ resRowV p s (j : Int)))
/-- so many further elements -/
def moreN (f : Nat → List UInt8) (l : List (List UInt8)) : Nat → List (List UInt8)
  | 0 => l
  | k + 1 => moreN f l k ++ [f k]
theorem moreN_len (f : Nat → List UInt8) (l : List (List UInt8)) : ∀ k, (moreN f l k).length = l.length + k
  | 0 => rfl
  | k + 1 => by simp only [moreN, List.length_append, List.length_singleton, moreN_len f l k]; omega
theorem moreN_mem {f : Nat → List UInt8} {l : List (List UInt8)} {B n : Nat} (hl : ∀ x ∈ l, x.length ≤ B) (hf : ∀ i, i < n → (f i).length ≤ B) : ∀ k, k ≤ n → ∀ x ∈ moreN f l k, x.length ≤ B
  | 0, _, x, hx => hl x hx
  | k + 1, hk, x, hx => by
    rcases List.mem_append.1 hx with hx | hx
    · exact moreN_mem hl hf k (by omega) x hx
    · rw [List.mem_singleton.1 hx]
      exact hf k (by omega)
def chartV (p : D_Project) (s : D_Schedule) : List (List UInt8) := if formB p s = true then moreN (resLine p s) (moreN (actLine p s) [] p.2.1.length) p.2.2.2.1.length else []
theorem proj_ress {p : D_Project} (h : projB p = true) : p.2.2.2.1.length ≤ 3 := by
  unfold projB at h
  simp only [Bool.and_eq_true] at h
  have := h.1.1.1.1.1.1.2
  rcases tf (ltZ 3 (lenI p.2.2.2.1)) with h3 | h3
  · have h3' : ¬ (3 < lenI p.2.2.2.1) := fun hh => by rw [ltZ_iff.2 hh] at h3; cases h3
    rw [lenI_eq] at h3'
    omega
  · rw [h3] at this
    cases this
theorem actLine_len {p : D_Project} {s : D_Schedule} (h : projB p = true) {i : Nat} (hi : i < p.2.1.length) : (actLine p s i).length ≤ 500 := by
  have h1 := proj_nameS h hi
  have h2 := rowB_len p s (i : Int)
  unfold actLine
  rw [List.getElem?_eq_getElem hi]
  simp only [List.length_append, List.length_singleton]
  omega
theorem resLine_len (p : D_Project) (s : D_Schedule) (j : Nat) : (resLine p s j).length ≤ 500 := by
  have h1 := fmtV_len (j : Int)
  have h2 := resRowV_len p s (j : Int)
  unfold resLine
  simp only [List.length_append, List.length_cons, List.length_nil]
  omega
theorem chartV_small (p : D_Project) (s : D_Schedule) : (chartV p s).length ≤ 9 ∧ ∀ x ∈ chartV p s, x.length ≤ 500 := by
  unfold chartV
  split
  · rename_i h
    have hok := proj_of_form h
    have hn := proj_actsF hok
    have hr := proj_ress hok
    constructor
    · rw [moreN_len, moreN_len]
      simp only [List.length_nil]
      omega
    · exact moreN_mem (n := p.2.2.2.1.length) (moreN_mem (n := p.2.1.length) (fun x hx => by cases hx) (fun i hi => actLine_len hok hi) _ (Nat.le_refl _)) (fun j _ => resLine_len p s j) _ (Nat.le_refl _)
  · exact ⟨by simp, fun x hx => by cases hx⟩
theorem ChartRows_both (p : D_Project) (s : D_Schedule) (hp : Sm_Project 1099511627776 p) : (∀ u, spec_ChartRows (p, s, u) () = some (chartV p s, ())) ∧ ∀ u, impl_ChartRows (p, s, u) () = some (chartV p s, ()) := by
  rcases tf (formB p s) with h | h
  · constructor <;> intro u
    · unfold spec_ChartRows chartV
      simp only [ScheduleForm_spec _ _ _ hp, some_bind', h]
      simp [notB]
    · unfold impl_ChartRows chartV
      simp only [ScheduleForm_impl _ _ _ hp, some_bind', h]
      simp [notB]
  have hok := proj_of_form h
  have hn := proj_actsF hok
  have hr := proj_ress hok
  have ad : ∀ x y : List UInt8, x.length ≤ 1000 → y.length ≤ 1000 → addI x y = some (x ++ y) := fun x y h1 h2 => addI_ok (by rw [room_eq]; omega)
  have aw : ∀ (out : List (List UInt8)) (x : List UInt8), out.length ≤ 100 → addI out [x] = some (out ++ [x]) := fun out x h => addI_ok (by rw [room_eq]; simp; omega)
  have pa : ∀ i (hi : i < p.2.1.length), addI p.2.1[i].1 [32] = some (p.2.1[i].1 ++ [32]) ∧ addI (p.2.1[i].1 ++ [32]) (rowB' p s (i : Int)) = some (actLine p s i) := fun i hi => by
    have h1 := proj_nameS hok hi
    have h2 := rowB_len p s (i : Int)
    refine ⟨ad _ _ (by omega) (by simp), ?_⟩
    rw [ad _ _ (by simp only [List.length_append, List.length_singleton]; omega) (by omega)]
    unfold actLine
    rw [List.getElem?_eq_getElem hi]
    simp only [List.append_assoc]
  have pr : ∀ j : Nat, addI [114, 101, 115, 111, 117, 114, 99, 101] (fmtV (j : Int)) = some ([114, 101, 115, 111, 117, 114, 99, 101] ++ fmtV (j : Int)) ∧ addI ([114, 101, 115, 111, 117, 114, 99, 101] ++ fmtV (j : Int)) [32] = some ([114, 101, 115, 111, 117, 114, 99, 101] ++ (fmtV (j : Int) ++ [32])) ∧
      addI ([114, 101, 115, 111, 117, 114, 99, 101] ++ (fmtV (j : Int) ++ [32])) (resRowV p s (j : Int)) = some (resLine p s j) := fun j => by
    have h1 := fmtV_len (j : Int)
    have h2 := resRowV_len p s (j : Int)
    refine ⟨ad _ _ (by simp) (by omega), ?_, ?_⟩
    · rw [ad _ _ (by simp only [List.length_append, List.length_cons, List.length_nil]; omega) (by simp), List.append_assoc]
    · rw [ad _ _ (by simp only [List.length_append, List.length_cons, List.length_nil]; omega) (by omega)]
      unfold resLine
      rw [List.append_assoc, List.append_assoc]
  constructor <;> intro u
  · have l0 := fun A : Type => fold_loop (A := A) (F := spec_ChartRows_L0) (fun i (out : List (List UInt8)) => ((i : Int), (p.2.1.length : Int), p.2.1, p, s, out, ())) p.2.1.length (fun i out => out = moreN (actLine p s) [] i) (fun i _ => moreN (actLine p s) [] (i + 1))
      (fun out => Sum.inl (false, (p.2.1.length : Int), (p.2.1.length : Int), p.2.1, p, s, out, ())) (by omega)
      (fun i out hi ho => by
        subst ho
        obtain ⟨a1, a2⟩ := pa i hi
        have a5 := aw (moreN (actLine p s) [] i) (actLine p s i) (by rw [moreN_len]; simp only [List.length_nil]; omega)
        refine ⟨?_, rfl⟩
        unfold spec_ChartRows_L0
        simp only [lt_yes hi, if_true, getI_lt hi, some_bind', ActivityRow_spec _ _ _ _ hp, a1, a2, a5, moreN, idxN hi (Nat.le_refl _) (show p.2.1.length ≤ 1099511627776 by omega)])
      (fun out _ => by
        unfold spec_ChartRows_L0
        simp only [lt_no, Bool.false_eq_true, if_false])
      (a := []) rfl
    have hI := (l0 Unit).2
    have m0 := fun A : Type => (l0 A).1
    rw [hI] at m0
    have e0 : (((0 : Nat) : Int), (p.2.1.length : Int), p.2.1, p, s, ([] : List (List UInt8)), ()) = ((0 : Int), (p.2.1.length : Int), p.2.1, p, s, ([] : List (List UInt8)), ()) := rfl
    rw [e0] at m0
    have l1 := fun A : Type => fold_loop (A := A) (F := spec_ChartRows_L1) (fun i (out : List (List UInt8)) => ((i : Int), (p.2.2.2.1.length : Int), p, s, out, ())) p.2.2.2.1.length (fun i out => out = moreN (resLine p s) (moreN (actLine p s) [] p.2.1.length) i) (fun i _ => moreN (resLine p s) (moreN (actLine p s) [] p.2.1.length) (i + 1))
      (fun out => Sum.inl (false, (p.2.2.2.1.length : Int), (p.2.2.2.1.length : Int), p, s, out, ())) (by omega)
      (fun i out hi ho => by
        subst ho
        obtain ⟨a1, a2, a3⟩ := pr i
        have a5 := aw (moreN (resLine p s) (moreN (actLine p s) [] p.2.1.length) i) (resLine p s i) (by rw [moreN_len, moreN_len]; simp only [List.length_nil]; omega)
        refine ⟨?_, rfl⟩
        unfold spec_ChartRows_L1
        simp only [lt_yes hi, if_true, some_bind', FormatInt_spec, ResourceRow_spec _ _ _ _ hp, a1, a2, a3, a5, moreN, idxN hi (Nat.le_refl _) (show p.2.2.2.1.length ≤ 1099511627776 by omega)])
      (fun out _ => by
        unfold spec_ChartRows_L1
        simp only [lt_no, Bool.false_eq_true, if_false])
      (a := moreN (actLine p s) [] p.2.1.length) rfl
    have hJ := (l1 Unit).2
    have m1 := fun A : Type => (l1 A).1
    rw [hJ] at m1
    have e1 : (((0 : Nat) : Int), (p.2.2.2.1.length : Int), p, s, moreN (actLine p s) [] p.2.1.length, ()) = ((0 : Int), (p.2.2.2.1.length : Int), p, s, moreN (actLine p s) [] p.2.1.length, ()) := rfl
    rw [e1] at m1
    unfold spec_ChartRows chartV
    simp only [ScheduleForm_spec _ _ _ hp, some_bind', h, notB_true, Bool.false_eq_true, if_false, if_true, lenI_eq, m0, m1]
  · have l0 := fun A : Type => fold_loop (A := A) (F := impl_ChartRows_L0) (fun i (out : List (List UInt8)) => ((i : Int), (p.2.1.length : Int), p.2.1, p, s, out, ())) p.2.1.length (fun i out => out = moreN (actLine p s) [] i) (fun i _ => moreN (actLine p s) [] (i + 1))
      (fun out => Sum.inl (false, (p.2.1.length : Int), (p.2.1.length : Int), p.2.1, p, s, out, ())) (by omega)
      (fun i out hi ho => by
        subst ho
        obtain ⟨a1, a2⟩ := pa i hi
        have a5 := aw (moreN (actLine p s) [] i) (actLine p s i) (by rw [moreN_len]; simp only [List.length_nil]; omega)
        refine ⟨?_, rfl⟩
        unfold impl_ChartRows_L0
        simp only [lt_yes hi, if_true, getI_lt hi, some_bind', ActivityRow_impl _ _ _ _ hp, a1, a2, a5, moreN, idxN hi (Nat.le_refl _) (show p.2.1.length ≤ 1099511627776 by omega)])
      (fun out _ => by
        unfold impl_ChartRows_L0
        simp only [lt_no, Bool.false_eq_true, if_false])
      (a := []) rfl
    have hI := (l0 Unit).2
    have m0 := fun A : Type => (l0 A).1
    rw [hI] at m0
    have e0 : (((0 : Nat) : Int), (p.2.1.length : Int), p.2.1, p, s, ([] : List (List UInt8)), ()) = ((0 : Int), (p.2.1.length : Int), p.2.1, p, s, ([] : List (List UInt8)), ()) := rfl
    rw [e0] at m0
    have l1 := fun A : Type => fold_loop (A := A) (F := impl_ChartRows_L1) (fun i (out : List (List UInt8)) => ((i : Int), (p.2.2.2.1.length : Int), p, s, out, ())) p.2.2.2.1.length (fun i out => out = moreN (resLine p s) (moreN (actLine p s) [] p.2.1.length) i) (fun i _ => moreN (resLine p s) (moreN (actLine p s) [] p.2.1.length) (i + 1))
      (fun out => Sum.inl (false, (p.2.2.2.1.length : Int), (p.2.2.2.1.length : Int), p, s, out, ())) (by omega)
      (fun i out hi ho => by
        subst ho
        obtain ⟨a1, a2, a3⟩ := pr i
        have a5 := aw (moreN (resLine p s) (moreN (actLine p s) [] p.2.1.length) i) (resLine p s i) (by rw [moreN_len, moreN_len]; simp only [List.length_nil]; omega)
        refine ⟨?_, rfl⟩
        unfold impl_ChartRows_L1
        simp only [lt_yes hi, if_true, some_bind', FormatInt_impl, ResourceRow_impl _ _ _ _ hp, a1, a2, a3, a5, moreN, idxN hi (Nat.le_refl _) (show p.2.2.2.1.length ≤ 1099511627776 by omega)])
      (fun out _ => by
        unfold impl_ChartRows_L1
        simp only [lt_no, Bool.false_eq_true, if_false])
      (a := moreN (actLine p s) [] p.2.1.length) rfl
    have hJ := (l1 Unit).2
    have m1 := fun A : Type => (l1 A).1
    rw [hJ] at m1
    have e1 : (((0 : Nat) : Int), (p.2.2.2.1.length : Int), p, s, moreN (actLine p s) [] p.2.1.length, ()) = ((0 : Int), (p.2.2.2.1.length : Int), p, s, moreN (actLine p s) [] p.2.1.length, ()) := rfl
    rw [e1] at m1
    unfold impl_ChartRows chartV
    simp only [ScheduleForm_impl _ _ _ hp, some_bind', h, notB_true, Bool.false_eq_true, if_false, if_true, lenI_eq, m0, m1]
end Go.Proofs.YtholdafohofboaaGreatDoor
