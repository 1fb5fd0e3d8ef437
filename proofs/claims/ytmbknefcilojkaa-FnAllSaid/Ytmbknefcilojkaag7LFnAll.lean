/-
  Plain laws: small projects that are drawn; all schedules counted; the best; for every code the law FnAll returns true.
-/
import Derived.Test.Ytmbknefcilojkaag7LAllM
import Derived.Test.Ytmbknefcilojkaag7LBoxM
import Derived.Test.Ytmbknefcilojkaag7LSpan
namespace Go.Proofs.Ytmbknefcilojkaa
open Go.Abs
set_option linter.unusedVariables false
set_option linter.unusedSimpArgs false

theorem MakeSmall_eq (b : List Int) (hb : b.length ≤ 1048576) : ∃ p, GenP 2 p ∧ spec_MakeSmall (b, ()) () = some (p, ()) := by
  unfold spec_MakeSmall
  obtain ⟨c, hc, e⟩ := l01New_eq b hb
  obtain ⟨p, c', hp, hc', e2⟩ := l05Draw_eq c hc 2 (by omega) (by omega)
  have e2' : spec_l05Draw (c, (2, ())) () = some (p, c') := e2
  obtain ⟨k, hk, c2, hc2, e3⟩ := l01Below_eq c' hc' 4 (by omega) (by omega)
  have e3' : spec_l01Below (c', (4, ())) () = some ((k : Int), c2) := e3
  have hadd : addZ .i64 3 (k : Int) = 3 + (k : Int) := addZ64 (by omega) (by omega)
  simp only [e, Option.bind_some, e2', e3', hadd]
  exact ⟨(3 + (k : Int), p.2), ⟨by show 1 ≤ 3 + (k : Int) ∧ 3 + (k : Int) ≤ 23; omega, hp.rl, hp.r, hp.sl, hp.s, hp.al, hp.a, hp.kl, hp.k⟩, rfl⟩
theorem allS_len {p : D_Project} {k : Nat} (hP : GenP 2 p) (hk : k ≤ 12) {s : D_Schedule} (h : s ∈ allS p k) : s.1.length = p.2.1.length ∧ s.2.1.length = p.2.1.length := by
  have hal := hP.al
  have hmod : ∀ a ∈ p.2.1, a.2.2.1.length ≤ 3 := fun a ha => by
    obtain ⟨i, hi, rfl⟩ := List.mem_iff_getElem.1 ha
    have := (hP.a i hi).ml
    omega
  obtain ⟨ll, lm⟩ := listsOf_ok p.2.1 (by omega) hmod
  obtain ⟨sl, sm⟩ := startsV_ok (n := p.2.1.length) (m := k) (by omega) hk
  unfold allS oneS at h
  obtain ⟨l, hl, h⟩ := List.mem_flatMap.1 h
  obtain ⟨t, ht, rfl⟩ := List.mem_map.1 h
  exact ⟨sm _ (List.mem_filter.1 ht).1, (lm _ hl).1⟩
def cntV (b : D_Domain) (l : List D_Schedule) : Int := l.foldl (fun n s => if conB b s = true then addZ .i64 n 1 else n) 0
theorem prod_eq : ∀ (acts : List D_Activity) (N : Nat), (∀ a ∈ acts, a.2.2.1.length ≤ 2) → N * 2 ^ acts.length ≤ 1000000 →
    acts.foldl (fun n a => mulZ .i64 n (lenI a.2.2.1)) (N : Int) = ((acts.foldl (fun n a => n * a.2.2.1.length) N : Nat) : Int)
  | [], N, _, _ => rfl
  | a :: acts, N, h, hb => by
    have ha := h a (by simp)
    have h1 : N * a.2.2.1.length ≤ N * 2 := Nat.mul_le_mul_left N ha
    have h2 : N * a.2.2.1.length * 2 ^ acts.length ≤ 1000000 := by
      have := Nat.mul_le_mul_right (2 ^ acts.length) h1
      rw [List.length_cons, Nat.pow_succ, Nat.mul_comm (2 ^ acts.length) 2, ← Nat.mul_assoc] at hb
      omega
    have h3 : N * a.2.2.1.length ≤ 1000000 := Nat.le_trans (Nat.le_mul_of_pos_right _ (Nat.two_pow_pos _)) h2
    have e : mulZ .i64 (N : Int) (lenI a.2.2.1) = ((N * a.2.2.1.length : Nat) : Int) := by
      have e : (N : Int) * (a.2.2.1.length : Int) = ((N * a.2.2.1.length : Nat) : Int) := by push_cast; rfl
      rw [lenI_eq]
      show IntKind.i64.wrap _ = _
      rw [e]
      exact wrap64 (by omega) (by omega)
    rw [List.foldl_cons, List.foldl_cons, e]
    exact prod_eq acts _ (fun a ha => h a (by simp [ha])) h2
theorem BestSchedule_G {p : D_Project} (hp : Sm_Project 1099511627776 p) {k : Int} {l : List D_Schedule} (hl : l.length ≤ 60000) (hA : ∀ u, impl_AllSchedules (p, k, u) () = some (l, ())) (u : Unit) :
    ∃ x ok, impl_BestSchedule (p, k, u) () = some ((x, (ok, ())), ()) ∧ ok = decide (0 < l.length) ∧ (ok = true → x ∈ l) := by
  have l0 := fun A : Type => fold_list (A := A) (F := impl_BestSchedule_L0) (fun i (a : D_Schedule × Bool) => ((i : Int), (l.length : Int), l, p, a.1, a.2, ([], [], ()), ())) l (fun i a => a.2 = decide (0 < i) ∧ (0 < i → a.1 ∈ l))
    (fun a s => if (notB a.2 || ltZ (if formB p s = true then spanV p s else -1) (if formB p a.1 = true then spanV p a.1 else -1)) = true then (s, true) else a)
    (fun a => Sum.inl (false, (l.length : Int), (l.length : Int), l, p, a.1, a.2, ([], [], ()), ())) (by omega)
    (fun i a hi ha => by
      obtain ⟨best, found⟩ := a
      obtain ⟨ha1, ha2⟩ := ha
      simp only at ha1 ha2
      constructor
      · unfold impl_BestSchedule_L0
        simp only [lt_yes hi, if_true, getI_lt hi, some_bind']
        rcases tf found with q1 | q1
        · simp [-Int.natCast_add, q1, notB, idxN hi (Nat.le_refl _) (show l.length ≤ 1099511627776 by omega)]
        · simp only [q1, notB_true, Bool.false_eq_true, if_false, Makespan_impl _ _ _ hp, some_bind', Bool.false_or]
          rcases tf (ltZ (if formB p l[i] = true then spanV p l[i] else -1) (if formB p best = true then spanV p best else -1)) with q2 | q2 <;> simp [-Int.natCast_add, q2, idxN hi (Nat.le_refl _) (show l.length ≤ 1099511627776 by omega)]
      · have hd : decide (0 < i + 1) = true := by simp
        rw [hd]
        by_cases q : (notB found || ltZ (if formB p l[i] = true then spanV p l[i] else -1) (if formB p best = true then spanV p best else -1)) = true
        · rw [if_pos q]
          exact ⟨rfl, fun _ => List.getElem_mem hi⟩
        · rw [if_neg q]
          have hf : found = true := by
            rcases tf found with h | h
            · rw [h] at q; exact absurd rfl q
            · exact h
          rw [hf] at ha1
          have h0 : 0 < i := by
            have := ha1.symm
            simpa using this
          exact ⟨hf, fun _ => ha2 h0⟩)
    (fun a _ => by
      unfold impl_BestSchedule_L0
      simp only [lt_no, Bool.false_eq_true, if_false])
    (a := (([], [], ()), false)) (s := ((0 : Int), (l.length : Int), l, p, ([], [], ()), false, ([], [], ()), ())) rfl ⟨rfl, fun h => absurd h (by omega)⟩
  obtain ⟨h1, h2⟩ := (l0 Unit).2
  have l1 := fun A : Type => (l0 A).1
  generalize l.foldl (fun (a : D_Schedule × Bool) s => if (notB a.2 || ltZ (if formB p s = true then spanV p s else -1) (if formB p a.1 = true then spanV p a.1 else -1)) = true then (s, true) else a) (([], [], ()), false) = z at h1 h2 l1
  obtain ⟨x, ok⟩ := z
  refine ⟨x, ok, ?_, h1, fun h => h2 ?_⟩
  · unfold impl_BestSchedule
    simp only [hA, some_bind', lenI_eq, l1]
  · simp only at h1
    rw [h1] at h
    simpa using h
theorem CountSchedules_G {p : D_Project} {b : D_Domain} (hb : Sm_Domain 1099511627776 b) {k : Int} {l : List D_Schedule} (hl : l.length ≤ 60000) (hs : ∀ s ∈ l, s.1.length ≤ 1099511627776) (hA : ∀ u, impl_AllSchedules (p, k, u) () = some (l, ())) (u : Unit) :
    impl_CountSchedules (p, b, k, u) () = some (cntV b l, ()) := by
  have l0 := fun A : Type => (fold_list (A := A) (F := impl_CountSchedules_L0) (fun i (n : Int) => ((i : Int), (l.length : Int), l, b, n, ())) l (fun _ _ => True) (fun n s => if conB b s = true then addZ .i64 n 1 else n)
    (fun n => Sum.inl (false, (l.length : Int), (l.length : Int), l, b, n, ())) (by omega)
    (fun i n hi _ => by
      have k2 := fun u => Contains_impl b l[i] u hb (hs _ (List.getElem_mem hi))
      refine ⟨?_, trivial⟩
      unfold impl_CountSchedules_L0
      simp only [lt_yes hi, if_true, getI_lt hi, some_bind', k2]
      rcases tf (conB b l[i]) with q | q <;> simp [-Int.natCast_add, q, idxN hi (Nat.le_refl _) (show l.length ≤ 1099511627776 by omega)])
    (fun n _ => by
      unfold impl_CountSchedules_L0
      simp only [lt_no, Bool.false_eq_true, if_false])
    (a := 0) (s := ((0 : Int), (l.length : Int), l, b, (0 : Int), ())) rfl trivial).1
  unfold impl_CountSchedules cntV
  simp only [hA, some_bind', lenI_eq, l0]
theorem plain_FnAll (c : List Int) : laws_FnAll (c, ()) () = some (true, ()) := by
  unfold laws_FnAll
  simp only [lenI_eq]
  rcases tf (ltZ 1048576 (c.length : Int)) with hc | hc
  · have hc' : c.length ≤ 1048576 := by
      rw [Bool.eq_false_iff, Ne, ltZ_iff] at hc
      omega
    obtain ⟨p, hP2, ep⟩ := MakeSmall_eq c hc'
    have hP := hP2.mono (show 2 ≤ 6 by omega)
    obtain ⟨b, hB, eb⟩ := MakeBox_eq c hc' p hP
    have hal := hP2.al
    have hp : Sm_Project 1099511627776 p := hP.sm (by omega) (by omega)
    have hbs : Sm_Domain 1099511627776 b := hB.toGenB0.sm hP (by omega)
    have hok := hP.ok (Nat.le_refl _)
    have hA5 : ∀ u, impl_AllSchedules (p, 5, u) () = some (allS p 5, ()) := fun u => (AllSchedules_implV p 5 u hp hok (by omega) (by omega)).1
    have hA3 : ∀ u, impl_AllSchedules (p, 3, u) () = some (allS p 3, ()) := fun u => (AllSchedules_implV p 3 u hp hok (by omega) (by omega)).1
    have hl5 := (AllSchedules_implV p 5 () hp hok (by omega) (by omega)).2
    have hsub := (allS_sub p (show 3 ≤ 5 by omega)).length_le
    have hnd := allS_nodup p 5
    have hlen : ∀ s ∈ allS p 5, s.1.length = p.2.1.length ∧ s.2.1.length = p.2.1.length := fun s hs => allS_len hP2 (by omega) hs
    have hmem : ∀ s ∈ allS p 5, okV p s = true := fun s hs => allS_mem hs
    obtain ⟨L3, hL3⟩ : ∃ L3, L3 = allS p 3 := ⟨_, rfl⟩
    obtain ⟨L, hL⟩ : ∃ L, L = allS p 5 := ⟨_, rfl⟩
    rw [← hL3] at hA3 hsub
    rw [← hL] at hA5 hl5 hsub hnd hlen hmem
    obtain ⟨x, ok, eB, hok1, hok2⟩ := BestSchedule_G hp hl5 hA5 ()
    have eC := CountSchedules_G (b := b) hbs hl5 (fun s hs => by rw [(hlen s hs).1]; omega) hA5 ()
    have l0 := fun A : Type => (fold_list (A := A) (C := Bool × Unit) (F := laws_FnAll_L0) (fun i (n : Int) => ((i : Int), (L.length : Int), L, b, n, p, L, ())) L (fun _ _ => True) (fun n s => if conB b s = true then addZ .i64 n 1 else n)
      (fun n => Sum.inl (false, (L.length : Int), (L.length : Int), L, b, n, p, L, ())) (by omega)
      (fun i n hi _ => by
        have hm := List.getElem_mem hi
        have k2 := fun u => Contains_impl b L[i] u hbs (by rw [(hlen _ hm).1]; omega)
        refine ⟨?_, trivial⟩
        unfold laws_FnAll_L0
        simp only [lt_yes hi, if_true, getI_lt hi, some_bind', ScheduleOk_impl _ _ _ hp, hmem _ hm, notB_true, Bool.false_eq_true, if_false]
        by_cases h0 : 0 < i
        · have q0 : ltZ 0 (i : Int) = true := by rw [ltZ_iff]; omega
          have hi' : i - 1 < L.length := by omega
          have es : subZ .i64 (i : Int) 1 = ((i - 1 : Nat) : Int) := by rw [subZ64 (by omega) (by omega)]; omega
          have hne : L[i - 1] ≠ L[i] := List.pairwise_iff_getElem.1 (List.nodup_iff_pairwise_ne.1 hnd) (i - 1) i hi' hi (by omega)
          have ee : ∀ u, impl_ScheduleEqual (L[i - 1], L[i], u) () = some (false, ()) := fun u => by
            obtain ⟨m1, m2⟩ := hlen _ (List.getElem_mem hi')
            unfold impl_ScheduleEqual
            simp only [Equal_int _ _ _ (show L[i - 1].1.length ≤ 1099511627776 by omega), Equal_int _ _ _ (show L[i - 1].2.1.length ≤ 1099511627776 by omega), some_bind']
            by_cases d1 : L[i - 1].1 = L[i].1
            · by_cases d2 : L[i - 1].2.1 = L[i].2.1
              · exact absurd (Prod.ext d1 (Prod.ext d2 rfl)) hne
              · simp [d1, d2]
            · simp [d1]
          simp only [q0, if_true, es, getI_lt hi', some_bind', ee, Bool.false_eq_true, if_false, k2]
          rcases tf (conB b L[i]) with q | q <;> simp [-Int.natCast_add, q, idxN hi (Nat.le_refl _) (show L.length ≤ 1099511627776 by omega)]
        · have q0 : ltZ 0 (i : Int) = false := by rw [Bool.eq_false_iff, Ne, ltZ_iff]; omega
          simp only [q0, Bool.false_eq_true, if_false, some_bind', k2]
          rcases tf (conB b L[i]) with q | q <;> simp [-Int.natCast_add, q, idxN hi (Nat.le_refl _) (show L.length ≤ 1099511627776 by omega)])
      (fun n _ => by
        unfold laws_FnAll_L0
        simp only [lt_no, Bool.false_eq_true, if_false])
      (a := 0) (s := ((0 : Int), (L.length : Int), L, b, (0 : Int), p, L, ())) rfl trivial).1
    have eN : L.foldl (fun n s => if conB b s = true then addZ .i64 n 1 else n) 0 = cntV b L := rfl
    rw [eN] at l0
    simp only [hc, Bool.false_eq_true, if_false, ep, hA5, eb, some_bind', lenI_eq, l0, eB]
    generalize cntV b L = N at *
    have k0 := fun A : Type => (fold_list (A := A) (C := Bool × Unit) (F := laws_FnAll_L1) (fun i (m : Int) => ((i : Int), (p.2.1.length : Int), p.2.1, b, N, ok, x, m, p, L, ())) p.2.1 (fun _ _ => True) (fun m a => mulZ .i64 m (lenI a.2.2.1))
      (fun m => Sum.inl (false, (p.2.1.length : Int), (p.2.1.length : Int), p.2.1, b, N, ok, x, m, p, L, ())) (by omega)
      (fun i m hi _ => by
        refine ⟨?_, trivial⟩
        unfold laws_FnAll_L1
        simp only [lt_yes hi, if_true, getI_lt hi, some_bind', idxN hi (Nat.le_refl _) (show p.2.1.length ≤ 1099511627776 by omega)])
      (fun m _ => by
        unfold laws_FnAll_L1
        simp only [lt_no, Bool.false_eq_true, if_false])
      (a := 1) (s := ((0 : Int), (p.2.1.length : Int), p.2.1, b, N, ok, x, (1 : Int), p, L, ())) rfl trivial).1
    have hml : ∀ a ∈ p.2.1, a.2.2.1.length ≤ 2 := fun a ha => by
      obtain ⟨i, hi, rfl⟩ := List.mem_iff_getElem.1 ha
      exact (hP.a i hi).ml.2
    have hpow : 1 * 2 ^ p.2.1.length ≤ 1000000 := by
      have : 2 ^ p.2.1.length ≤ 2 ^ 2 := Nat.pow_le_pow_right (by omega) hal.2
      omega
    have eM := prod_eq p.2.1 1 hml hpow
    rw [← listsOf_count] at eM
    have eM' : p.2.1.foldl (fun n a => mulZ .i64 n (lenI a.2.2.1)) 1 = ((listsOf p.2.1).length : Int) := eM
    rw [eM'] at k0
    have eA : ∀ u, impl_AllModeLists (p, u) () = some (listsOf p.2.1, ()) := fun u => by
      rw [AllModeLists_impl p u hp]
      unfold allV
      rw [if_pos hok]
    have hle : leZ (L3.length : Int) (L.length : Int) = true := by rw [leZ_iff]; omega
    have hlt : ltZ 0 (L.length : Int) = ok := by
      rw [hok1, Bool.eq_iff_iff, ltZ_iff, decide_eq_true_eq]
      omega
    simp only [k0, some_bind', eC, eqZ_self, if_true, lenI_eq, hlt, eqB_self]
    rcases tf ok with q | q
    · simp only [q, notB_false, if_true, eA, some_bind', lenI_eq, eqZ_self, hA3, hle]
    · have hx := hmem x (hok2 q)
      simp only [q, notB_true, Bool.false_eq_true, if_false, ScheduleOk_impl _ _ _ hp, hx, some_bind', if_true, eA, lenI_eq, eqZ_self, hA3, hle]
  · simp only [hc, if_true]
theorem L_FnAll (x : Ty.dens H_laws_FnAll.ps) (h : Ty.fits H_laws_FnAll.ps x) : laws_FnAll x () = some (true, ()) := by
  obtain ⟨b, u⟩ := x
  exact plain_FnAll b
end Go.Proofs.Ytmbknefcilojkaa
