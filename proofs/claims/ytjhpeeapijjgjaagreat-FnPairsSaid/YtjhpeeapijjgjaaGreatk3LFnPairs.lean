/-
  Plain laws: for every code the law FnPairs returns true.
-/
import Derived.Test.YtjhpeeapijjgjaaGreatk3LPairsM
import Derived.Test.YtjhpeeapijjgjaaGreatk3LAllM
namespace Go.Proofs.YtjhpeeapijjgjaaGreat
open Go.Abs
set_option linter.unusedVariables false
set_option linter.unusedSimpArgs false

theorem go_loop {σ B C : Type} {F : σ → Option (Out σ B C)} (emb : Nat → σ) (n : Nat) (b : B) (hn : n ≤ 1099511627776) (hs : ∀ i, i < n → F (emb i) = some (.norm (emb (i + 1)))) (he : F (emb n) = some (.exit b)) {s : σ} (hs0 : s = emb 0) (A : Type) :
    loopN (A := A) big F s = some (.exit b) := by
  subst hs0
  exact (fold_loop (A := A) (F := F) (fun i (_ : Unit) => emb i) n (fun _ _ => True) (fun _ a => a) (fun _ => b) hn (fun i a hi _ => ⟨hs i hi, trivial⟩) (fun a _ => he) (a := ()) trivial).1
theorem EndTime_P (p : D_Project) (s : D_Schedule) (i : Nat) (u : Unit) (hp : Sm_Project 1099511627776 p) (h : formB p s = true) (hi : i < p.2.1.length) : impl_EndTime (p, s, (i : Int), u) () = some (endV p s (i : Int), ()) := by
  have hin : inB (i : Int) 0 (subZ .i64 (lenI p.2.1) 1) = true := by
    have hle := hp.2.1.1
    rw [inB_iff, lenI_eq, subZ64 (by omega) (by omega)]
    omega
  obtain ⟨ge, -⟩ := endV_at hp h hi
  unfold impl_EndTime impl_Project_hasActivity
  simp only [ScheduleForm_impl _ _ _ hp, within_eq, some_bind', h, notB_true, Bool.false_eq_true, if_false, hin, end_impl, ge]
theorem allS_lenP {p : D_Project} {k : Nat} (hP : GenP 2 p) (hk : k ≤ 12) {s : D_Schedule} (h : s ∈ allS p k) : s.1.length = p.2.1.length ∧ s.2.1.length = p.2.1.length := by
  have := sch_of_form (form_of_ok (allS_mem h))
  exact ⟨this.s1, this.s2⟩
theorem GenB.useD {p : D_Project} {b : D_Domain} (hP : GenP 6 p) (h : GenB p b) : UseD p b := by
  refine ⟨hP.sm (by omega) (by omega), h.toGenB0.sm hP (by omega), h.toGenB0.dom hP, empty_not (fun i h1 h2 => h.le i h1 h2) (fun m hm => ?_), h.l⟩
  obtain ⟨i, hi, rfl⟩ := List.mem_iff_getElem.1 hm
  have l3 := h.l.l3
  rw [h.m i hi (by omega)]
  have := (hP.a i (by omega)).ml
  intro e
  have h0 : (iotaI p.2.1[i].2.2.1.length).length = 0 := by rw [e]; rfl
  rw [iotaI_length] at h0
  omega
theorem plain_FnPairs (c : List Int) : laws_FnPairs (c, ()) () = some (true, ()) := by
  unfold laws_FnPairs
  simp only [lenI_eq]
  rcases tf (ltZ 1048576 (c.length : Int)) with hc | hc
  · have hc' : c.length ≤ 1048576 := by
      rw [Bool.eq_false_iff, Ne, ltZ_iff] at hc
      omega
    obtain ⟨p, b, hP2, hB, hd6, ⟨hr0, hpos⟩, ep⟩ := MakeMachine_eq c hc'
    have hP := hP2.mono (show 2 ≤ 6 by omega)
    have hal := hP2.al
    have hp : Sm_Project 1099511627776 p := hP.sm (by omega) (by omega)
    have hU := hB.useD hP
    have hok := hP.ok (Nat.le_refl _)
    have hM : machBP p 0 = true := by
      have := machB_atP hp hr0
      have e : ((0 : Nat) : Int) = 0 := rfl
      rw [e] at this
      rw [this, ltZ_iff, lenI_eq]
      omega
    have hA : ∀ u, impl_AllSchedules (p, 5, u) () = some (allS p 5, ()) := fun u => (AllSchedules_implV p 5 u hp hok (by omega) (by omega)).1
    have hl := (AllSchedules_implV p 5 () hp hok (by omega) (by omega)).2
    have hlen : ∀ s ∈ allS p 5, s.1.length = p.2.1.length ∧ s.2.1.length = p.2.1.length := fun s hs => allS_lenP hP2 (by omega) hs
    have hmem : ∀ s ∈ allS p 5, okV p s = true := fun s hs => allS_mem hs
    obtain ⟨L, hL⟩ : ∃ L, L = allS p 5 := ⟨_, rfl⟩
    rw [← hL] at hl hlen hmem hA
    have z0 : ∀ {n : Nat}, n = 0 → (n : Int) = 0 := fun h => by rw [h]; rfl
    have C0 := fun {a o : Nat} (ha : a < p.2.1.length) (ho : o < p.2.1.length) => PairConflict_M hU hr0 hpos ha ho
    have C1 := fun {a o : Nat} (ha : a < p.2.1.length) (ho : o < p.2.1.length) => MustPrecede_M hU hr0 hpos ha ho
    have C2 := fun {a o : Nat} (ha : a < p.2.1.length) (ho : o < p.2.1.length) => EarliestAfter_M hU hr0 hpos ha ho
    have C3 := fun {a o : Nat} (ha : a < p.2.1.length) (ho : o < p.2.1.length) => CanPrecede_M hU hr0 hpos ha ho
    have C4 := MachineBound_M hU hr0 hpos
    have C5 := MachineChain_M hU hr0 hpos
    have e0 : ((0 : Nat) : Int) = 0 := rfl
    simp only [e0] at C0 C1 C2 C3 C4 C5
    have l0 := fun (A : Type) (i a : Nat) (hi : i < L.length) (hcon : conB b L[i] = true) (ha : a < p.2.1.length) => go_loop (F := laws_FnPairs_L0) (fun o => ((o : Int), (a : Int), L[i], (i : Int), (L.length : Int), L, (p.2.1.length : Int), p, b, ())) p.2.1.length
      (Sum.inl (false, (p.2.1.length : Int), (a : Int), L[i], (i : Int), (L.length : Int), L, (p.2.1.length : Int), p, b, ())) (by omega)
      (fun o ho => by
        have hok' := hmem _ (List.getElem_mem hi)
        have hf := form_of_ok hok'
        have k1 := no_conflict hU hok' hcon hr0 hpos ha ho
        have gx := (in_dom hU hf hcon ho).g
        unfold laws_FnPairs_L0
        simp only [lt_yes ho, if_true, C0 ha ho, k1, some_bind', Bool.false_eq_true, if_false, C1 ha ho]
        rcases tf (mustM p b 0 a o) with q | q
        · simp only [q, Bool.false_eq_true, if_false, some_bind', idxN ho (Nat.le_refl _) (show p.2.1.length ≤ 1099511627776 by omega)]
        · obtain ⟨m1, m2, m3⟩ := must_ahead hU hok' hcon hr0 hpos ha ho q
          have f1 : ltZ (tsS L[i] o) (aftM p b 0 a o) = false := by rw [Bool.eq_false_iff, Ne, ltZ_iff]; omega
          have f2 : ltZ (tsS L[i] o) (endV p L[i] (a : Int)) = false := by rw [Bool.eq_false_iff, Ne, ltZ_iff]; omega
          simp only [q, if_true, gx, some_bind', C2 ha ho, f1, Bool.false_eq_true, if_false, EndTime_P _ _ _ _ hp hf ha, f2, C3 ha ho, m3, notB_true, idxN ho (Nat.le_refl _) (show p.2.1.length ≤ 1099511627776 by omega)])
      (by
        unfold laws_FnPairs_L0
        simp only [lt_no, Bool.false_eq_true, if_false])
      (s := (0, (a : Int), L[i], (i : Int), (L.length : Int), L, (p.2.1.length : Int), p, b, ())) rfl A
    have l1 := fun (A : Type) (i : Nat) (hi : i < L.length) (hcon : conB b L[i] = true) => go_loop (F := laws_FnPairs_L1) (fun a => ((a : Int), L[i], (i : Int), (L.length : Int), L, (p.2.1.length : Int), p, b, ())) p.2.1.length
      (Sum.inl (false, (p.2.1.length : Int), L[i], (i : Int), (L.length : Int), L, (p.2.1.length : Int), p, b, ())) (by omega)
      (fun a ha => by
        have l0' := fun A => l0 A i a hi hcon ha
        unfold laws_FnPairs_L1
        simp only [lt_yes ha, if_true, l0', some_bind', idxN ha (Nat.le_refl _) (show p.2.1.length ≤ 1099511627776 by omega)])
      (by
        unfold laws_FnPairs_L1
        simp only [lt_no, Bool.false_eq_true, if_false])
      (s := (0, L[i], (i : Int), (L.length : Int), L, (p.2.1.length : Int), p, b, ())) rfl A
    have l2 := go_loop (F := laws_FnPairs_L2) (fun i => ((i : Int), (L.length : Int), L, (p.2.1.length : Int), p, b, ())) L.length
      (Sum.inl (false, (L.length : Int), (L.length : Int), L, (p.2.1.length : Int), p, b, ())) (by omega)
      (fun i hi => by
        have hm := List.getElem_mem hi
        have k2 := fun u => Contains_impl b L[i] u hU.hb (by rw [(hlen _ hm).1]; omega)
        have hok' := hmem _ hm
        have hf := form_of_ok hok'
        unfold laws_FnPairs_L2
        simp only [lt_yes hi, if_true, getI_lt hi, some_bind', k2]
        rcases tf (conB b L[i]) with q | q
        · simp only [q, notB_false, if_true, idxN hi (Nat.le_refl _) (show L.length ≤ 1099511627776 by omega)]
        · have l1' := fun A => l1 A i hi q
          have hb := bound_le hU hok' q hr0 hpos hal.2
          have f1 : ltZ (spanV p L[i]) (boundV p b 0) = false := by rw [Bool.eq_false_iff, Ne, ltZ_iff]; omega
          simp only [q, notB_true, Bool.false_eq_true, if_false, l1', some_bind', C4, Makespan_impl _ _ _ hp, hf, if_true, f1, idxN hi (Nat.le_refl _) (show L.length ≤ 1099511627776 by omega)])
      (by
        unfold laws_FnPairs_L2
        simp only [lt_no, Bool.false_eq_true, if_false])
      (s := (0, (L.length : Int), L, (p.2.1.length : Int), p, b, ())) rfl
    have hch := chain_len (p := p) (b := b) 0
    have f2 : leZ ((chainM p b 0).length : Int) (p.2.1.length : Int) = true := by rw [leZ_iff]; omega
    simp only [hc, Bool.false_eq_true, if_false, ep, some_bind', DomainForm_impl _ _ _ hp hU.hb, hU.dom, notB_true, IsMachine_impl_eqP, IsMachine_specP _ _ _ hp, hM, hA, l2, C5, f2, if_true]
    rcases tf (ltZ (p.2.1.length : Int) 2) with q | q
    · have hn2 : p.2.1.length = 2 := by
        rw [Bool.eq_false_iff, Ne, ltZ_iff] at q
        omega
      have h1 : 1 < p.2.1.length := by omega
      have h0 : 0 < p.2.1.length := by omega
      obtain ⟨S1, S2, -⟩ := SetupTime_M hp hok hr0 hpos h0 h1
      have S3 := BothUse_M hU hr0 hpos h0 h1
      have e1 : ((1 : Nat) : Int) = 1 := rfl
      simp only [e0, e1] at S1 S3
      have f3 : leZ 0 (setM p 0 0 1) = true := by rw [leZ_iff]; exact S2
      have f4 := chain_two (p := p) (b := b) 0 hn2
      rw [lenI_eq] at f4
      simp only [q, Bool.false_eq_true, if_false, S1, some_bind', f3, if_true, S3, f4, eqB_self]
    · simp only [q, if_true, some_bind']
  · simp only [hc, if_true]
theorem L_FnPairs (x : Ty.dens H_laws_FnPairs.ps) (h : Ty.fits H_laws_FnPairs.ps x) : laws_FnPairs x () = some (true, ()) := by
  obtain ⟨b, u⟩ := x
  exact plain_FnPairs b
end Go.Proofs.YtjhpeeapijjgjaaGreat
