/-
  Plain law: for all data within the bounds of the machine the law FnExactShiftEarlier returns true.
-/
import Derived.Test.YtafnhdfjcocpgaaGreatw6LSortK
import Derived.Test.YtafnhdfjcocpgaaGreatw6V
namespace Go.Proofs.YtafnhdfjcocpgaaGreat
open Go.Abs
set_option linter.unusedVariables false
set_option linter.unusedSimpArgs false

theorem iotaI_nodup (n : Nat) : (iotaI n).Nodup := by
  unfold iotaI
  rw [List.nodup_iff_pairwise_ne, List.pairwise_map]
  refine List.Pairwise.imp (fun h e => h ?_) (List.nodup_iff_pairwise_ne.1 (List.nodup_range (n := n)))
  omega
/-- one activity shifted: the program tries the starts up to its own, the reference those ahead of it -/
theorem shift_inner (p : D_Project) (s out z : D_Schedule) (O : List Int) (a k : Nat) (T : Nat) (hp : Sm_Project 1099511627776 p) (ho : Shape p out) (hok : okV p out = true) (hT : T ≤ 60) (hs : getI s.1 (a : Int) = some (T : Int)) (hout : getI out.1 (a : Int) = some (T : Int)) (n : Int) :
    ∃ t, okV p (mvS out a t) = true ∧ ∃ o o', (∀ A : Type, loopN (A := A) big spec_l26Early_L0 (0, (a : Int), (k : Int), n, O, s, p, out, z, ()) = some (fin o)) ∧
      (∀ A : Type, loopN (A := A) big impl_ShiftEarlier_L0 (0, ((T + 1 : Nat) : Int), (a : Int), (k : Int), n, O, s, p, out, z, ()) = some (fin o')) ∧
      ((∃ b i, o = .inl (.inl (b, i, (a : Int), (k : Int), n, O, s, p, mvS out a t, z, ()))) ∨ o = .inl (.inr (.inl ((k : Int), n, O, s, p, mvS out a t, z, ())))) ∧ ∃ b i, o' = .inl (.inr (.inl (b, i, ((T + 1 : Nat) : Int), (a : Int), (k : Int), n, O, s, p, mvS out a t, z, ()))) := by
  have hcur : ∀ x y, (setI (mvS out a x).1 (a : Int) (fun _ => y), (mvS out a x).2) = mvS out a y := fun x y => mvS_mvS out a x y
  have hself : mvS out a (T : Int) = out := mvS_self hout
  obtain ⟨o, o', l1, l2, t, ht, h3, h4⟩ := any_loops (F := spec_l26Early_L0) (G := impl_ShiftEarlier_L0) (fun j (_ : D_Schedule) => ((j : Int), (a : Int), (k : Int), n, O, s, p, out, z, ())) (fun j cur => ((j : Int), ((T + 1 : Nat) : Int), (a : Int), (k : Int), n, O, s, p, cur, z, ())) T
    (fun _ cur => ∃ x, cur = mvS out a x)
    (fun o o' => ∃ t, okV p (mvS out a t) = true ∧ ((∃ b i, o = .inl (.inl (b, i, (a : Int), (k : Int), n, O, s, p, mvS out a t, z, ()))) ∨ o = .inl (.inr (.inl ((k : Int), n, O, s, p, mvS out a t, z, ())))) ∧ ∃ b i, o' = .inl (.inr (.inl (b, i, ((T + 1 : Nat) : Int), (a : Int), (k : Int), n, O, s, p, mvS out a t, z, ())))) (by omega)
    (fun j cur hj hI => by
      obtain ⟨x, rfl⟩ := hI
      have hl : ltZ (j : Int) ((T + 1 : Nat) : Int) = true := lt_yes (by omega)
      have hg : getI (mvS out a x).1 (a : Int) = some x := mvS_at hout
      by_cases hj' : j < T
      · have hl2 : ltZ (j : Int) (T : Int) = true := lt_yes hj'
        have hsp := fun u => ScheduleOk_spec p (mvS out a (j : Int)) u hp
        have hsi := fun u => ScheduleOk_impl p (mvS out a (j : Int)) u hp
        have hm : (setI out.1 (a : Int) (fun _ => (j : Int)), out.2) = mvS out a (j : Int) := rfl
        rcases tf (okV p (mvS out a (j : Int))) with q | q
        · refine .inl ⟨mvS out a (j : Int), hj', ?_, ?_, _, rfl⟩
          · unfold spec_l26Early_L0
            simp only [hs, some_bind', hl2, if_true, l09Copy_at ho, hout, hm, hsp, q, Bool.false_eq_true, if_false, idxN hj' (show T ≤ 60 from hT) (by omega)]
          · unfold impl_ShiftEarlier_L0
            simp only [hl, if_true, hg, some_bind', hcur, hsi, q, Bool.false_eq_true, if_false, idxN hj' (show T ≤ 60 from hT) (by omega)]
        · refine .inr ⟨.inl (.inr (.inl ((k : Int), n, O, s, p, mvS out a (j : Int), z, ()))), .inl (.inr (.inl (true, (j : Int), ((T + 1 : Nat) : Int), (a : Int), (k : Int), n, O, s, p, mvS out a (j : Int), z, ()))), ?_, ?_, _, q, .inr rfl, _, _, rfl⟩
          · unfold spec_l26Early_L0
            simp only [hs, some_bind', hl2, if_true, l09Copy_at ho, hout, hm, hsp, q]
            rfl
          · unfold impl_ShiftEarlier_L0
            simp only [hl, if_true, hg, some_bind', hcur, hsi, q]
            rfl
      · obtain rfl : j = T := by omega
        have hsi := fun u => ScheduleOk_impl p (mvS out a (j : Int)) u hp
        have q : okV p (mvS out a (j : Int)) = true := by rw [hself]; exact hok
        refine .inr ⟨.inl (.inl (false, (j : Int), (a : Int), (k : Int), n, O, s, p, out, z, ())), .inl (.inr (.inl (true, (j : Int), ((j + 1 : Nat) : Int), (a : Int), (k : Int), n, O, s, p, mvS out a (j : Int), z, ()))), ?_, ?_, (j : Int), q, .inl ⟨false, (j : Int), by rw [hself]⟩, _, _, rfl⟩
        · unfold spec_l26Early_L0
          simp only [hs, some_bind', lt_no, Bool.false_eq_true, if_false]
          rfl
        · unfold impl_ShiftEarlier_L0
          simp only [hl, if_true, hg, some_bind', hcur, hsi, q]
          rfl)
    (a := out) (s := (0, (a : Int), (k : Int), n, O, s, p, out, z, ())) (t := (0, ((T + 1 : Nat) : Int), (a : Int), (k : Int), n, O, s, p, out, z, ())) rfl rfl ⟨(T : Int), hself.symm⟩
  exact ⟨t, ht, o, o', l1, l2, h3, h4⟩
theorem ShiftEarlier_both (p : D_Project) (s : D_Schedule) (hp : Sm_Project 1099511627776 p) : ∃ (w : D_Schedule) (b : Bool), w.1.length ≤ 6 ∧ w.2.1.length ≤ 6 ∧ (∀ u, spec_ShiftEarlier (p, s, u) () = some ((w, b, ()), ())) ∧ ∀ u, impl_ShiftEarlier (p, s, u) () = some ((w, b, ()), ()) := by
  rcases tf (okV p s) with h | h
  · refine ⟨([], [], ()), false, by simp, by simp, fun u => ?_, fun u => ?_⟩
    · unfold spec_ShiftEarlier
      simp [ScheduleOk_spec _ _ _ hp, h, notB]
    · unfold impl_ShiftEarlier
      simp [ScheduleOk_impl _ _ _ hp, h, notB]
  have hs := shape_of_form hp (form_of_ok h)
  obtain ⟨-, h6⟩ := proj_acts hs.ok
  have hl1 := hs.l1
  have hl2 := hs.l2
  have hlo : (ordV s).length = s.1.length := by unfold ordV; rw [srtK_length, iotaI_length]
  have hnd : (ordV s).Nodup := (srtK_perm _ _).nodup_iff.2 (iotaI_nodup _)
  have hin : ∀ x ∈ ordV s, ∃ i : Nat, x = (i : Int) ∧ i < s.1.length := fun x hx => iotaI_mem (srtK_mem hx)
  have eS := fun u => StartOrder_spec s u (by omega)
  have eI := fun u => StartOrder_impl s u (by omega)
  generalize ordV s = O at *
  have h0 : Shape p s ∧ okV p s = true ∧ ∀ j (hj : j < O.length), 0 ≤ j → getI s.1 O[j] = getI s.1 O[j] := ⟨hs, h, fun _ _ _ => rfl⟩
  obtain ⟨o, o', l1, l2, w, hw, hw2, rfl, rfl⟩ := any_loops (F := spec_l26Early_L1) (G := impl_ShiftEarlier_L1) (fun i out => ((i : Int), (O.length : Int), O, s, p, out, ([], [], ()), ())) (fun i out => ((i : Int), (O.length : Int), O, s, p, out, ([], [], ()), ())) O.length
    (fun k out => Shape p out ∧ okV p out = true ∧ ∀ j (hj : j < O.length), k ≤ j → getI out.1 O[j] = getI s.1 O[j])
    (fun o o' => ∃ w, Shape p w ∧ okV p w = true ∧ o = .inl (.inl (false, (O.length : Int), (O.length : Int), O, s, p, w, ([], [], ()), ())) ∧ o' = .inl (.inl (false, (O.length : Int), (O.length : Int), O, s, p, w, ([], [], ()), ()))) (by omega)
    (fun k out hk hI => by
      obtain ⟨hI1, hI2, hI3⟩ := hI
      by_cases hk' : k < O.length
      · obtain ⟨a, ha, hal⟩ := hin O[k] (List.getElem_mem hk')
        obtain ⟨x, hx, hx0, hx6⟩ := start_of_ok hp h (i := a) (by omega)
        obtain ⟨T, rfl⟩ : ∃ T : Nat, x = (T : Int) := ⟨x.toNat, by omega⟩
        have hox : getI out.1 (a : Int) = some (T : Int) := by
          have := hI3 k hk' (Nat.le_refl _)
          rw [ha, hx] at this
          exact this
        obtain ⟨t, ht, o, o', e1, e2, h3, b', i', h4⟩ := shift_inner p s out ([], [], ()) O a k T hp hI1 hI2 (by omega) hx hox (O.length : Int)
        have hT1 : addZ .i64 (T : Int) 1 = ((T + 1 : Nat) : Int) := by rw [addZ64 (by omega) (by omega)]; omega
        subst h4
        refine .inl ⟨mvS out a t, hk', ?_, ?_, hI1.mv a t, ht, fun j hj hkj => ?_⟩
        · unfold spec_l26Early_L1
          rcases h3 with ⟨b, i, rfl⟩ | rfl
          · simp only [lt_yes hk', if_true, getI_lt hk', some_bind', ha, e1, fin, idxN hk' (show O.length ≤ 1099511627776 by omega) (Nat.le_refl _)]
          · simp only [lt_yes hk', if_true, getI_lt hk', some_bind', ha, e1, fin, idxN hk' (show O.length ≤ 1099511627776 by omega) (Nat.le_refl _)]
        · unfold impl_ShiftEarlier_L1
          simp only [lt_yes hk', if_true, getI_lt hk', some_bind', ha, hx, hT1, e2, fin, idxN hk' (show O.length ≤ 1099511627776 by omega) (Nat.le_refl _)]
        · obtain ⟨c, hc, -⟩ := hin O[j] (List.getElem_mem hj)
          have hne : O[k] ≠ O[j] := List.pairwise_iff_getElem.1 (List.nodup_iff_pairwise_ne.1 hnd) k j hk' hj (by omega)
          have : getI (mvS out a t).1 (c : Int) = getI out.1 (c : Int) := by
            unfold mvS
            exact getI_setI_ne (by rw [ha, hc] at hne; omega)
          rw [hc, this, ← hc]
          exact hI3 j hj (by omega)
      · obtain rfl : k = O.length := by omega
        refine .inr ⟨_, _, ?_, ?_, out, hI1, hI2, rfl, rfl⟩
        · unfold spec_l26Early_L1
          simp only [lt_no, Bool.false_eq_true, if_false]
          rfl
        · unfold impl_ShiftEarlier_L1
          simp only [lt_no, Bool.false_eq_true, if_false]
          rfl)
    (a := s) (s := (0, (O.length : Int), O, s, p, s, ([], [], ()), ())) (t := (0, (O.length : Int), O, s, p, s, ([], [], ()), ())) rfl rfl ⟨hs, h, fun _ _ _ => rfl⟩
  have g1 := hw.l1
  have g2 := hw.l2
  have ecp : ∀ u, impl_Schedule_copied (s, u) () = some (s, ()) := fun u => by
    unfold impl_Schedule_copied slices_Clone_int_int
    simp only [add_nil s.1 (by omega), add_nil s.2.1 (by omega), some_bind']
  refine ⟨w, true, by omega, by omega, fun u => ?_, fun u => ?_⟩
  · unfold spec_ShiftEarlier spec_l26Early
    simp only [ScheduleOk_spec _ _ _ hp, h, notB_true, Bool.false_eq_true, if_false, some_bind', l09Copy_at hs, eS, lenI_eq, l1, fin]
  · unfold impl_ShiftEarlier
    simp only [ScheduleOk_impl _ _ _ hp, h, notB_true, Bool.false_eq_true, if_false, some_bind', ecp, eI, lenI_eq, l2, fin]
theorem plain_FnExactShiftEarlier (p : D_Project) (s : D_Schedule) (u : Unit) (hp : Sm_Project maxLen p) (hs : Sm_Schedule maxLen s) : laws_FnExactShiftEarlier (p, s, u) () = some (true, ()) := by
  unfold laws_FnExactShiftEarlier
  obtain ⟨r1, e1, c1⟩ := sz_Project p 1048576 () (by omega) (by omega) hp
  simp only [e1, some_bind']
  rcases c1 with c1 | ⟨c1, d1, sp⟩
  · simp only [neg_yes c1, if_true]
  simp only [neg_no c1, Bool.false_eq_true, if_false]
  obtain ⟨r2, e2, c2⟩ := sz_Schedule s r1 () c1 (by omega) hs
  simp only [e2, some_bind']
  rcases c2 with c2 | ⟨c2, d2, ss⟩
  · simp only [neg_yes c2, if_true]
  have sp' := smm_Project (B' := 1099511627776) (by omega) p sp
  have ss' := smm_Schedule (B' := 1099511627776) (by omega) s ss
  obtain ⟨w, b, hw1, hw2, f1, f2⟩ := ShiftEarlier_both p s sp'
  have sw' : Sm_Schedule 1099511627776 w := ⟨⟨by omega, fun _ _ => trivial⟩, ⟨by omega, fun _ _ => trivial⟩, trivial⟩
  have sw : Sm_Schedule 1048576 w := ⟨⟨by omega, fun _ _ => trivial⟩, ⟨by omega, fun _ _ => trivial⟩, trivial⟩
  have hb1 := nb_Project p sp
  have hb2 := nb_Schedule s ss
  have hb3 := nb_Schedule w sw
  obtain ⟨p', m1⟩ := mk_Project p 1 sp' (by omega) (by omega)
  obtain ⟨s', m2⟩ := mk_Schedule s (1 + ((n_Project p : Nat) : Int)) ss' (by omega) (by omega)
  obtain ⟨w', m3, q3⟩ := mh_Schedule w 1 sw' (by omega) (by omega)
  have h2 : (0 : Int) ≤ 1 + ((n_Project p : Nat) : Int) + ((n_Schedule s : Nat) : Int) := by omega
  have h3 : (0 : Int) ≤ 1 + ((n_Schedule w : Nat) : Int) := by omega
  simp only [neg_no c2, Bool.false_eq_true, if_false, to_Project _ _ sp, to_Schedule _ _ ss, some_bind', f1, f2, eq_Schedule _ _ sw', eqB_self, eqZ_self, notB_true, eq_Project _ _ sp', eq_Schedule _ _ ss', m1, m2, m3, q3, neg_no h2, neg_no h3]
theorem L_FnExactShiftEarlier (x : Ty.dens H_laws_FnExactShiftEarlier.ps) (h : Ty.fits H_laws_FnExactShiftEarlier.ps x) : laws_FnExactShiftEarlier x () = some (true, ()) := by
  obtain ⟨p, s, u⟩ := x
  exact plain_FnExactShiftEarlier p s u (smf_Project _ h.1) (smf_Schedule _ h.2.1)
end Go.Proofs.YtafnhdfjcocpgaaGreat
