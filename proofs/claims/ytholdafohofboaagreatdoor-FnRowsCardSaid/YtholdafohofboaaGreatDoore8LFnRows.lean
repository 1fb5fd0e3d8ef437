/-
  Plain laws: charts of schedules that are drawn; for every code the law FnRows returns true.
-/
import Derived.Test.YtholdafohofboaaGreatDoore8LChartM
import Derived.Test.YtholdafohofboaaGreatDoore8LRunM
import Derived.Test.YtholdafohofboaaGreatDoore8LDRowM
namespace Go.Proofs.YtholdafohofboaaGreatDoor
open Go.Abs
set_option linter.unusedVariables false
set_option linter.unusedSimpArgs false

theorem byteAt_of {l : List UInt8} {i : Nat} {c : UInt8} (h : l[i]? = some c) : byteAt l (i : Int) = some (c.toNat : Int) := by
  unfold byteAt
  rw [if_pos (by omega), Int.toNat_natCast, h]
theorem eqB_same (x : Bool) : eqB x x = true := by cases x <;> rfl
theorem cell_G {p : D_Project} {st md : List Int} (hP : GenP 6 p) (hS : GenS p.2.1 p.2.1.length st md) (hr : 0 < p.2.2.2.1.length) (t : Nat) :
    ∃ c : UInt8, cellV p (st, (md, ())) 0 t = [c] ∧ eqZ (c.toNat : Int) 33 = ltZ (capVC p.2.2.2.1[0].1 (t : Int)) (useV p (st, (md, ())) 0 (t : Int)) := by
  obtain ⟨hu, hle⟩ := use_sum hP hS t
  unfold cellV
  rw [List.getElem?_eq_getElem hr]
  show ∃ c : UInt8, (if ltZ (capVC p.2.2.2.1[0].1 (t : Int)) (useV p (st, (md, ())) 0 (t : Int)) = true then [33] else if ltZ 9 (useV p (st, (md, ())) 0 (t : Int)) = true then [42] else fmtV (useV p (st, (md, ())) 0 (t : Int))) = [c] ∧ _
  rw [hu]
  rcases tf (ltZ (capVC p.2.2.2.1[0].1 (t : Int)) ((schV p st md t : Nat) : Int)) with h | h
  · rw [h, if_neg (by simp)]
    rcases tf (ltZ 9 ((schV p st md t : Nat) : Int)) with h9 | h9
    · rw [h9, if_neg (by simp)]
      have h9' : schV p st md t < 10 := by
        rw [Bool.eq_false_iff, Ne, ltZ_iff] at h9
        omega
      refine ⟨UInt8.ofNat (48 + schV p st md t), ?_, ?_⟩
      · have hin : inB ((schV p st md t : Nat) : Int) (-100000) 100000 = true := inB_iff.2 (by omega)
        have hd : Lib.itoa ((schV p st md t : Nat) : Int) = Lib.decDigits (schV p st md t) := by
          unfold Lib.itoa
          rw [if_neg (by omega), Int.toNat_natCast]
        unfold fmtV
        rw [hin, if_pos rfl, hd, dec_small h9']
      · rw [Bool.eq_false_iff, Ne, eqZ_iff]
        have : (UInt8.ofNat (48 + schV p st md t)).toNat = 48 + schV p st md t := by
          rw [UInt8.toNat_ofNat', Nat.mod_eq_of_lt (by omega)]
        omega
    · rw [h9, if_pos rfl]
      exact ⟨42, rfl, rfl⟩
  · rw [h, if_pos rfl]
    exact ⟨33, rfl, rfl⟩
theorem rowR_get {p : D_Project} {s : D_Schedule} {j : Nat} (h : ∀ t, ∃ c : UInt8, cellV p s j t = [c]) : ∀ k, (rowR p s j k).length = k ∧ ∀ i, i < k → ∃ c : UInt8, cellV p s j i = [c] ∧ (rowR p s j k)[i]? = some c
  | 0 => ⟨rfl, fun i hi => absurd hi (by omega)⟩
  | k + 1 => by
    obtain ⟨h1, h2⟩ := rowR_get h k
    obtain ⟨c, hc⟩ := h k
    show (rowR p s j k ++ cellV p s j k).length = k + 1 ∧ ∀ i, i < k + 1 → ∃ c : UInt8, cellV p s j i = [c] ∧ (rowR p s j k ++ cellV p s j k)[i]? = some c
    rw [hc]
    refine ⟨by simp [h1], fun i hi => ?_⟩
    rcases Nat.lt_or_ge i k with h3 | h3
    · obtain ⟨c', e1, e2⟩ := h2 i h3
      exact ⟨c', e1, by rw [List.getElem?_append_left (by omega), e2]⟩
    · have : i = k := by omega
      subst this
      exact ⟨c, hc, by rw [List.getElem?_append_right (by omega), h1, Nat.sub_self]; rfl⟩
theorem rowF_get (t e : Int) : ∀ (k i : Nat) (out : List UInt8) (j : Nat), j < k → (foldN (rowF t e) k i out)[out.length + j]? = some (if (leZ t ((i + j : Nat) : Int) && ltZ ((i + j : Nat) : Int) e) = true then 35 else 46)
  | 0, i, out, j, h => absurd h (by omega)
  | k + 1, i, out, j, h => by
    show (foldN (rowF t e) k (i + 1) (rowF t e i out))[out.length + j]? = _
    have hl : (rowF t e i out).length = out.length + 1 := by unfold rowF; simp
    cases j with
    | succ j =>
      have := rowF_get t e k (i + 1) (rowF t e i out) j (by omega)
      rw [hl] at this
      rw [show out.length + (j + 1) = out.length + 1 + j by omega, this, show i + 1 + j = i + (j + 1) by omega]
    | zero =>
      have key : ∀ (k i : Nat) (o : List UInt8) (q : Nat), q < o.length → (foldN (rowF t e) k i o)[q]? = o[q]? := by
        intro k
        induction k with
        | zero => intro i o q hq; rfl
        | succ k ih =>
          intro i o q hq
          show (foldN (rowF t e) k (i + 1) (rowF t e i o))[q]? = _
          have hl : (rowF t e i o).length = o.length + 1 := by unfold rowF; simp
          rw [ih (i + 1) (rowF t e i o) q (by omega)]
          unfold rowF
          rw [List.getElem?_append_left hq]
      rw [key k (i + 1) (rowF t e i out) (out.length + 0) (by omega)]
      unfold rowF
      rw [Nat.add_zero, List.getElem?_append_right (Nat.le_refl _), Nat.sub_self]
      rfl
theorem moreN_zero (f : Nat → List UInt8) : ∀ k, (moreN f [] (k + 1))[0]? = some (f 0)
  | 0 => rfl
  | k + 1 => by
    show (moreN f [] (k + 1) ++ [f (k + 1)])[0]? = _
    rw [List.getElem?_append_left (by rw [moreN_len]; simp), moreN_zero f k]
theorem moreN_first (f : Nat → List UInt8) (l : List (List UInt8)) (h : 0 < l.length) : ∀ k, (moreN f l k)[0]? = l[0]?
  | 0 => rfl
  | k + 1 => by
    show (moreN f l k ++ [f k])[0]? = _
    rw [List.getElem?_append_left (by rw [moreN_len]; omega), moreN_first f l h k]
theorem Violates_G {p : D_Project} {st md : List Int} (hP : GenP 6 p) (hS : GenS p.2.1 p.2.1.length st md) (hr : 0 < p.2.2.2.1.length) {t : Nat} (ht : t ≤ 60) :
    impl_Violates (p, ((st, (md, ())), ((3, (0, ((t : Int), (0, ())))), ()))) () = some (ltZ (capVC p.2.2.2.1[0].1 (t : Int)) (useV p (st, (md, ())) 0 (t : Int)), ()) := by
  have hp : Sm_Project 1099511627776 p := hP.sm (by omega) (by omega)
  have hf := hS.form hP
  have hok := proj_of_form hf
  have hin := zero_in hr hp.2.2.2.1.1
  have hu := usage_impl p (st, (md, ())) 0 (t : Int) () hp hf hr
  have hu : impl_Project_usage (p, (st, (md, ())), 0, (t : Int), ()) () = some (useV p (st, (md, ())) 0 (t : Int), ()) := hu
  have hg : getI p.2.2.2.1 0 = some p.2.2.2.1[0] := getI_lt hr
  have hsl := (hp.2.2.2.1.2 _ (List.getElem_mem hr)).1.1
  have ht2 : inB (t : Int) 0 60 = true := inB_iff.2 (by omega)
  have e1 : eqZ 3 1 = false := rfl
  have e2 : eqZ 3 2 = false := rfl
  have e3 : eqZ 3 3 = true := rfl
  have e0 : eqZ 0 0 = true := rfl
  have en : notB (leZ (useV p (st, (md, ())) 0 (t : Int)) (capVC p.2.2.2.1[0].1 (t : Int))) = ltZ (capVC p.2.2.2.1[0].1 (t : Int)) (useV p (st, (md, ())) 0 (t : Int)) := by
    rcases tf (leZ (useV p (st, (md, ())) 0 (t : Int)) (capVC p.2.2.2.1[0].1 (t : Int))) with h | h
    · rw [h]
      rw [Bool.eq_false_iff, Ne, leZ_iff] at h
      show true = _
      symm
      rw [ltZ_iff]
      omega
    · rw [h]
      rw [leZ_iff] at h
      show false = _
      symm
      rw [Bool.eq_false_iff, Ne, ltZ_iff]
      omega
  have hrule : impl_RuleOk (p, ((3, (0, ((t : Int), (0, ())))), ())) () = some (true, ()) := by
    unfold impl_RuleOk
    simp only [ProjectOk_impl _ _ hp, hok, some_bind', notB_true, Bool.false_eq_true, if_false, e1, e2, e3, e0, if_true, hasResource_C, lenI_eq, hin, isTime_eq, ht2]
  have hsat : impl_Project_satisfies (p, ((st, (md, ())), ((3, (0, ((t : Int), (0, ())))), ()))) () = some (leZ (useV p (st, (md, ())) 0 (t : Int)) (capVC p.2.2.2.1[0].1 (t : Int)), ()) := by
    unfold impl_Project_satisfies
    simp only [e1, e2, e3, Bool.false_eq_true, if_false, if_true, hu, hg, capacityAt_C _ _ _ hsl, some_bind']
  unfold impl_Violates
  simp only [ScheduleForm_impl _ _ _ hp, hf, some_bind', if_true, hrule, hsat, en]
theorem plain_FnRows (b : List Int) : laws_FnRows (b, ()) () = some (true, ()) := by
  unfold laws_FnRows
  simp only [lenI_eq]
  rcases tf (ltZ 1048576 (b.length : Int)) with hb | hb
  · have hb' : b.length ≤ 1048576 := by
      rw [Bool.eq_false_iff, Ne, ltZ_iff] at hb
      omega
    obtain ⟨p, hP3, ep⟩ := MakeProject_eq b hb'
    have hP := hP3.mono (show 3 ≤ 6 by omega)
    obtain ⟨st, md, hS, es⟩ := MakeSched_eq b hb' p hP
    obtain ⟨box, hB, eb⟩ := MakeBox_eq b hb' p hP
    have hp : Sm_Project 1099511627776 p := hP.sm (by omega) (by omega)
    have hf := hS.form hP
    have hal := hP.al
    have hrl := hP.rl
    have hdl := hP.dl
    have hr : 0 < p.2.2.2.1.length := by omega
    have hi : 0 < p.2.1.length := by omega
    obtain ⟨n, hn⟩ : ∃ n : Nat, p.1 = (n : Int) := ⟨p.1.toNat, by omega⟩
    have hn60 : n ≤ 23 := by omega
    have en : p.1.toNat = n := by omega
    have hin := zero_in hr hp.2.2.2.1.1
    have hin2 : inB 0 0 (subZ .i64 (lenI p.2.1) 1) = true := zero_in hi hp.2.1.1
    -- the rows
    have kC := (ChartRows_both p (st, (md, ())) hp).2
    have kR := fun u => ResourceRow_impl p (st, (md, ())) 0 u hp
    have kA := fun u => ActivityRow_impl p (st, (md, ())) 0 u hp
    obtain ⟨dv, hdv, kD⟩ := DomainRow_G hP hB
    have eR : resRowV p (st, (md, ())) 0 = rowR p (st, (md, ())) 0 n := by
      unfold resRowV
      have hin' : inB 0 0 (subZ .i64 (lenI p.2.2.2.1) 1) = true := hin
      rw [hf, hin', en]
      rfl
    obtain ⟨rl, rg⟩ := rowR_get (p := p) (s := (st, (md, ()))) (j := 0) (fun t => let ⟨c, h, _⟩ := cell_G hP hS hr t; ⟨c, h⟩) n
    obtain ⟨x, e, mdd, g1, ge, -, -, -, -, -, -, gr, -⟩ := run_at (s := (st, (md, ()))) hp hf hi
    have g1 : getI st 0 = some x := g1
    have ge : ∀ u, spec_l09End (p, (st, (md, ())), 0, u) () = some (e, ()) := ge
    have gr : ∀ t, runB p (st, (md, ())) t 0 = (leZ x t && ltZ t e) := gr
    have eA : rowB' p (st, (md, ())) 0 = foldN (rowF x e) n 0 [] := by
      unfold rowB' rowV
      rw [hf, hin2, Bool.and_self, if_pos rfl]
      simp only [g1, ge, en]
    have lA : (rowB' p (st, (md, ())) 0).length = n := by
      rw [eA, foldN_rowF_len]
      simp
    have eC : chartV p (st, (md, ())) = moreN (resLine p (st, (md, ()))) (moreN (actLine p (st, (md, ()))) [] p.2.1.length) p.2.2.2.1.length := by
      unfold chartV
      rw [hf, if_pos rfl]
    have lC : ((chartV p (st, (md, ()))).length : Int) = addZ .i64 (p.2.1.length : Int) (p.2.2.2.1.length : Int) := by
      rw [eC, moreN_len, moreN_len, addZ64 (by omega) (by omega)]
      simp only [List.length_nil]
      omega
    have gC : getI (chartV p (st, (md, ()))) 0 = some (actLine p (st, (md, ())) 0) := by
      have : getI (chartV p (st, (md, ()))) ((0 : Nat) : Int) = some (actLine p (st, (md, ())) 0) := by
        rw [getI_nat, eC, moreN_first _ _ (by rw [moreN_len]; simp only [List.length_nil]; omega)]
        obtain ⟨k, hk⟩ : ∃ k, p.2.1.length = k + 1 := ⟨p.2.1.length - 1, by omega⟩
        rw [hk]
        exact moreN_zero _ k
      exact this
    have gP : getI p.2.1 0 = some p.2.1[0] := getI_lt hi
    have hok := proj_of_form hf
    have nl := proj_nameS hok hi
    have rb := rowB_len p (st, (md, ())) 0
    have a1 : addI p.2.1[0].1 [32] = some (p.2.1[0].1 ++ [32]) := addI_ok (by rw [room_eq]; simp; omega)
    have a2 : addI (p.2.1[0].1 ++ [32]) (rowB' p (st, (md, ())) 0) = some (actLine p (st, (md, ())) 0) := by
      rw [addI_ok (by rw [room_eq]; simp only [List.length_append, List.length_singleton]; omega)]
      unfold actLine
      rw [List.getElem?_eq_getElem hi, List.append_assoc]
      rfl
    have q1 : eqZ ((chartV p (st, (md, ()))).length : Int) (addZ .i64 (p.2.1.length : Int) (p.2.2.2.1.length : Int)) = true := by rw [lC]; exact eqZ_self _
    have q2 : eqZ ((rowR p (st, (md, ())) 0 n).length : Int) p.1 = true := by rw [rl, hn]; exact eqZ_self _
    have q3 : eqZ (dv.length : Int) p.1 = true := by rw [hdv]; exact eqZ_self _
    have q4 : eqZ ((rowB' p (st, (md, ())) 0).length : Int) p.1 = true := by rw [lA, hn]; exact eqZ_self _
    have l0 := fun A : Type => fold_loop (A := A) (C := Bool × Unit) (F := laws_FnRows_L0) (fun i (_ : Unit) => ((i : Int), rowR p (st, (md, ())) 0 n, chartV p (st, (md, ())), p, (st, (md, ())), ())) n (fun _ _ => True) (fun _ a => a)
      (fun _ => Sum.inl (false, (n : Int), rowR p (st, (md, ())) 0 n, chartV p (st, (md, ())), p, (st, (md, ())), ())) (by omega)
      (fun i _ hi2 _ => by
        have hl : ltZ (i : Int) p.1 = true := by rw [ltZ_iff]; omega
        obtain ⟨c, hc, hg⟩ := rg i hi2
        obtain ⟨c', hc', hv⟩ := cell_G hP hS hr i
        have : c' = c := by
          rw [hc'] at hc
          exact (List.cons.inj hc).1
        subst this
        have b1 := byteAt_of hg
        have kV := Violates_G hP hS hr (show i ≤ 60 by omega)
        have b2 : byteAt (rowB' p (st, (md, ())) 0) (i : Int) = some (((if (leZ x (i : Int) && ltZ (i : Int) e) = true then (35 : UInt8) else 46).toNat : Nat) : Int) := by
          refine byteAt_of ?_
          have := rowF_get x e n 0 [] i hi2
          rw [eA]
          simpa using this
        have kS : ∀ u, impl_RunningAt (p, (st, (md, ())), (i : Int), u) () = some (runL p (st, (md, ())) (i : Int), ()) := fun u => RunningAt_S p (st, (md, ())) (i : Int) u hp hf
        have kH : ∀ u, impl_SetHas (runL p (st, (md, ())) (i : Int), 0, u) () = some (leZ x (i : Int) && ltZ (i : Int) e, ()) := fun u => by
          have hlen := runL_length p (st, (md, ())) (i : Int)
          rw [SetHas_impl _ _ _ (by omega)]
          congr 2
          rw [Bool.eq_iff_iff, hasB_iff, ← gr]
          unfold runL
          rw [List.mem_filter]
          exact ⟨fun h => h.2, fun h => ⟨List.mem_map.2 ⟨0, List.mem_range.2 hi, rfl⟩, h⟩⟩
        have q5 : eqZ (((if (leZ x (i : Int) && ltZ (i : Int) e) = true then (35 : UInt8) else 46).toNat : Nat) : Int) 35 = (leZ x (i : Int) && ltZ (i : Int) e) := by
          rcases tf (leZ x (i : Int) && ltZ (i : Int) e) with h | h <;> rw [h] <;> rfl
        refine ⟨?_, trivial⟩
        unfold laws_FnRows_L0
        simp only [hl, if_true, b1, kV, some_bind', hv, eqB_same, notB_true, Bool.false_eq_true, if_false, kA, lenI_eq, q4, b2, kS, kH, q5, idxN hi2 (Nat.le_refl n) (show n ≤ 1099511627776 by omega)])
      (fun _ _ => by
        have hl : ltZ (n : Int) p.1 = false := by rw [Bool.eq_false_iff, Ne, ltZ_iff]; omega
        unfold laws_FnRows_L0
        simp only [hl, Bool.false_eq_true, if_false])
      (a := ()) trivial
    have m0 := fun A : Type => (l0 A).1
    have e0 : (((0 : Nat) : Int), rowR p (st, (md, ())) 0 n, chartV p (st, (md, ())), p, (st, (md, ())), ()) = ((0 : Int), rowR p (st, (md, ())) 0 n, chartV p (st, (md, ())), p, (st, (md, ())), ()) := rfl
    rw [e0] at m0
    simp only [hb, Bool.false_eq_true, if_false, ep, es, eb, some_bind', kC, kR, eR, q1, q2, kD, q3, notB_true, m0, gC, gP, a1, kA, a2, eqS_self]
  · simp only [hb, if_true]
theorem L_FnRows (x : Ty.dens H_laws_FnRows.ps) (h : Ty.fits H_laws_FnRows.ps x) : laws_FnRows x () = some (true, ()) := by
  obtain ⟨b, u⟩ := x
  exact plain_FnRows b
end Go.Proofs.YtholdafohofboaaGreatDoor
