/-
  Plain law: for every code the law FnSched returns true.
-/
import Derived.Test.Ytmbknefcilojkaag4LGenF
import Derived.Test.Ytmbknefcilojkaag4LMaxN
import Derived.Test.Ytmbknefcilojkaag4LSpan
import Derived.Test.Ytmbknefcilojkaag4LPeakUsage
namespace Go.Proofs.Ytmbknefcilojkaa
open Go.Abs
set_option linter.unusedVariables false
set_option linter.unusedSimpArgs false

def capVS (l : List D_Step) (t : Int) : Int := l.foldl (fun n s => if leZ s.1 t = true then s.2.1 else n) 0
theorem capacityAt_S (l : List D_Step) (t : Int) (u : Unit) (hl : l.length ≤ 1099511627776) : impl_capacityAt (l, t, u) () = some (capVS l t, ()) := by
  have l0 := fun A : Type => (fold_list (A := A) (F := impl_capacityAt_L0) (fun i n => ((i : Int), (l.length : Int), l, t, n, ())) l (fun _ _ => True) (fun n s => if leZ s.1 t = true then s.2.1 else n) (fun n => Sum.inl (false, (l.length : Int), (l.length : Int), l, t, n, ())) hl
    (fun i n hi _ => by
      refine ⟨?_, trivial⟩
      unfold impl_capacityAt_L0
      simp only [lt_yes hi, if_true, getI_lt hi, some_bind']
      rcases tf (leZ l[i].1 t) with h1 | h1 <;> simp [-Int.natCast_add, h1, idxN hi hl (Nat.le_refl _)])
    (fun n _ => by
      unfold impl_capacityAt_L0
      simp only [lt_no, Bool.false_eq_true, if_false])
    (a := 0) (s := (0, (l.length : Int), l, t, 0, ())) rfl trivial).1
  unfold impl_capacityAt capVS
  simp only [lenI_eq, l0, some_bind']
theorem capVS_le {l : List D_Step} (h : stepsB l = true) (t : Int) : 0 ≤ capVS l t ∧ capVS l t ≤ 20 := by
  have hs : ∀ s ∈ l, 0 ≤ s.2.1 ∧ s.2.1 ≤ 20 := fun s hs => by
    obtain ⟨i, hi, rfl⟩ := List.mem_iff_getElem.1 hs
    unfold stepsB at h
    simp only [Bool.and_eq_true, List.all_eq_true, List.mem_range] at h
    have := h.1.1 i hi
    unfold stepI at this
    rw [List.getElem?_eq_getElem hi] at this
    simp only [Bool.and_eq_true] at this
    exact inB_iff.1 this.1.2
  have key : ∀ (l : List D_Step) (a : Int), (∀ s ∈ l, 0 ≤ s.2.1 ∧ s.2.1 ≤ 20) → 0 ≤ a ∧ a ≤ 20 → 0 ≤ l.foldl (fun n s => if leZ s.1 t = true then s.2.1 else n) a ∧ l.foldl (fun n s => if leZ s.1 t = true then s.2.1 else n) a ≤ 20 := by
    intro l
    induction l with
    | nil => intro a _ ha; exact ha
    | cons s l ih =>
      intro a hl ha
      simp only [List.foldl_cons]
      refine ih _ (fun s hs => hl s (by simp [hs])) ?_
      split
      · exact hl s (by simp)
      · exact ha
  exact key l 0 hs (by omega)

/-- what is known of an activity in a schedule that is drawn -/
structure SchAt (p : D_Project) (st md : List Int) (i : Nat) (hi : i < p.2.1.length) (x d w : Nat) (k : Int) (m : D_Mode) : Prop where
  hx : x ≤ 24
  hd : 1 ≤ d ∧ d ≤ 4
  hw : w ≤ 2
  gx : getI st (i : Int) = some (x : Int)
  gk : getI md (i : Int) = some k
  gm : getI p.2.1[i].2.2.1 k = some m
  dm : m.1 = (d : Int)
  mu : getI m.2.1 0 = some (w : Int)
  use : useOf p (st, (md, ())) 0 (i : Int) = (w : Int)
  run : ∀ t : Nat, runB p (st, (md, ())) (t : Int) (i : Int) = decide (x ≤ t ∧ t < x + d)
  fin : endV p (st, (md, ())) (i : Int) = ((x + d : Nat) : Int)
  mg : GenM p.2.2.2.1.length p.2.2.2.2.1.length m
  mo : ∀ u, impl_Project_mode (p, (st, (md, ())), (i : Int), u) () = some (m, ())
theorem sched_at {p : D_Project} {st md : List Int} (hP : GenP 6 p) (hS : GenS p.2.1 p.2.1.length st md) {i : Nat} (hi : i < p.2.1.length) :
    ∃ (x d w : Nat) (k : Int) (m : D_Mode), SchAt p st md i hi x d w k m := by
  have hp : Sm_Project 1099511627776 p := hP.sm (by omega) (by omega)
  have hf := hS.form hP
  have hrl := hP.rl
  obtain ⟨t, k, mo, g1, g2, g3, hm, -, -, -, -⟩ := form_at hp hf hi
  obtain ⟨x, e, mo', r1, re, rm, he, -, -, -, -, hr, hu⟩ := run_at hp hf hi
  have e1 : x = t := Option.some.inj (r1.symm.trans g1)
  have e2 : mo' = mo := by
    have := (rm ()).symm.trans (mode_eq (s := (st, (md, ()))) () hi g2 g3)
    exact (Prod.mk.inj (Option.some.inj this)).1
  subst e1 e2
  have gm := (hP.a i hi).m _ hm
  have hi1 : i < st.length := by rw [hS.s1]; exact hi
  have r1' : getI st (i : Int) = some x := r1
  have hxm : x ∈ st := by
    rw [getI_lt hi1] at r1'
    cases r1'
    exact List.getElem_mem hi1
  have hx := hS.s x hxm
  have hu0 := hu 0 (by omega)
  have hul : useOf p (st, (md, ())) 0 (i : Int) ∈ mo'.2.1 := by
    have hu0 : getI mo'.2.1 ((0 : Nat) : Int) = some (useOf p (st, (md, ())) 0 (i : Int)) := hu0
    rw [getI_nat] at hu0
    exact List.mem_of_getElem? hu0
  have hw := gm.u _ hul
  have hd := gm.d
  have hen : e = x + mo'.1 := by rw [he, addZ64 (by omega) (by omega)]
  refine ⟨x.toNat, mo'.1.toNat, (useOf p (st, (md, ())) 0 (i : Int)).toNat, (k : Int), mo', by omega, by omega, by omega, ?_, g2, g3, by omega, ?_, by omega, fun t' => ?_, ?_, gm, rm⟩
  · rw [r1']; congr 1; omega
  · have hu0 : getI mo'.2.1 0 = some (useOf p (st, (md, ())) 0 (i : Int)) := hu0
    rw [hu0]; congr 1; omega
  · rw [hr, Bool.eq_iff_iff, Bool.and_eq_true, leZ_iff, ltZ_iff, decide_eq_true_eq]
    omega
  · unfold endV
    rw [re]
    show e = _
    omega
def schX (st : List Int) (i : Nat) : Nat := ((getI st (i : Int)).getD 0).toNat
def schW (p : D_Project) (st md : List Int) (i : Nat) : Nat := (useOf p (st, (md, ())) 0 (i : Int)).toNat
def schD (p : D_Project) (st md : List Int) (i : Nat) : Nat := (endV p (st, (md, ())) (i : Int)).toNat - schX st i
theorem SchAt.names {p : D_Project} {st md : List Int} {i : Nat} {hi : i < p.2.1.length} {x d w : Nat} {k : Int} {m : D_Mode} (h : SchAt p st md i hi x d w k m) : schX st i = x ∧ schW p st md i = w ∧ schD p st md i = d := by
  have h1 : schX st i = x := by unfold schX; rw [h.gx]; simp
  refine ⟨h1, by unfold schW; rw [h.use]; simp, ?_⟩
  unfold schD
  rw [h.fin, h1]
  omega
/-- what is used at a time, as a sum -/
def schV (p : D_Project) (st md : List Int) (t : Nat) : Nat := sumN (fun i => if runB p (st, (md, ())) (t : Int) (i : Int) = true then schW p st md i else 0) p.2.1.length
theorem use_sum {p : D_Project} {st md : List Int} (hP : GenP 6 p) (hS : GenS p.2.1 p.2.1.length st md) (t : Nat) : useV p (st, (md, ())) 0 (t : Int) = ((schV p st md t : Nat) : Int) ∧ schV p st md t ≤ 12 := by
  have hal := hP.al
  have hw : ∀ i, i < p.2.1.length → useOf p (st, (md, ())) 0 (i : Int) = (schW p st md i : Int) ∧ schW p st md i ≤ 2 := fun i hi => by
    obtain ⟨x, d, w, k, m, h⟩ := sched_at hP hS hi
    obtain ⟨-, h2, -⟩ := h.names
    have := h.hw
    exact ⟨by rw [h.use, h2], by omega⟩
  constructor
  · unfold useV runL schV
    have := fold_sum (runB p (st, (md, ())) (t : Int)) (useOf p (st, (md, ())) 0) (schW p st md) 2 p.2.1.length 0 hw (by omega)
    rw [Nat.zero_add] at this
    exact this
  · unfold schV
    have := sumN_le (f := fun i => if runB p (st, (md, ())) (t : Int) (i : Int) = true then schW p st md i else 0) (c := 2) (n := p.2.1.length) fun i hi => by
      have := (hw i hi).2
      split <;> omega
    omega
theorem work_sum {p : D_Project} {st md : List Int} (hP : GenP 6 p) (hS : GenS p.2.1 p.2.1.length st md) : sumN (schV p st md) 60 = sumN (fun i => schD p st md i * schW p st md i) p.2.1.length := by
  unfold schV
  rw [sumN_swap]
  refine sumN_congr fun i hi => ?_
  obtain ⟨x, d, w, k, m, h⟩ := sched_at hP hS hi
  obtain ⟨h1, h2, h3⟩ := h.names
  have hx := h.hx
  have hd := h.hd
  rw [h2, h3, ← sumN_run_all (x := x) w (show x + d ≤ 60 by omega)]
  refine sumN_congr fun t ht => ?_
  rw [h.run t]
  simp only [decide_eq_true_eq]

theorem EndTime_S (p : D_Project) (s : D_Schedule) (i : Nat) (u : Unit) (hp : Sm_Project 1099511627776 p) (h : formB p s = true) (hi : i < p.2.1.length) : impl_EndTime (p, s, (i : Int), u) () = some (endV p s (i : Int), ()) := by
  have hin : inB (i : Int) 0 (subZ .i64 (lenI p.2.1) 1) = true := by
    have hle := hp.2.1.1
    rw [inB_iff, lenI_eq, subZ64 (by omega) (by omega)]
    omega
  obtain ⟨ge, -⟩ := endV_at hp h hi
  unfold impl_EndTime impl_Project_hasActivity
  simp only [ScheduleForm_impl _ _ _ hp, within_eq, some_bind', h, notB_true, Bool.false_eq_true, if_false, hin, end_impl, ge]
theorem hasRes_S (p : D_Project) (a : Int) (u : Unit) : impl_Project_hasResource (p, a, u) () = some (inB a 0 (subZ .i64 (lenI p.2.2.2.1) 1), ()) := by
  unfold impl_Project_hasResource
  simp only [within_eq, some_bind']
theorem zero_in {n : Nat} (h1 : 1 ≤ n) (h2 : n ≤ 1099511627776) : inB 0 0 (subZ .i64 (n : Int) 1) = true := by
  rw [inB_iff, subZ64 (by omega) (by omega)]
  omega
theorem UsageAt_S (p : D_Project) (s : D_Schedule) (t : Int) (u : Unit) (hp : Sm_Project 1099511627776 p) (h : formB p s = true) (hr : 1 ≤ p.2.2.2.1.length) : impl_UsageAt (p, s, 0, t, u) () = some (useV p s 0 t, ()) := by
  have hin := zero_in hr hp.2.2.2.1.1
  have hu := usage_impl p s 0 t () hp h (by omega)
  have hu : impl_Project_usage (p, s, 0, t, ()) () = some (useV p s 0 t, ()) := hu
  unfold impl_UsageAt
  simp only [ScheduleForm_impl _ _ _ hp, hasRes_S, lenI_eq, some_bind', h, notB_true, Bool.false_eq_true, if_false, hin, hu]
theorem RunningAt_S (p : D_Project) (s : D_Schedule) (t : Int) (u : Unit) (hp : Sm_Project 1099511627776 p) (h : formB p s = true) : impl_RunningAt (p, s, t, u) () = some (runL p s t, ()) := by
  unfold impl_RunningAt
  simp only [ScheduleForm_impl _ _ _ hp, some_bind', h, notB_true, Bool.false_eq_true, if_false, running_impl _ _ _ _ hp h]
theorem IdleCapacity_S {p : D_Project} {st md : List Int} (hP : GenP 6 p) (hS : GenS p.2.1 p.2.1.length st md) (u : Unit) : ∃ v, 0 ≤ v ∧ impl_IdleCapacity (p, (st, (md, ())), 0, u) () = some (v, ()) := by
  have hp : Sm_Project 1099511627776 p := hP.sm (by omega) (by omega)
  have hf := hS.form hP
  have hr := hP.rl
  have hin := zero_in hr.1 hp.2.2.2.1.1
  obtain ⟨n1, n2⟩ := proj_acts (proj_of_form hf)
  have hspan : 0 ≤ spanV p (st, (md, ())) := (foldl_max_ge (endV p (st, (md, ()))) (iotaI p.2.1.length) 0).1
  obtain ⟨K, hK, hK60⟩ : ∃ K : Nat, minI (spanV p (st, (md, ()))) 60 = (K : Int) ∧ K ≤ 60 := by
    refine ⟨(minI (spanV p (st, (md, ()))) 60).toNat, ?_, ?_⟩ <;> unfold minI <;> split <;> omega
  obtain ⟨r0, hr0⟩ : ∃ r0, getI p.2.2.2.1 0 = some r0 ∧ r0 ∈ p.2.2.2.1 := ⟨p.2.2.2.1[0], getI_lt (i := 0) (by omega), List.getElem_mem _⟩
  have hG := hP.r r0 hr0.2
  have hsl := hG.sl
  have l0 := fun A : Type => fold_loop (A := A) (F := impl_IdleCapacity_L0) (fun i (a : Int) => ((i : Int), (K : Int), p, (st, (md, ())), (0 : Int), a, ())) K (fun i a => 0 ≤ a ∧ a ≤ i * 20)
    (fun t a => addZ .i64 a (maxI (subZ .i64 (capVS r0.1 (t : Int)) (useV p (st, (md, ())) 0 (t : Int))) 0)) (fun a => Sum.inl (false, (K : Int), (K : Int), p, (st, (md, ())), (0 : Int), a, ())) (by omega)
    (fun t a ht ha => by
      obtain ⟨c1, c2⟩ := capVS_le hG.steps (t : Int)
      obtain ⟨v1, v2⟩ := use_sum hP hS t
      have hu := usage_impl p (st, (md, ())) 0 (t : Int) () hp hf (by omega)
      have hu : impl_Project_usage (p, (st, (md, ())), 0, (t : Int), ()) () = some (useV p (st, (md, ())) 0 (t : Int), ()) := hu
      constructor
      · unfold impl_IdleCapacity_L0
        simp only [lt_yes ht, if_true, hr0.1, some_bind', capacityAt_S _ _ _ (show r0.1.length ≤ 1099511627776 by omega), hu, idxN ht (Nat.le_refl _) (show K ≤ 1099511627776 by omega)]
      · rw [v1, subZ64 (by omega) (by omega)]
        have hm : 0 ≤ maxI (capVS r0.1 (t : Int) - ((schV p st md t : Nat) : Int)) 0 ∧ maxI (capVS r0.1 (t : Int) - ((schV p st md t : Nat) : Int)) 0 ≤ 20 := by unfold maxI; split <;> omega
        rw [addZ64 (by omega) (by omega)]
        omega)
    (fun a ha => by
      unfold impl_IdleCapacity_L0
      simp only [lt_no, Bool.false_eq_true, if_false])
    (a := 0) (by omega)
  refine ⟨_, (l0 Unit).2.1, ?_⟩
  have l1 := fun A : Type => (l0 A).1
  have e0 : (((0 : Nat) : Int), (K : Int), p, (st, (md, ())), (0 : Int), (0 : Int), ()) = ((0 : Int), (K : Int), p, (st, (md, ())), (0 : Int), (0 : Int), ()) := rfl
  rw [e0] at l1
  unfold impl_IdleCapacity
  simp only [ScheduleForm_impl _ _ _ hp, hasRes_S, lenI_eq, some_bind', hf, notB_true, Bool.false_eq_true, if_false, if_true, hin, Makespan_impl _ _ _ hp, hK, l1]
def consS (p : D_Project) (s : D_Schedule) (i : Nat) : Int := match impl_Project_mode (p, s, (i : Int), ()) () with
  | some m => (getI m.1.2.2.1 0).getD 0
  | none => 0
theorem ConsumptionOf_S {p : D_Project} {st md : List Int} (hP : GenP 6 p) (hS : GenS p.2.1 p.2.1.length st md) (hs : 1 ≤ p.2.2.2.2.1.length) (u : Unit) : ∃ v, 0 ≤ v ∧ impl_ConsumptionOf (p, (st, (md, ())), 0, u) () = some (v, ()) := by
  have hp : Sm_Project 1099511627776 p := hP.sm (by omega) (by omega)
  have hf := hS.form hP
  have hal := hP.al
  have hin := zero_in hs hp.2.2.2.2.1.1
  have hst : ∀ (a : Int) (u : Unit), impl_Project_hasStock (p, a, u) () = some (inB a 0 (subZ .i64 (lenI p.2.2.2.2.1) 1), ()) := fun a u => by
    unfold impl_Project_hasStock
    simp only [within_eq, some_bind']
  have hc : ∀ i (hi : i < p.2.1.length), ∃ (m : D_Mode), (∀ u, impl_Project_mode (p, (st, (md, ())), (i : Int), u) () = some (m, ())) ∧ getI m.2.2.1 0 = some (consS p (st, (md, ())) i) ∧ 0 ≤ consS p (st, (md, ())) i ∧ consS p (st, (md, ())) i ≤ 2 := fun i hi => by
    obtain ⟨x, d, w, k, m, h⟩ := sched_at hP hS hi
    have hl : 0 < m.2.2.1.length := by rw [h.mg.cl]; omega
    have e : getI m.2.2.1 0 = some m.2.2.1[0] := getI_lt (i := 0) hl
    have e1 : consS p (st, (md, ())) i = m.2.2.1[0] := by
      unfold consS
      simp only [h.mo, e, Option.getD_some]
    rw [e1]
    exact ⟨m, h.mo, e, h.mg.c _ (List.getElem_mem hl)⟩
  have l0 := fun A : Type => fold_loop (A := A) (C := Int × Unit) (F := impl_ConsumptionOf_L0) (fun i (a : Int) => ((i : Int), (p.2.1.length : Int), p, (st, (md, ())), (0 : Int), a, ())) p.2.1.length (fun i a => 0 ≤ a ∧ a ≤ i * 2) (fun i a => a + consS p (st, (md, ())) i)
    (fun a => Sum.inl (false, (p.2.1.length : Int), (p.2.1.length : Int), p, (st, (md, ())), (0 : Int), a, ())) (by omega)
    (fun i a hi ha => by
      obtain ⟨m, hm, hv, hv1, hv2⟩ := hc i hi
      constructor
      · unfold impl_ConsumptionOf_L0
        simp only [lt_yes hi, if_true, mode_impl, hm, hv, some_bind', idxN hi (Nat.le_refl _) (show p.2.1.length ≤ 1099511627776 by omega), addZ64 (show -9223372036854775808 ≤ a + consS p (st, (md, ())) i by omega) (by omega)]
      · omega)
    (fun a ha => by
      unfold impl_ConsumptionOf_L0
      simp only [lt_no, Bool.false_eq_true, if_false])
    (a := 0) (by omega)
  refine ⟨_, (l0 Unit).2.1, ?_⟩
  have l1 := fun A : Type => (l0 A).1
  have e0 : (((0 : Nat) : Int), (p.2.1.length : Int), p, (st, (md, ())), (0 : Int), (0 : Int), ()) = ((0 : Int), (p.2.1.length : Int), p, (st, (md, ())), (0 : Int), (0 : Int), ()) := rfl
  rw [e0] at l1
  unfold impl_ConsumptionOf
  simp only [ScheduleForm_impl _ _ _ hp, hst, lenI_eq, some_bind', hf, notB_true, Bool.false_eq_true, if_false, if_true, hin, l1]

theorem plain_FnSched (b : List Int) : laws_FnSched (b, ()) () = some (true, ()) := by
  unfold laws_FnSched
  simp only [lenI_eq]
  rcases tf (ltZ 1048576 (b.length : Int)) with hb | hb
  · have hb' : b.length ≤ 1048576 := by
      rw [Bool.eq_false_iff, Ne, ltZ_iff] at hb
      omega
    obtain ⟨p, hP3, ep⟩ := MakeProject_eq b hb'
    have hP := hP3.mono (show 3 ≤ 6 by omega)
    obtain ⟨st, md, hS, es⟩ := MakeSched_eq b hb' p hP
    have hp : Sm_Project 1099511627776 p := hP.sm (by omega) (by omega)
    have hf := hS.form hP
    have hal := hP.al
    have hrl := hP.rl
    simp only [hb, Bool.false_eq_true, if_false, ep, es, some_bind']
    have hD : ∀ i, i < p.2.1.length → schD p st md i ≤ 4 ∧ schW p st md i ≤ 2 := fun i hi => by
      obtain ⟨x, d, w, k, m, h⟩ := sched_at hP hS hi
      obtain ⟨-, h2, h3⟩ := h.names
      have := h.hd
      have := h.hw
      omega
    have l0 := fun A : Type => fold_loop (A := A) (C := Bool × Unit) (F := laws_FnSched_L0) (fun i (a : Nat) => ((i : Int), (p.2.1.length : Int), (0 : Int), (a : Int), p, (st, (md, ())), ())) p.2.1.length (fun i a => a ≤ i * 8) (fun i a => a + schD p st md i * schW p st md i)
      (fun a => Sum.inl (false, (p.2.1.length : Int), (p.2.1.length : Int), (0 : Int), (a : Int), p, (st, (md, ())), ())) (by omega)
      (fun i a hi ha => by
        obtain ⟨x, d, w, k, m, h⟩ := sched_at hP hS hi
        obtain ⟨n1, n2, n3⟩ := h.names
        have hx := h.hx
        have hd := h.hd
        have hw := h.hw
        have hmul : d * w ≤ 8 := by
          have := Nat.mul_le_mul hd.2 hw
          omega
        have hmZ : mulZ .i64 m.1 (w : Int) = ((d * w : Nat) : Int) := by
          rw [h.dm]
          have : mulZ .i64 (d : Int) (w : Int) = (d : Int) * (w : Int) := by
            have e : (d : Int) * (w : Int) = ((d * w : Nat) : Int) := by push_cast; rfl
            exact wrap64 (by rw [e]; omega) (by rw [e]; omega)
          rw [this]; push_cast; rfl
        have hacc : addZ .i64 (a : Int) ((d * w : Nat) : Int) = ((a + d * w : Nat) : Int) := by
          rw [addZ64 (by omega) (by omega)]; omega
        have hend : eqZ (endV p (st, (md, ())) (i : Int)) (addZ .i64 (x : Int) m.1) = true := by
          rw [h.fin, h.dm, addZ64 (by omega) (by omega), eqZ_iff]
          omega
        have hsp : ltZ (spanV p (st, (md, ()))) (endV p (st, (md, ())) (i : Int)) = false := by
          rw [Bool.eq_false_iff, Ne, ltZ_iff]
          have := (foldl_max_ge (endV p (st, (md, ()))) (iotaI p.2.1.length) 0).2 (i : Int) (by
            unfold iotaI
            exact List.mem_map.2 ⟨i, List.mem_range.2 hi, rfl⟩)
          unfold spanV
          omega
        constructor
        · unfold laws_FnSched_L0
          simp only [lt_yes hi, if_true, getI_lt hi, some_bind', h.gk, h.gm, h.mu, h.gx, EndTime_S _ _ _ _ hp hf hi, hend, notB_true, Bool.false_eq_true, if_false, Makespan_impl _ _ _ hp, hf, hsp, hmZ, hacc, n2, n3, idxN hi (Nat.le_refl _) (show p.2.1.length ≤ 1099511627776 by omega)]
        · rw [n2, n3]
          omega)
      (fun a ha => by
        unfold laws_FnSched_L0
        simp only [lt_no, Bool.false_eq_true, if_false])
      (a := 0) (by omega)
    have l1 := fun A : Type => (l0 A).1
    rw [foldN_sum] at l1
    have e0 : (((0 : Nat) : Int), (p.2.1.length : Int), (0 : Int), ((0 : Nat) : Int), p, (st, (md, ())), ()) = ((0 : Int), (p.2.1.length : Int), (0 : Int), (0 : Int), p, (st, (md, ())), ()) := rfl
    rw [e0] at l1
    simp only [l1, some_bind']
    generalize hN : ((sumN (fun i => schD p st md i * schW p st md i) p.2.1.length : Nat) : Int) = N
    have k0 := fun A : Type => fold_loop (A := A) (C := Bool × Unit) (F := laws_FnSched_L1) (fun t (a : Nat) => ((t : Int), (a : Int), N, p, (st, (md, ())), ())) 60 (fun t a => a ≤ t * 12) (fun t a => a + schV p st md t)
      (fun a => Sum.inl (false, ((60 : Nat) : Int), (a : Int), N, p, (st, (md, ())), ())) (by omega)
      (fun t a ht ha => by
        obtain ⟨v1, v2⟩ := use_sum hP hS t
        have hl : ltZ (t : Int) 60 = true := by rw [ltZ_iff]; omega
        have hacc : addZ .i64 (a : Int) ((schV p st md t : Nat) : Int) = ((a + schV p st md t : Nat) : Int) := by
          rw [addZ64 (by omega) (by omega)]; omega
        have hpk : ltZ (peakV p (st, (md, ())) 0) ((schV p st md t : Nat) : Int) = false := by
          rw [Bool.eq_false_iff, Ne, ltZ_iff]
          have := (foldN_max_ge (fun t => useT p (st, (md, ())) 0 (t : Int)) 61 0 0).2 t (by omega) (by omega)
          have hu : useT p (st, (md, ())) 0 (t : Int) = useV p (st, (md, ())) 0 (t : Int) := by
            unfold useT
            rw [hf, lenI_eq, zero_in hrl.1 hp.2.2.2.1.1]
            rfl
          rw [hu, v1] at this
          unfold peakV
          omega
        have hrn : ltZ (p.2.1.length : Int) ((runL p (st, (md, ())) (t : Int)).length : Int) = false := by
          rw [Bool.eq_false_iff, Ne, ltZ_iff]
          have := runL_length p (st, (md, ())) (t : Int)
          omega
        constructor
        · unfold laws_FnSched_L1
          simp only [hl, if_true, UsageAt_S _ _ _ _ hp hf hrl.1, v1, some_bind', PeakUsage_impl _ _ _ _ hp, hpk, Bool.false_eq_true, if_false, RunningAt_S _ _ _ _ hp hf, lenI_eq, hrn, hacc, idxN ht (Nat.le_refl _) (show 60 ≤ 1099511627776 by omega)]
        · omega)
      (fun a ha => by
        have hl : ltZ ((60 : Nat) : Int) 60 = false := rfl
        unfold laws_FnSched_L1
        simp only [hl, Bool.false_eq_true, if_false])
      (a := 0) (by omega)
    have k1 := fun A : Type => (k0 A).1
    rw [foldN_sum, work_sum hP hS, hN] at k1
    have f0 : (((0 : Nat) : Int), ((0 : Nat) : Int), N, p, (st, (md, ())), ()) = ((0 : Int), (0 : Int), N, p, (st, (md, ())), ()) := rfl
    rw [f0] at k1
    obtain ⟨v, hv, ev⟩ := IdleCapacity_S hP hS ()
    have hv' : leZ 0 v = true := leZ_iff.2 hv
    simp only [k1, some_bind', ScheduleForm_impl _ _ _ hp, hf, if_true, eqZ_self, ev, hv', lenI_eq]
    rcases tf (eqZ (p.2.2.2.2.1.length : Int) 0) with hz | hz
    · have hs : 1 ≤ p.2.2.2.2.1.length := by
        rw [Bool.eq_false_iff, Ne, eqZ_iff] at hz
        omega
      obtain ⟨c, hc, ec⟩ := ConsumptionOf_S hP hS hs ()
      have hc' : leZ 0 c = true := leZ_iff.2 hc
      simp only [hz, Bool.false_eq_true, if_false, ec, some_bind', hc']
    · simp only [hz, if_true, some_bind']
  · simp only [hb, if_true]
theorem L_FnSched (x : Ty.dens H_laws_FnSched.ps) (h : Ty.fits H_laws_FnSched.ps x) : laws_FnSched x () = some (true, ()) := by
  obtain ⟨b, u⟩ := x
  exact plain_FnSched b
end Go.Proofs.Ytmbknefcilojkaa
