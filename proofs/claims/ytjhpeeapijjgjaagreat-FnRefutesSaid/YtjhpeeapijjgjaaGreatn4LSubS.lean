/-
  Plain laws: the domain of one schedule refutes what the schedule violates. Condition: no list is longer than 2 to the 40.
-/
import Derived.Test.YtjhpeeapijjgjaaGreatn4LSubM
import Derived.Test.YtjhpeeapijjgjaaGreatn4LRunM
namespace Go.Proofs.YtjhpeeapijjgjaaGreat
open Go.Abs
set_option linter.unusedVariables false
set_option linter.unusedSimpArgs false

def singD (s : D_Schedule) : D_Domain := (s.1, (s.1, (s.2.1.map fun k => [k], ())))
theorem sing_boxS {n : Nat} {s : D_Schedule} (h : SchL n s) : BoxL n (singD s) ∧ ∀ i, i < n → mnB (singD s) i = tsS s i ∧ mxB (singD s) i = tsS s i ∧ moB (singD s) i = [ksS s i] := by
 refine ⟨⟨h.s1, h.s1, by simpa [singD] using h.s2⟩, fun i hi => ⟨rfl, rfl, ?_⟩⟩
 obtain ⟨-, g⟩ := h.at hi
 unfold moB singD
 simp only [List.getElem?_map, g, Option.map_some, Option.getD_some]
/-- what a schedule of the right form has at a place -/
theorem sch_at {p : D_Project} {s : D_Schedule} (hp : Sm_Project 1099511627776 p) (hf : formB p s = true) {i : Nat} (hi : i < p.2.1.length) :
  ∃ (m : Nat) (hm : m < p.2.1[i].2.2.1.length), ksS s i = (m : Int) ∧ endV p s (i : Int) = tsS s i + p.2.1[i].2.2.1[m].1 ∧ 0 ≤ tsS s i ∧ tsS s i ≤ 60 ∧ 1 ≤ p.2.1[i].2.2.1[m].1 ∧ p.2.1[i].2.2.1[m].1 ≤ 12 ∧
   (∀ j : Nat, j < p.2.2.2.1.length → useOf p s (j : Int) (i : Int) = atV false (j : Int) p.2.1[i].2.2.1[m]) ∧ (∀ k : Nat, k < p.2.2.2.2.1.length → consOf p s (k : Int) (i : Int) = atV true (k : Int) p.2.1[i].2.2.1[m]) := by
 have hs := sch_of_form hf
 obtain ⟨t, m, md, g1, g2, g3, hm, t0, t6, -, -⟩ := form_at hp hf hi
 obtain ⟨k1, k2⟩ := hs.get hi
 rw [k1] at g1
 rw [k2] at g2
 have et : t = tsS s i := (Option.some.inj g1).symm
 have em : ksS s i = (m : Int) := Option.some.inj g2
 subst et
 have hml : m < p.2.1[i].2.2.1.length := by
  rw [getI_nat] at g3
  exact (List.getElem?_eq_some_iff.1 g3).1
 have hmd : md = p.2.1[i].2.2.1[m] := by
  rw [getI_lt hml] at g3
  exact (Option.some.inj g3).symm
 have hpj := proj_of_form hf
 obtain ⟨d1, d2, -⟩ := mode_atM hpj hi _ (List.getElem_mem hml)
 have he : endV p s (i : Int) = addZ .i64 (tsS s i) md.1 := by
  unfold endV
  rw [end_eq (p := p) (s := s) () hi (by rw [k1]) (by rw [k2, em]) g3]
 rw [hmd, addZ64 (by omega) (by omega)] at he
 refine ⟨m, hml, em, he, t0, t6, d1, d2, fun j hj => ?_, fun k hk => ?_⟩
 ·unfold useOf
  rw [mode_eq (p := p) (s := s) () hi (by rw [k2, em]) g3]
  unfold atV
  simp only [Bool.false_eq_true, if_false, hmd]
 ·unfold consOf
  rw [mode_eq (p := p) (s := s) () hi (by rw [k2, em]) g3]
  unfold atV
  simp only [if_true, hmd]
theorem lst_one (val : D_Mode → Int) {a : D_Activity} {m : Nat} (hm : m < a.2.2.1.length) : lstV val a [(m : Int)] = val a.2.2.1[m] := by
 obtain ⟨j, hj, h1, e⟩ := lstV_at val (a := a) (ms := [(m : Int)]) ⟨m, hm, hasB_iff.2 (by simp)⟩
 have h2 := hasB_iff.1 h1
 simp at h2
 have h3 : j = m := by omega
 subst h3
 exact e
structure SingV (p : D_Project) (s : D_Schedule) (i : Nat) : Prop where
 mn : mnB (singD s) i = tsS s i
 mx : mxB (singD s) i = tsS s i
 dur : durM p (singD s) i = endV p s (i : Int) - tsS s i
 need : ∀ j, j < p.2.2.2.1.length → needM p (singD s) j i = useOf p s (j : Int) (i : Int) ∧ 0 ≤ useOf p s (j : Int) (i : Int) ∧ useOf p s (j : Int) (i : Int) ≤ 20
 cons : ∀ k, k < p.2.2.2.2.1.length → consM p (singD s) k i = consOf p s (k : Int) (i : Int) ∧ 0 ≤ consOf p s (k : Int) (i : Int) ∧ consOf p s (k : Int) (i : Int) ≤ 20
 work : ∀ j, j < p.2.2.2.1.length → ∀ x y, workM p (singD s) i j x y = ovI (tsS s i) (endV p s (i : Int) - tsS s i) x y * useOf p s (j : Int) (i : Int)
 t0 : 0 ≤ tsS s i
 t1 : tsS s i ≤ 60
 e0 : tsS s i + 1 ≤ endV p s (i : Int)
 e1 : endV p s (i : Int) ≤ tsS s i + 12
theorem sing_at {p : D_Project} {s : D_Schedule} (hp : Sm_Project 1099511627776 p) (hf : formB p s = true) {i : Nat} (hi : i < p.2.1.length) : SingV p s i := by
 obtain ⟨m, hm, em, ee, t0, t6, d1, d2, hu, hc⟩ := sch_at hp hf hi
 obtain ⟨-, hb⟩ := sing_boxS (sch_of_form hf)
 obtain ⟨b1, b2, b3⟩ := hb i hi
 have hpj := proj_of_form hf
 rw [em] at b3
 refine ⟨b1, b2, ?_, fun j hj => ?_, fun k hk => ?_, fun j hj x y => ?_, t0, t6, by omega, by omega⟩
 ·unfold durM
  rw [List.getElem?_eq_getElem hi, b3]
  simp only [lst_one _ hm]
  omega
 ·obtain ⟨-, -, u1, u2⟩ := usage_atM hp hpj hi hj _ (List.getElem_mem hm)
  rw [hu j hj]
  refine ⟨?_, u1, u2⟩
  unfold needM
  rw [List.getElem?_eq_getElem hi, b3]
  exact lst_one _ hm
 ·have u := cons_rng hp hpj hi hk _ (List.getElem_mem hm)
  rw [hc k hk]
  refine ⟨?_, u.1, u.2⟩
  unfold consM
  rw [List.getElem?_eq_getElem hi, b3]
  exact lst_one _ hm
 ·have e1 : workM p (singD s) i j x y = wrk1 p (singD s) i j x y (m : Int) := by
   unfold workM
   rw [b3]
   rfl
  rw [e1, (wrk1_at hp hpj (singD s) hi hj hm x y).1, b1, b2, hu j hj, ee]
  have e2 : tsS s i + p.2.1[i].2.2.1[m].1 - tsS s i = p.2.1[i].2.2.1[m].1 := by omega
  rw [e2]
  congr 1
  omega
theorem sing_use {p : D_Project} {s : D_Schedule} (hP : GenP 6 p) (hf : formB p s = true) : UseD p (singD s) := by
 have hp : Sm_Project 1099511627776 p := hP.sm (by omega) (by omega)
 obtain ⟨hl, hb⟩ := sing_boxS (sch_of_form hf)
 have hB : BoxOk p (singD s) := by
  refine ⟨hl, fun i hi => ?_, fun i hi => ?_⟩
  ·have h := sing_at hp hf hi
   have t0 := h.t0
   have t1 := h.t1
   rw [h.mn, h.mx]
   omega
  ·obtain ⟨m, hm, em, -⟩ := sch_at hp hf hi
   rw [(hb i hi).2.2, em]
   refine ⟨by simp, fun x hx => ?_⟩
   rw [List.mem_singleton.1 hx]
   exact List.mem_map.2 ⟨m, List.mem_range.2 hm, rfl⟩
 refine ⟨hp, hB.sm hP (by omega), hB.dom hP, ?_, hl⟩
 refine hl.not_empty_of (f := tsS s) (g := ksS s) fun i hi => ?_
 obtain ⟨b1, b2, b3⟩ := hb i hi
 rw [b1, b2, b3]
 exact ⟨Int.le_refl _, Int.le_refl _, hasB_iff.2 (by simp)⟩
theorem sing_sub {p : D_Project} {b : D_Domain} {s : D_Schedule} (hp : Sm_Project 1099511627776 p) (hb : BoxL p.2.1.length b) (hf : formB p s = true) (hc : conB b s = true) : SubD p (singD s) b := by
 obtain ⟨hl, hx⟩ := sing_boxS (sch_of_form hf)
 have hcon := (con_iff hb (sch_of_form hf)).1 hc
 refine ⟨fun i hi => ?_, fun i hi => ?_, fun i hi => ?_, fun i hi k hk => ?_, fun i hi k hk => ?_, fun i hi => ?_⟩
 ·rw [(hx i hi).1]; exact (hcon i hi).1
 ·rw [(hx i hi).2.1]; exact (hcon i hi).2.1
 ·rw [(hx i hi).1, (hx i hi).2.1]; exact Int.le_refl _
 ·rw [(hx i hi).2.2] at hk
  rw [List.mem_singleton.1 hk]
  exact hasB_iff.1 (hcon i hi).2.2
 ·rw [(hx i hi).2.2] at hk
  obtain ⟨m, hm, em, -⟩ := sch_at hp hf hi
  exact ⟨m, by rw [List.mem_singleton.1 hk, em], hm⟩
 ·rw [(hx i hi).2.2]; simp
/-! usage and consumption as sums -/
theorem fold_sumI (q : Int → Bool) (f : Int → Int) : ∀ n : Nat, n ≤ 1000 → (∀ i : Nat, i < n → 0 ≤ f (i : Int) ∧ f (i : Int) ≤ 1000) → ((iotaI n).filter q).foldl (fun n a => addZ .i64 n (f a)) 0 = sumI (fun i => if q (i : Int) = true then f (i : Int) else 0) n
 | 0, _, _ => rfl
 | n + 1, hn, h => by
  have ih := fold_sumI q f n (by omega) fun i hi => h i (by omega)
  have hs := sumI_in (f := fun i => if q (i : Int) = true then f (i : Int) else 0) (c := 1000) (n := n) fun i hi => by
   have := h i (by omega)
   split <;> omega
  obtain ⟨h1, h2⟩ := h n (by omega)
  have h3 : ((n : Int)) * 1000 ≤ 1000000 := by omega
  rw [iotaI_succ, List.filter_append, List.foldl_append, ih]
  simp only [sumI]
  rcases tf (q (n : Int)) with hq | hq
  ·simp [hq]
  ·simp only [List.filter_cons, hq, if_true, List.filter_nil, List.foldl_cons, List.foldl_nil]
   rw [addZ64 (by omega) (by omega)]
theorem use_sum {p : D_Project} {s : D_Schedule} (hp : Sm_Project 1099511627776 p) (hf : formB p s = true) {j : Nat} (hj : j < p.2.2.2.1.length) (t : Int) : useV p s (j : Int) t = sumI (cuseM p (singD s) j t) p.2.1.length := by
 have h6 := (proj_acts (proj_of_form hf)).2
 unfold useV runL
 rw [fold_sumI (runB p s t) (useOf p s (j : Int)) p.2.1.length (by omega) fun i hi => by have := ((sing_at hp hf hi).need j hj).2; omega]
 refine sumI_eq fun i hi => ?_
 have hS := sing_at hp hf hi
 have hr : runB p s t (i : Int) = (leZ (tsS s i) t && ltZ t (endV p s (i : Int))) := by
  obtain ⟨x, e, md, g1, ge, -, -, -, -, -, -, gr, -⟩ := run_at hp hf hi
  obtain ⟨k1, -⟩ := (sch_of_form hf).get hi
  rw [k1] at g1
  have ex : tsS s i = x := Option.some.inj g1
  have ee : endV p s (i : Int) = e := by unfold endV; rw [ge]
  rw [gr, ex, ee]
 unfold cuseM
 rw [hS.mn, hS.mx, hS.dur, (hS.need j hj).1, hr]
 have e : tsS s i + (endV p s (i : Int) - tsS s i) = endV p s (i : Int) := by omega
 rw [e]
 by_cases q : tsS s i ≤ t ∧ t < endV p s (i : Int)
 ·rw [if_pos q, if_pos (by rw [Bool.and_eq_true, leZ_iff, ltZ_iff]; exact q)]
 ·rw [if_neg q, if_neg (by rw [Bool.and_eq_true, leZ_iff, ltZ_iff]; exact q)]
theorem cons_sum {p : D_Project} {s : D_Schedule} (hp : Sm_Project 1099511627776 p) (hf : formB p s = true) {k : Nat} (hk : k < p.2.2.2.2.1.length) : consV p s (k : Int) = sumI (consM p (singD s) k) p.2.1.length := by
 have h6 := (proj_acts (proj_of_form hf)).2
 have h := fold_sumI (fun _ => true) (consOf p s (k : Int)) p.2.1.length (by omega) fun i hi => by have := ((sing_at hp hf hi).cons k hk).2; omega
 rw [List.filter_eq_self.2 (fun _ _ => rfl)] at h
 unfold consV
 rw [h]
 refine sumI_eq fun i hi => ?_
 simp only [if_true]
 exact ((sing_at hp hf hi).cons k hk).1.symm
theorem run_sum (s d c : Int) (x : Int) (hd : 0 ≤ d) : ∀ n : Nat, sumI (fun t => if s ≤ x + (t : Int) ∧ x + (t : Int) < s + d then c else 0) n = ovI s d x (x + (n : Int)) * c
 | 0 => by
  have e : ovI s d x (x + ((0 : Nat) : Int)) = 0 := by unfold ovI; omega
  rw [e]
  simp [sumI]
 | n + 1 => by
  simp only [sumI]
  rw [run_sum s d c x hd n]
  by_cases q : s ≤ x + (n : Int) ∧ x + (n : Int) < s + d
  ·have e : ovI s d x (x + ((n + 1 : Nat) : Int)) = ovI s d x (x + (n : Int)) + 1 := by unfold ovI; omega
   rw [if_pos q, e, Int.add_mul]
   omega
  ·have e : ovI s d x (x + ((n + 1 : Nat) : Int)) = ovI s d x (x + (n : Int)) := by unfold ovI; omega
   rw [if_neg q, e]
   omega
theorem work_sum {p : D_Project} {s : D_Schedule} (hp : Sm_Project 1099511627776 p) (hf : formB p s = true) {j : Nat} (hj : j < p.2.2.2.1.length) (x n : Nat) : sumI (fun t => useV p s (j : Int) ((x : Int) + (t : Int))) n = sumI (fun i => workM p (singD s) i j (x : Int) ((x + n : Nat) : Int)) p.2.1.length := by
 have e1 : sumI (fun t => useV p s (j : Int) ((x : Int) + (t : Int))) n = sumI (fun t => sumI (fun i => cuseM p (singD s) j ((x : Int) + (t : Int)) i) p.2.1.length) n := sumI_eq fun t _ => use_sum hp hf hj _
 rw [e1, sumI_swap (fun t i => cuseM p (singD s) j ((x : Int) + (t : Int)) i) p.2.1.length n]
 refine sumI_eq fun i hi => ?_
 have hS := sing_at hp hf hi
 have e0 := hS.e0
 rw [hS.work j hj, show ((x + n : Nat) : Int) = (x : Int) + (n : Int) by omega, ← run_sum (tsS s i) (endV p s (i : Int) - tsS s i) (useOf p s (j : Int) (i : Int)) (x : Int) (by omega) n]
 refine sumI_eq fun t _ => ?_
 unfold cuseM
 rw [hS.mn, hS.mx, hS.dur, (hS.need j hj).1]
theorem workDone_V {p : D_Project} {s : D_Schedule} (hp : Sm_Project 1099511627776 p) (hf : formB p s = true) {j : Nat} (hj : j < p.2.2.2.1.length) (x n : Nat) (hx : x + n ≤ 60) (u : Unit) : impl_Project_workDone (p, s, (j : Int), (x : Int), ((x + n : Nat) : Int), u) () = some (sumI (fun t => useV p s (j : Int) ((x : Int) + (t : Int))) n, ()) := by
 have h6 := (proj_acts (proj_of_form hf)).2
 have hr : ∀ t : Int, 0 ≤ useV p s (j : Int) t ∧ useV p s (j : Int) t ≤ 1000 := fun t => by
  rw [use_sum hp hf hj]
  obtain ⟨h1, h2⟩ := sumI_in (f := cuseM p (singD s) j t) (c := 20) (n := p.2.1.length) fun i hi => by
   have := (sing_at hp hf hi).need j hj
   unfold cuseM
   split <;> omega
  refine ⟨h1, ?_⟩
  have : ((p.2.1.length : Nat) : Int) * 20 ≤ 1000 := by omega
  omega
 have l0 := sum_loop (F := impl_Project_workDone_L0) (fun i v => ((x : Int) + (i : Int), ((x + n : Nat) : Int), p, s, (j : Int), v, ())) n (fun t => useV p s (j : Int) ((x : Int) + (t : Int)))
  (fun v => Sum.inl (false, ((x + n : Nat) : Int), ((x + n : Nat) : Int), p, s, (j : Int), v, ())) (by omega) (fun i _ => hr _)
  (fun i v hi v0 v1 => by
   have hu := hr ((x : Int) + (i : Int))
   have ea : addZ .i64 v (useV p s (j : Int) ((x : Int) + (i : Int))) = v + useV p s (j : Int) ((x : Int) + (i : Int)) := addZ64 (by omega) (by omega)
   have ei : addZ .i64 ((x : Int) + (i : Int)) 1 = (x : Int) + ((i + 1 : Nat) : Int) := by rw [addZ64 (by omega) (by omega)]; omega
   have hl : ltZ ((x : Int) + (i : Int)) ((x + n : Nat) : Int) = true := by rw [ltZ_iff]; omega
   unfold impl_Project_workDone_L0
   simp only [hl, if_true, usage_impl _ _ _ _ _ hp hf hj, some_bind', ea, ei])
  (fun v => by
   have e : (x : Int) + (n : Int) = ((x + n : Nat) : Int) := by omega
   unfold impl_Project_workDone_L0
   simp only [e, lt_no, Bool.false_eq_true, if_false])
  (s0 := ((x : Int), ((x + n : Nat) : Int), p, s, (j : Int), 0, ())) (by simp)
 unfold impl_Project_workDone
 simp only [l0, some_bind']
theorem IsRule.violates {p : D_Project} {r : D_Rule} {Q : D_Domain → Prop} (hR : IsRule p r Q) {s : D_Schedule} (hp : Sm_Project 1099511627776 p) (hf : formB p s = true) :
  ∃ v : Bool, (∀ u, impl_Violates (p, s, r, u) () = some (v, ())) ∧ (v = true ↔ Q (singD s)) := by
 have hpj := proj_of_form hf
 have hok := fun u => hR.ok hp hpj u
 have hs := sch_of_form hf
 -- it is enough to know what the program says of the rule itself
 have key : ∀ w : Bool, (∀ u, impl_Project_satisfies (p, s, r, u) () = some (w, ())) → ∀ u, impl_Violates (p, s, r, u) () = some (notB w, ()) := fun w hw u => by
  unfold impl_Violates
  simp only [ScheduleForm_impl _ _ _ hp, hf, some_bind', if_true, hok, hw]
 have nl : ∀ {a c : Int}, notB (leZ a c) = true ↔ c < a := fun {a c} => by
  rw [notB_not, Bool.not_eq_true', Bool.eq_false_iff, Ne, leZ_iff]
  omega
 rcases hR with ⟨k, hk, rfl, rfl⟩ | ⟨i, hi, rfl, rfl⟩ | ⟨j, t, hj, ht, rfl, rfl⟩ | ⟨j, x, n, hj, hn, hx, rfl, rfl⟩ | ⟨j, c, d, hj, hpos, hcd, hd, rfl, rfl⟩ | ⟨k, hk, rfl, rfl⟩
 ·obtain ⟨f, t, ef, et, hf', ht, -, g1, g2⟩ := link_at hp hpj hk
  have z : eqZ 1 1 = true := rfl
  have hS := sing_at hp hf hf'
  have hT := sing_at hp hf ht
  obtain ⟨a1, -⟩ := hs.get hf'
  obtain ⟨a2, -⟩ := hs.get ht
  have ge := (endV_at hp hf hf').1
  have e0 := hS.e0
  have e1 := hS.e1
  have t0 := hS.t0
  have t1 := hS.t1
  have hl : ∀ q : Prop, (tsS s t < tsS s f + (if p.2.2.1[k].2.2.1 = true then endV p s (f : Int) - tsS s f else 0) + p.2.2.1[k].2.2.2.1 ↔ q) → (q ↔ linkRef p (singD s) k) := fun q hq => by
   rw [← hq]
   refine ⟨fun hh => ⟨hk, f, t, ef, et, by rw [hS.mn, hT.mx, hS.dur]; exact hh⟩, fun ⟨hk', f', t', ef', et', hh⟩ => ?_⟩
   have e1 : f' = f := by rw [ef] at ef'; omega
   have e2 : t' = t := by rw [et] at et'; omega
   subst e1 e2
   rw [hS.mn, hT.mx, hS.dur] at hh
   exact hh
  rcases tf p.2.2.1[k].2.2.1 with hb | hb
  ·refine ⟨_, key (leZ (tsS s f + p.2.2.1[k].2.2.2.1) (tsS s t)) (fun u => ?_), ?_⟩
   ·have ea : addZ .i64 (tsS s f) p.2.2.1[k].2.2.2.1 = tsS s f + p.2.2.1[k].2.2.2.1 := addZ64 (by omega) (by omega)
    unfold impl_Project_satisfies impl_Project_linkHolds
    simp only [z, if_true, getI_lt hk, some_bind', ef, et, a1, a2, hb, Bool.false_eq_true, if_false, ea]
   ·rw [nl]
    refine hl _ ?_
    rw [hb]
    simp
  ·refine ⟨_, key (leZ (endV p s (f : Int) + p.2.2.1[k].2.2.2.1) (tsS s t)) (fun u => ?_), ?_⟩
   ·have ea : addZ .i64 (endV p s (f : Int)) p.2.2.1[k].2.2.2.1 = endV p s (f : Int) + p.2.2.1[k].2.2.2.1 := addZ64 (by omega) (by omega)
    unfold impl_Project_satisfies impl_Project_linkHolds
    simp only [z, if_true, getI_lt hk, some_bind', end_impl, ef, et, a1, a2, ge, hb, ea]
   ·rw [nl]
    refine hl _ ?_
    rw [hb]
    simp only [if_true]
    constructor <;> intro h <;> omega
 ·have z1 : eqZ 2 1 = false := rfl
  have z2 : eqZ 2 2 = true := rfl
  have hS := sing_at hp hf hi
  have ge := (endV_at hp hf hi).1
  refine ⟨_, key (leZ (endV p s (i : Int)) p.1) (fun u => ?_), ?_⟩
  ·unfold impl_Project_satisfies
   simp only [z1, z2, if_true, Bool.false_eq_true, if_false, some_bind', end_impl, ge]
  ·rw [nl]
   show _ ↔ p.1 < mnB (singD s) i + durM p (singD s) i
   rw [hS.mn, hS.dur]
   constructor <;> intro h <;> omega
 ·have z1 : eqZ 3 1 = false := rfl
  have z2 : eqZ 3 2 = false := rfl
  have z3 : eqZ 3 3 = true := rfl
  have hst : p.2.2.2.1[j].1.length ≤ 1099511627776 := (hp.2.2.2.1.2 _ (List.getElem_mem hj)).1.1
  have hc : capJ p j (t : Int) = capV p.2.2.2.1[j].1 (t : Int) := by
   unfold capJ
   rw [List.getElem?_eq_getElem hj]
  refine ⟨_, key (leZ (useV p s (j : Int) (t : Int)) (capV p.2.2.2.1[j].1 (t : Int))) (fun u => ?_), ?_⟩
  ·unfold impl_Project_satisfies
   simp only [z1, z2, z3, if_true, Bool.false_eq_true, if_false, some_bind', usage_impl _ _ _ _ _ hp hf hj, getI_lt hj, capacityAt_impl_eq, l03At_spec _ _ _ hst]
  ·rw [nl, use_sum hp hf hj, ← hc]
   exact Iff.rfl
 ·have z1 : eqZ 4 1 = false := rfl
  have z2 : eqZ 4 2 = false := rfl
  have z3 : eqZ 4 3 = false := rfl
  have z4 : eqZ 4 4 = true := rfl
  have hst : p.2.2.2.1[j].1.length ≤ 1099511627776 := (hp.2.2.2.1.2 _ (List.getElem_mem hj)).1.1
  have hc : capI p j (x : Int) ((x + n : Nat) : Int) = capW p.2.2.2.1[j].1 (x : Int) ((x + n : Nat) : Int) := by
   unfold capI
   rw [List.getElem?_eq_getElem hj]
  refine ⟨_, key (leZ (sumI (fun t => useV p s (j : Int) ((x : Int) + (t : Int))) n) (capW p.2.2.2.1[j].1 (x : Int) ((x + n : Nat) : Int))) (fun u => ?_), ?_⟩
  ·have w1 := fun u => workDone_V hp hf hj x n hx u
   have w2 := fun u => capW_at p.2.2.2.1[j].1 x n hst hx u
   unfold impl_Project_satisfies
   simp only [z1, z2, z3, z4, if_true, Bool.false_eq_true, if_false, some_bind', w1, getI_lt hj, w2]
  ·rw [nl, work_sum hp hf hj, ← hc]
   exact Iff.rfl
 ·have hcl : c < p.2.1.length := by omega
  have hin : ruleIn p (pairR j c d) := .inr (.inr (.inr (.inl ⟨rfl, j, c, d, hj, rfl, rfl, rfl, hcl, hd, hpos, hcd⟩)))
  have hS := sing_at hp hf hcl
  have hT := sing_at hp hf hd
  obtain ⟨-, s1, s2⟩ := SetupTime_M hp hpj hj hpos hcl hd
  obtain ⟨-, s3, s4⟩ := SetupTime_M hp hpj hj hpos hd hcl
  refine ⟨_, key (notB (failB p s (pairR j c d))) (fun u => satisfies_impl hp hf hin u), ?_⟩
  rw [pair_fail hp hf hj hpos hcl hd]
  have a1 := hS.t0
  have a2 := hS.t1
  have a3 := hS.e0
  have a4 := hS.e1
  have b1 := hT.t0
  have b2 := hT.t1
  have b3 := hT.e0
  have b4 := hT.e1
  rw [addZ64 (x := endV p s (c : Int)) (by omega) (by omega), addZ64 (x := endV p s (d : Int)) (by omega) (by omega)]
  obtain ⟨u1, u2, u3⟩ := hS.need j hj
  obtain ⟨v1, v2, v3⟩ := hT.need j hj
  have hne : c ≠ d := by omega
  have f1 : canM p (singD s) j c d = leZ (endV p s (c : Int) + setM p j c d) (tsS s d) := by
   rw [Bool.eq_iff_iff, can_iff, leZ_iff]
   unfold aftM
   rw [hS.mn, hS.dur, hT.mx]
   constructor
   ·rintro ⟨-, h⟩; omega
   ·intro h; exact ⟨hne, by omega⟩
  have f2 : canM p (singD s) j d c = leZ (endV p s (d : Int) + setM p j d c) (tsS s c) := by
   rw [Bool.eq_iff_iff, can_iff, leZ_iff]
   unfold aftM
   rw [hT.mn, hT.dur, hS.mx]
   constructor
   ·rintro ⟨-, h⟩; omega
   ·intro h; exact ⟨fun e => hne e.symm, by omega⟩
  show _ ↔ bothM p (singD s) j c d = true ∧ canM p (singD s) j c d = false ∧ canM p (singD s) j d c = false
  rw [both_iff, u1, v1, f1, f2]
  rcases tf (eqZ (useOf p s (j : Int) (c : Int)) 0) with q1 | q1
  ·rcases tf (eqZ (useOf p s (j : Int) (d : Int)) 0) with q2 | q2
   ·have n1 : 0 < useOf p s (j : Int) (c : Int) := by rw [Bool.eq_false_iff, Ne, eqZ_iff] at q1; omega
    have n2 : 0 < useOf p s (j : Int) (d : Int) := by rw [Bool.eq_false_iff, Ne, eqZ_iff] at q2; omega
    rcases tf (leZ (endV p s (c : Int) + setM p j c d) (tsS s d)) with q3 | q3 <;> rcases tf (leZ (endV p s (d : Int) + setM p j d c) (tsS s c)) with q4 | q4 <;> simp [q1, q2, q3, q4, notB, n1, n2, hne]
   ·have n2 : ¬ 0 < useOf p s (j : Int) (d : Int) := by rw [eqZ_iff] at q2; omega
    simp [q1, q2, notB, n2]
  ·have n1 : ¬ 0 < useOf p s (j : Int) (c : Int) := by rw [eqZ_iff] at q1; omega
   simp [q1, notB, n1]
 ·have z1 : eqZ 6 1 = false := rfl
  have z2 : eqZ 6 2 = false := rfl
  have z3 : eqZ 6 3 = false := rfl
  have z4 : eqZ 6 4 = false := rfl
  have z5 : eqZ 6 5 = false := rfl
  have hc : stockJ p k = p.2.2.2.2.1[k] := by
   unfold stockJ
   rw [List.getElem?_eq_getElem hk]
  refine ⟨_, key (leZ (consV p s (k : Int)) p.2.2.2.2.1[k]) (fun u => ?_), ?_⟩
  ·unfold impl_Project_satisfies
   simp only [z1, z2, z3, z4, z5, Bool.false_eq_true, if_false, some_bind', ConsumptionOf_impl_at _ _ _ _ hp hf hk, getI_lt hk]
  ·rw [nl, cons_sum hp hf hk, ← hc]
   exact Iff.rfl
end Go.Proofs.YtjhpeeapijjgjaaGreat
