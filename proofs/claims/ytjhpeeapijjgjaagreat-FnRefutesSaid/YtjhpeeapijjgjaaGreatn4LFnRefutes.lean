/-
  Plain laws: for every code the law FnRefutes returns true.
-/
import Derived.Test.YtjhpeeapijjgjaaGreatn4LRulesM
namespace Go.Proofs.YtjhpeeapijjgjaaGreat
open Go.Abs
set_option linter.unusedVariables false
set_option linter.unusedSimpArgs false

theorem GenB.useR {p : D_Project} {b : D_Domain} (hP : GenP 6 p) (h : GenB p b) : UseD p b := by
 refine ⟨hP.sm (by omega) (by omega), h.toGenB0.sm hP (by omega), h.toGenB0.dom hP, empty_not (fun i h1 h2 => h.le i h1 h2) (fun m hm => ?_), h.l⟩
 obtain ⟨i, hi, rfl⟩ := List.mem_iff_getElem.1 hm
 have l3 := h.l.l3
 rw [h.m i hi (by omega)]
 have := (hP.a i (by omega)).ml
 intro e
 have h0 : (iotaI p.2.1[i].2.2.1.length).length = 0 := by rw [e]; rfl
 rw [iotaI_length] at h0
 omega
theorem Singleton_R {s : D_Schedule} (h1 : s.1.length ≤ 1048576) (h2 : s.2.1.length ≤ 1048576) (u : Unit) : impl_SingletonDomain (s, u) () = some (singD s, ()) := by
 have l0 := fun A : Type => (fold_list (A := A) (F := impl_SingletonDomain_L0) (fun i (out : List (List Int)) => ((i : Int), (s.2.1.length : Int), s.2.1, (s.1, (s.1, (out, ()))), ([], [], [], ()), ())) s.2.1 (fun i out => out.length = i) (fun out k => out ++ [[k]]) (fun out => Sum.inl (false, (s.2.1.length : Int), (s.2.1.length : Int), s.2.1, (s.1, (s.1, (out, ()))), ([], [], [], ()), ())) (by omega)
  (fun i out hi ho => by
   refine ⟨?_, by simp [ho]⟩
   unfold impl_SingletonDomain_L0
   simp only [lt_yes hi, if_true, getI_lt hi, some_bind', addOneR out _ (show out.length ≤ 1048576 by omega), idxN hi (show s.2.1.length ≤ 1099511627776 by omega) (Nat.le_refl _)])
  (fun out _ => by
   unfold impl_SingletonDomain_L0
   simp only [lt_no, Bool.false_eq_true, if_false])
  (a := []) (s := (0, (s.2.1.length : Int), s.2.1, (s.1, (s.1, ([], ()))), ([], [], [], ()), ())) rfl rfl).1
 have fm : ∀ (l : List Int) (out : List (List Int)), l.foldl (fun out k => out ++ [[k]]) out = out ++ l.map fun k => [k] := by
  intro l
  induction l with
  | nil => intro out; simp
  | cons k l ih => intro out; simp [ih]
 rw [fm, List.nil_append] at l0
 unfold impl_SingletonDomain singD
 simp only [cloneR _ _ h1, some_bind', lenI_eq, l0]
theorem go_loopR {σ B C : Type} {F : σ → Option (Out σ B C)} (emb : Nat → σ) (n : Nat) (b : B) (hn : n ≤ 1099511627776) (hs : ∀ i, i < n → F (emb i) = some (.norm (emb (i + 1)))) (he : F (emb n) = some (.exit b)) {s : σ} (hs0 : s = emb 0) (A : Type) :
  loopN (A := A) big F s = some (.exit b) := by
 subst hs0
 exact (fold_loop (A := A) (F := F) (fun i (_ : Unit) => emb i) n (fun _ _ => True) (fun _ a => a) (fun _ => b) hn (fun i a hi _ => ⟨hs i hi, trivial⟩) (fun a _ => he) (a := ()) trivial).1
theorem cnt_take {α : Type} (q : α → Bool) (l : List α) {i : Nat} (hi : i < l.length) : (l.take (i + 1)).countP q = (l.take i).countP q + if q l[i] = true then 1 else 0 := by
 rw [List.take_succ_eq_append_getElem hi, List.countP_append, List.countP_singleton]
theorem cnt_le {α : Type} (q : α → Bool) (l : List α) (i : Nat) : (l.take i).countP q ≤ l.length := by
 have h1 := List.countP_le_length (p := q) (l := l.take i)
 have h2 : (l.take i).length ≤ l.length := by rw [List.length_take]; omega
 omega
/-- does a domain refute a rule? -/
def refV (p : D_Project) (b : D_Domain) (r : D_Rule) : Bool := match impl_Refutes (p, b, r, ()) () with | some v => v.1 | none => false
theorem refV_at {p : D_Project} {r : D_Rule} {Q : D_Domain → Prop} (hR : IsRule p r Q) {b : D_Domain} (h : UseD p b) : (∀ u, impl_Refutes (p, b, r, u) () = some (refV p b r, ())) ∧ (refV p b r = true ↔ Q b) := by
 obtain ⟨v, e, hv⟩ := hR.refutes h
 have : refV p b r = v := by unfold refV; simp only [e]
 rw [this]
 exact ⟨e, hv⟩
theorem refV_q {p : D_Project} {r : D_Rule} (hR : RuleQ p r) {b : D_Domain} (h : UseD p b) (u : Unit) : impl_Refutes (p, b, r, u) () = some (refV p b r, ()) := by
 obtain ⟨Q, hQ⟩ := hR
 exact (refV_at hQ h).1 u
theorem inc_cnt {n : Nat} (h : n ≤ 10000) : addZ .i64 (n : Int) 1 = ((n + 1 : Nat) : Int) := by
 rw [addZ64 (by omega) (by omega)]
 omega
theorem Count_R {p : D_Project} {b : D_Domain} (h : UseD p b) {l : List D_Rule} (hl : l.length ≤ 10000) (hq : ∀ r ∈ l, RuleQ p r) (he : ∀ u, impl_CandidateRules (p, b, u) () = some (l, ())) (u : Unit) : impl_CountRefutations (p, b, u) () = some ((l.countP (refV p b) : Int), ()) := by
 have l0 := go_loopR (F := impl_CountRefutations_L0) (fun i => ((i : Int), (l.length : Int), l, p, b, ((l.take i).countP (refV p b) : Int), ())) l.length
  (Sum.inl (false, (l.length : Int), (l.length : Int), l, p, b, (l.countP (refV p b) : Int), ())) (by omega)
  (fun i hi => by
   have er := refV_q (hq _ (List.getElem_mem hi)) h
   have hix := idxN hi (Nat.le_refl _) (show l.length ≤ 1099511627776 by omega)
   have hc := cnt_le (refV p b) l i
   rw [cnt_take _ _ hi]
   unfold impl_CountRefutations_L0
   rcases tf (refV p b l[i]) with q | q
   ·simp only [lt_yes hi, if_true, getI_lt hi, some_bind', er, q, Bool.false_eq_true, if_false, hix, Nat.add_zero]
   ·simp only [lt_yes hi, if_true, getI_lt hi, some_bind', er, q, hix, inc_cnt (Nat.le_trans hc hl)])
  (by
   unfold impl_CountRefutations_L0
   simp only [lt_no, Bool.false_eq_true, if_false, List.take_length])
  (s := (0, (l.length : Int), l, p, b, 0, ())) (by simp)
 unfold impl_CountRefutations
 simp only [he, some_bind', lenI_eq, l0]
theorem Find_R {p : D_Project} {b : D_Domain} (h : UseD p b) {l : List D_Rule} (hl : l.length ≤ 10000) (hq : ∀ r ∈ l, RuleQ p r) (he : ∀ u, impl_CandidateRules (p, b, u) () = some (l, ())) : ∃ r, ∀ u, impl_FindRefutation (p, b, u) () = some ((r, ltZ 0 (l.countP (refV p b) : Int), ()), ()) := by
 have l0 := fun A : Type => find_loop (A := A) (F := impl_FindRefutation_L0) (fun i => ((i : Int), (l.length : Int), l, p, b, (0, 0, 0, 0, ()), ())) l (refV p b)
  (Sum.inl (false, (l.length : Int), (l.length : Int), l, p, b, (0, 0, 0, 0, ()), ())) (fun i => (((l[i]?).getD (0, 0, 0, 0, ()), true, ()), ())) (by omega)
  (fun i hi q => by
   have er := refV_q (hq _ (List.getElem_mem hi)) h
   have ei : (l[i]?).getD (0, 0, 0, 0, ()) = l[i] := by rw [List.getElem?_eq_getElem hi]; rfl
   unfold impl_FindRefutation_L0
   simp only [lt_yes hi, if_true, getI_lt hi, some_bind', er, q, ei])
  (fun i hi q => by
   have er := refV_q (hq _ (List.getElem_mem hi)) h
   have hix := idxN hi (Nat.le_refl _) (show l.length ≤ 1099511627776 by omega)
   unfold impl_FindRefutation_L0
   simp only [lt_yes hi, if_true, getI_lt hi, some_bind', er, q, Bool.false_eq_true, if_false, hix])
  (by
   unfold impl_FindRefutation_L0
   simp only [lt_no, Bool.false_eq_true, if_false])
 have z : ((0 : Nat) : Int) = 0 := rfl
 simp only [z] at l0
 have s0 := fun u => DomainForm_impl p b u h.hp h.hb
 have s1 := fun u => DomainEmpty_impl b u h.hb
 cases hf : l.findIdx? (refV p b) with
 | none =>
  rw [hf] at l0
  have hc : ltZ 0 (l.countP (refV p b) : Int) = false := by
   rw [List.findIdx?_eq_none_iff] at hf
   rw [Bool.eq_false_iff, Ne, ltZ_iff, List.countP_eq_zero.2 (fun r hr => by rw [hf r hr]; simp)]
   omega
  refine ⟨(0, 0, 0, 0, ()), fun u => ?_⟩
  rw [hc]
  unfold impl_FindRefutation
  simp only [s0, h.dom, if_true, s1, h.ne, some_bind', Bool.false_eq_true, if_false, he, lenI_eq, l0]
 | some i =>
  rw [hf] at l0
  obtain ⟨hi, hq1, -⟩ := List.findIdx?_eq_some_iff_getElem.1 hf
  have hc : ltZ 0 (l.countP (refV p b) : Int) = true := by
   have : 0 < l.countP (refV p b) := List.countP_pos_iff.2 ⟨_, List.getElem_mem hi, hq1⟩
   rw [ltZ_iff]
   omega
  refine ⟨(l[i]?).getD (0, 0, 0, 0, ()), fun u => ?_⟩
  rw [hc]
  unfold impl_FindRefutation
  simp only [s0, h.dom, if_true, s1, h.ne, some_bind', Bool.false_eq_true, if_false, he, lenI_eq, l0]
/-! the schedule brought into the domain -/
theorem ts_set {st md : List Int} {i k : Nat} {v : Int} (hi : i < st.length) : tsS (st.set i v, (md, ())) k = if k = i then v else tsS (st, (md, ())) k := by
 unfold tsS
 simp only [List.getElem?_set]
 by_cases e : i = k
 ·subst e
  simp [hi]
 ·rw [if_neg e, if_neg (fun h => e h.symm)]
theorem GenS.set {acs : List D_Activity} {n : Nat} {st md : List Int} (h : GenS acs n st md) (i : Nat) {v : Int} (hv : 0 ≤ v ∧ v ≤ 24) : GenS acs n (st.set i v) md :=
 ⟨by rw [List.length_set]; exact h.s1, h.m1, fun x hx => by
  rcases List.mem_or_eq_of_mem_set hx with hx | rfl
  ·exact h.s x hx
  ·exact hv, h.m⟩
theorem set_modify {l : List Int} {i : Nat} {v : Int} : setI l (i : Int) (fun _ => v) = l.set i v := by
 rw [setI_nat]
 refine List.ext_getElem? fun k => ?_
 rw [List.getElem?_modify, List.getElem?_set]
 by_cases e : i = k
 ·subst e
  by_cases h : i < l.length
  ·simp [h]
  ·simp [h]
 ·simp [e]
theorem clamp_R {p : D_Project} {b : D_Domain} (hP : GenP 6 p) (hB : GenB p b) (c : List Int) {st md : List Int} (hS : GenS p.2.1 p.2.1.length st md) :
  ∃ st', (∀ A : Type, loopN (A := A) big laws_FnRefutes_L0 (0, (p.2.1.length : Int), c, (st, (md, ())), b, p, ()) = some (.exit (Sum.inl (false, (p.2.1.length : Int), (p.2.1.length : Int), c, (st', (md, ())), b, p, ())))) ∧ GenS p.2.1 p.2.1.length st' md ∧ ∀ k, k < p.2.1.length → mnB b k ≤ tsS (st', (md, ())) k ∧ tsS (st', (md, ())) k ≤ mxB b k := by
 have hal := hP.al
 have hdl := hP.dl
 obtain ⟨st', e, h1, h2⟩ := any_loopI (F := laws_FnRefutes_L0) (fun i (st : List Int) => ((i : Int), (p.2.1.length : Int), c, (st, (md, ())), b, p, ())) p.2.1.length
  (fun i st => GenS p.2.1 p.2.1.length st md ∧ ∀ k, k < i → mnB b k ≤ tsS (st, (md, ())) k ∧ tsS (st, (md, ())) k ≤ mxB b k)
  (fun st => Sum.inl (false, (p.2.1.length : Int), (p.2.1.length : Int), c, (st, (md, ())), b, p, ())) (by omega)
  (fun i st hi hI => by
   obtain ⟨hS, hK⟩ := hI
   have hsl : i < st.length := by rw [hS.s1]; exact hi
   obtain ⟨g1, g2, -⟩ := hB.l.get hi
   obtain ⟨r1, r2, r3⟩ := hB.range hi
   have hix := idxN hi (Nat.le_refl _) (show p.2.1.length ≤ 1099511627776 by omega)
   have gs : getI st (i : Int) = some (tsS (st, (md, ())) i) := by
    rw [getI_lt hsl]
    unfold tsS
    simp [List.getElem?_eq_getElem hsl]
   have gset : ∀ v, getI (st.set i v) (i : Int) = some v := fun v => by
    rw [getI_lt (by rw [List.length_set]; exact hsl)]
    simp
   have keep : ∀ v, mnB b i ≤ v ∧ v ≤ mxB b i → ∀ k, k < i + 1 → mnB b k ≤ tsS (st.set i v, (md, ())) k ∧ tsS (st.set i v, (md, ())) k ≤ mxB b k := fun v hv k hk => by
    rw [ts_set hsl]
    by_cases e : k = i
    ·subst e
     rw [if_pos rfl]
     exact hv
    ·rw [if_neg e]
     exact hK k (by omega)
   rcases tf (ltZ (tsS (st, (md, ())) i) (mnB b i)) with q1 | q1
   ·rcases tf (ltZ (mxB b i) (tsS (st, (md, ())) i)) with q2 | q2
    ·rw [Bool.eq_false_iff, Ne, ltZ_iff] at q1 q2
     have q1' : ltZ (tsS (st, (md, ())) i) (mnB b i) = false := by rw [Bool.eq_false_iff, Ne, ltZ_iff]; exact q1
     have q2' : ltZ (mxB b i) (tsS (st, (md, ())) i) = false := by rw [Bool.eq_false_iff, Ne, ltZ_iff]; exact q2
     refine ⟨st, ?_, hS, fun k hk => ?_⟩
     ·unfold laws_FnRefutes_L0
      simp only [lt_yes hi, if_true, gs, g1, g2, some_bind', q1', q2', Bool.false_eq_true, if_false, hix]
     ·by_cases e : k = i
      ·subst e; omega
      ·exact hK k (by omega)
    ·refine ⟨st.set i (mxB b i), ?_, hS.set i (by omega), keep _ (by omega)⟩
     unfold laws_FnRefutes_L0
     simp only [lt_yes hi, if_true, gs, g1, g2, some_bind', q1, q2, Bool.false_eq_true, if_false, hix, set_modify]
   ·have q2 : ltZ (mxB b i) (mnB b i) = false := by rw [Bool.eq_false_iff, Ne, ltZ_iff]; omega
    refine ⟨st.set i (mnB b i), ?_, hS.set i (by omega), keep _ (by omega)⟩
    unfold laws_FnRefutes_L0
    simp only [lt_yes hi, if_true, gs, g1, g2, some_bind', q1, q2, Bool.false_eq_true, if_false, hix, set_modify, gset])
  (fun st => by
   unfold laws_FnRefutes_L0
   simp only [lt_no, Bool.false_eq_true, if_false])
  (a := st) rfl ⟨hS, fun k hk => absurd hk (by omega)⟩
 exact ⟨st', e, h1, h2⟩
/-- a part of a domain that is not empty -/
theorem sub_of {p : D_Project} {a b : D_Domain} (ha : UseD p a) (h : subD p.2.1.length a b = true) : SubD p a b := by
 unfold subD at h
 rw [List.all_eq_true] at h
 have hi : ∀ i, i < p.2.1.length → mnB b i ≤ mnB a i ∧ mxB a i ≤ mxB b i ∧ ∀ x ∈ moB a i, x ∈ moB b i := fun i hi => by
  have := h i (by simpa using hi)
  unfold subDI at this
  rw [Bool.and_eq_true, Bool.and_eq_true, notB_not, notB_not, Bool.not_eq_true', Bool.not_eq_true', Bool.eq_false_iff, Bool.eq_false_iff, Ne, Ne, ltZ_iff, ltZ_iff, subB_iff] at this
  exact ⟨by omega, by omega, this.2.2⟩
 obtain ⟨n1, n2⟩ := not_empty ha.ne
 refine ⟨fun i h => (hi i h).1, fun i h => (hi i h).2.1, fun i h => ?_, fun i h => (hi i h).2.2, fun i h => ha.ix h, fun i h => n2 _ (ha.l.mo_mem h)⟩
 obtain ⟨e1, e2, -⟩ := ha.l.at h
 obtain ⟨k1, e1⟩ := List.getElem?_eq_some_iff.1 e1
 obtain ⟨k2, e2⟩ := List.getElem?_eq_some_iff.1 e2
 rw [← e1, ← e2]
 exact n1 i k1 k2
theorem plain_FnRefutes (c : List Int) : laws_FnRefutes (c, ()) () = some (true, ()) := by
 unfold laws_FnRefutes
 simp only [lenI_eq]
 rcases tf (ltZ 1048576 (c.length : Int)) with hc | hc
 ·have hc' : c.length ≤ 1048576 := by
   rw [Bool.eq_false_iff, Ne, ltZ_iff] at hc
   omega
  obtain ⟨p, hP3, ep⟩ := MakeProject_eq c hc'
  have hP := hP3.mono (show 3 ≤ 6 by omega)
  obtain ⟨st0, md, hS0, es⟩ := MakeSched_eq c hc' p hP
  obtain ⟨b, hB, eb⟩ := MakeBox_eq c hc' p hP
  obtain ⟨l, i, v, hL, el⟩ := MakeLit_eq c hc' p hP 4
  obtain ⟨k, a, w, u0⟩ := l
  obtain ⟨rfl, hi, rfl, hk0⟩ := hL
  simp only at hk0
  have hal := hP.al
  have hp : Sm_Project 1099511627776 p := hP.sm (by omega) (by omega)
  have hbs : Sm_Domain 1048576 b := hB.toGenB0.sm hP (by omega)
  have hU := hB.useR hP
  have hk : k = 1 ∨ k = 2 ∨ k = 3 ∨ k = 4 := by rcases hk0 with ⟨h | h, -⟩ | ⟨h | h, -⟩ <;> simp [h]
  have hv : v ≤ 62 := by
   rcases hk0 with ⟨-, h⟩ | ⟨-, h1, h2⟩
   ·omega
   ·have := (hP.a i hi).ml; omega
  obtain ⟨hX, hXf⟩ := hB.restOk hP hk hi hv
  have hXs := hX.sm hP (B := 1099511627776) (by omega)
  have hsub := hB.restSub (n := p.2.1.length) hk hi hv
  have er := fun u => Restrict_impl b (k, ((i : Int), ((v : Int), ()))) u hbs
  obtain ⟨st, e0, hS, hin⟩ := clamp_R hP hB c hS0
  obtain ⟨s, hs⟩ : ∃ s : D_Schedule, s = (st, (md, ())) := ⟨_, rfl⟩
  have hf : formB p s = true := by rw [hs]; exact hS.form hP
  have hsl : s.1.length = p.2.1.length ∧ s.2.1.length = p.2.1.length := by rw [hs]; exact ⟨hS.s1, hS.m1⟩
  have hsch := sch_of_form hf
  have hcon : conB b s = true := by
   rw [con_iff hU.l hsch]
   intro j hj
   obtain ⟨m1, m2⟩ := hin j hj
   rw [← hs] at m1 m2
   refine ⟨m1, m2, ?_⟩
   obtain ⟨m, hm, em, -⟩ := sch_at hp hf hj
   rw [em, hasB_iff, hB.toGenB0.mo hj]
   exact List.mem_map.2 ⟨m, List.mem_range.2 hm, rfl⟩
  have ecn := fun u => Contains_impl b s u hU.hb (by omega)
  have hUs := sing_use hP hf
  have hss := sing_sub hp hU.l hf hcon
  have esd := fun u => Singleton_R (s := s) (by omega) (by omega) u
  obtain ⟨L, hLn, hLl, hLq, eL⟩ := CandidateRules_L hP hB hU
  have eC := fun u => Count_R hU hLl hLq eL u
  obtain ⟨r0, eF⟩ := Find_R hU hLl hLq eL
  obtain ⟨less, hless⟩ : ∃ d, d = restV b (k, ((i : Int), ((v : Int), ()))) := ⟨_, rfl⟩
  rw [← hless] at hX hXf hXs hsub er
  -- what the greater domain refutes the smaller one refutes
  have hlr : ∀ r, RuleQ p r → refV p b r = true → ∀ u, impl_Refutes (p, less, r, u) () = some (true, ()) := fun r ⟨Q, hR⟩ hr u => by
   rcases tf (emptyB less) with he | he
   ·have hUl : UseD p less := ⟨hp, hXs, hXf, he, hX.l⟩
    obtain ⟨e1, e2⟩ := refV_at hR hUl
    rw [e1, e2.2 (hR.mono hp (proj_of_dom hXf) (sub_of hUl hsub) ((refV_at hR hU).2.1 hr))]
   ·exact empty_refutes hp hXs hXf he r u
  have l1 := go_loopR (F := laws_FnRefutes_L1) (fun j => ((j : Int), (L.length : Int), [], less, s, b, ((L.take j).countP (refV p b) : Int), L, p, ())) L.length
   (Sum.inl (false, (L.length : Int), (L.length : Int), [], less, s, b, (L.countP (refV p b) : Int), L, p, ())) (by omega)
   (fun j hj => by
    have hq := hLq _ (List.getElem_mem hj)
    obtain ⟨Q, hR⟩ := hq
    have hix := idxN hj (Nat.le_refl _) (show L.length ≤ 1099511627776 by omega)
    have hcl := cnt_le (refV p b) L j
    obtain ⟨e1, e2⟩ := refV_at hR hU
    obtain ⟨e3, e4⟩ := refV_at hR hUs
    obtain ⟨vv, e5, e6⟩ := hR.violates hp hf
    have hok := fun u => hR.ok hp (proj_of_dom hU.dom) u
    have hhd : List.headD ([] ++ ((j : Int) :: [])) 0 = (j : Int) := rfl
    have heq : refV p (singD s) L[j] = vv := by
     rw [Bool.eq_iff_iff, e4, e6]
    rw [cnt_take _ _ hj]
    rcases tf (refV p b L[j]) with q | q
    ·rcases tf (eqZ L[j].1 4) with q4 | q4
     ·unfold laws_FnRefutes_L1
      simp only [lt_yes hj, if_true, hhd, getI_lt hj, some_bind', hok, notB_true, Bool.false_eq_true, if_false, e1, q, q4, notB_false, esd, e3, e5, heq, eqB_self, hix, Nat.add_zero]
     ·unfold laws_FnRefutes_L1
      simp only [lt_yes hj, if_true, hhd, getI_lt hj, some_bind', hok, notB_true, Bool.false_eq_true, if_false, e1, q, q4, hix, Nat.add_zero]
    ·have hv1 : vv = true := e6.2 (hR.mono hp (proj_of_dom hU.dom) hss (e2.1 q))
     have hl1 := hlr _ ⟨Q, hR⟩ q
     rcases tf (eqZ L[j].1 4) with q4 | q4
     ·unfold laws_FnRefutes_L1
      simp only [lt_yes hj, if_true, hhd, getI_lt hj, some_bind', hok, notB_true, Bool.false_eq_true, if_false, e1, q, q4, notB_false, esd, e3, e5, heq, eqB_self, hix, hl1, hv1, inc_cnt (Nat.le_trans hcl hLl)]
     ·unfold laws_FnRefutes_L1
      simp only [lt_yes hj, if_true, hhd, getI_lt hj, some_bind', hok, notB_true, Bool.false_eq_true, if_false, e1, q, q4, e5, hix, hl1, hv1, inc_cnt (Nat.le_trans hcl hLl)])
   (by
    unfold laws_FnRefutes_L1
    simp only [lt_no, Bool.false_eq_true, if_false, List.take_length])
   (s := (0, (L.length : Int), [], less, s, b, 0, L, p, ())) (by simp)
  have fin : ltZ (p.2.1.length : Int) (L.length : Int) = true := by rw [ltZ_iff]; omega
  rw [← hs] at e0
  simp only [hc, Bool.false_eq_true, if_false, ep, es, eb, el, some_bind', e0, er, ecn, hcon, notB_true, eL, l1, eF, eC, eqZ_self, if_true, eqB_self, lenI_eq, fin]
 ·simp only [hc, if_true]
theorem L_FnRefutes (x : Ty.dens H_laws_FnRefutes.ps) (h : Ty.fits H_laws_FnRefutes.ps x) : laws_FnRefutes x () = some (true, ()) := by
 obtain ⟨b, u⟩ := x
 exact plain_FnRefutes b
end Go.Proofs.YtjhpeeapijjgjaaGreat
