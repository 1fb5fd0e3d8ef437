/-
  Plain laws: parts of domains, single schedules, sizes; for every code the law FnBoxes returns true.
-/
import Derived.Test.Ytmbknefcilojkaag5LBoxM
import Derived.Test.Ytmbknefcilojkaag5LGenF
namespace Go.Proofs.Ytmbknefcilojkaa
open Go.Abs
set_option linter.unusedVariables false
set_option linter.unusedSimpArgs false

theorem GenS.sch {p : D_Project} {st md : List Int} (h : GenS p.2.1 p.2.1.length st md) : SchL p.2.1.length (st, (md, ())) := ⟨h.s1, h.m1⟩
theorem SingletonDomain_V {s : D_Schedule} (h1 : s.1.length ≤ 1048576) (h2 : s.2.1.length ≤ 1048576) (u : Unit) : impl_SingletonDomain (s, u) () = some ((s.1, (s.1, (s.2.1.map fun k => [k], ()))), ()) := by
  have l0 := fun A : Type => (fold_list (A := A) (F := impl_SingletonDomain_L0) (fun i (out : List (List Int)) => ((i : Int), (s.2.1.length : Int), s.2.1, (s.1, (s.1, (out, ()))), ([], [], [], ()), ())) s.2.1 (fun i out => out.length = i) (fun out k => out ++ [[k]]) (fun out => Sum.inl (false, (s.2.1.length : Int), (s.2.1.length : Int), s.2.1, (s.1, (s.1, (out, ()))), ([], [], [], ()), ())) (by omega)
    (fun i out hi ho => by
      refine ⟨?_, by simp [ho]⟩
      unfold impl_SingletonDomain_L0
      simp only [lt_yes hi, if_true, getI_lt hi, some_bind', addOneR out _ (show out.length ≤ 1048576 by omega), idxN hi (show s.2.1.length ≤ 1099511627776 by omega) (Nat.le_refl _)])
    (fun out _ => by
      unfold impl_SingletonDomain_L0
      simp only [lt_no, Bool.false_eq_true, if_false])
    (a := []) (s := (0, (s.2.1.length : Int), s.2.1, (s.1, (s.1, ([], ()))), ([], [], [], ()), ())) rfl rfl).1
  have fm : ∀ (l : List Int) (out : List (List Int)), l.foldl (fun out k => out ++ [[k]]) out = out ++ l.map fun k => [k] := by
    intro l
    induction l with
    | nil => intro out; simp
    | cons k l ih => intro out; simp [ih]
  rw [fm, List.nil_append] at l0
  unfold impl_SingletonDomain
  simp only [cloneR _ _ h1, some_bind', lenI_eq, l0]
theorem sing_box {n : Nat} {s : D_Schedule} (h : SchL n s) : BoxL n (s.1, (s.1, (s.2.1.map fun k => [k], ()))) ∧ ∀ i, i < n → mnB (s.1, (s.1, (s.2.1.map fun k => [k], ()))) i = tsS s i ∧ mxB (s.1, (s.1, (s.2.1.map fun k => [k], ()))) i = tsS s i ∧ moB (s.1, (s.1, (s.2.1.map fun k => [k], ()))) i = [ksS s i] := by
  refine ⟨⟨h.s1, h.s1, by simpa using h.s2⟩, fun i hi => ⟨rfl, rfl, ?_⟩⟩
  obtain ⟨-, g⟩ := h.at hi
  unfold moB
  simp only [List.getElem?_map, g, Option.map_some, Option.getD_some]
theorem sing_con {n : Nat} {s : D_Schedule} (h : SchL n s) : conB (s.1, (s.1, (s.2.1.map fun k => [k], ()))) s = true := by
  obtain ⟨h1, h2⟩ := sing_box h
  rw [con_iff h1 h]
  intro i hi
  obtain ⟨k1, k2, k3⟩ := h2 i hi
  rw [k1, k2, k3]
  exact ⟨Int.le_refl _, Int.le_refl _, hasB_iff.2 (by simp)⟩
theorem ScheduleEqual_self (s : D_Schedule) (u : Unit) (h1 : s.1.length ≤ 1099511627776) (h2 : s.2.1.length ≤ 1099511627776) : impl_ScheduleEqual (s, s, u) () = some (true, ()) := by
  unfold impl_ScheduleEqual
  simp only [Equal_int _ _ _ h1, Equal_int _ _ _ h2, some_bind', decide_true, if_true]
theorem DomainSize_G {p : D_Project} {b : D_Domain} (hP : GenP 6 p) (hb : GenB p b) (u : Unit) : ∃ v, 1 ≤ v ∧ impl_DomainSize (b, u) () = some (v, ()) := by
  have hal := hP.al
  have hdl := hP.dl
  have hl := hb.l
  have e1 : eqZ (p.2.1.length : Int) (b.2.1.length : Int) = true := by rw [hl.l2]; exact eqZ_self _
  have ln : b.1.length = p.2.1.length := hl.l1
  have l0 := fun A : Type => fold_loop (A := A) (F := impl_DomainSize_L0) (fun i (a : Int) => ((i : Int), (p.2.1.length : Int), b.1, b, a, ())) p.2.1.length (fun i a => (0 < i → 1 ≤ a) ∧ 0 ≤ a)
    (fun i a => maxI a (mxB b i - mnB b i + 1)) (fun a => Sum.inl (false, (p.2.1.length : Int), (p.2.1.length : Int), b.1, b, a, ())) (by omega)
    (fun i a hi ha => by
      obtain ⟨g1, g2, g3⟩ := hl.get hi
      obtain ⟨v1, v2⟩ := hb.range hi
      have c1 : clampV (mnB b i) = mnB b i := by unfold clampV minI maxI; split <;> split <;> omega
      have c2 : clampV (mxB b i) = mxB b i := by unfold clampV minI maxI; split <;> split <;> omega
      have d1 : subZ .i64 (mxB b i) (mnB b i) = mxB b i - mnB b i := subZ64 (by omega) (by omega)
      have d2 : addZ .i64 (mxB b i - mnB b i) 1 = mxB b i - mnB b i + 1 := addZ64 (by omega) (by omega)
      constructor
      · unfold impl_DomainSize_L0
        simp only [lt_yes hi, if_true, g1, g2, clamped_i, some_bind', c1, c2, d1, d2, idxN hi (Nat.le_refl _) (show p.2.1.length ≤ 1099511627776 by omega)]
      · unfold maxI
        split <;> omega)
    (fun a _ => by
      unfold impl_DomainSize_L0
      simp only [lt_no, Bool.false_eq_true, if_false])
    (a := 0) ⟨by omega, by omega⟩
  refine ⟨_, (l0 Unit).2.1 (by omega), ?_⟩
  have l1 := fun A : Type => (l0 A).1
  have e0 : (((0 : Nat) : Int), (p.2.1.length : Int), b.1, b, (0 : Int), ()) = ((0 : Int), (p.2.1.length : Int), b.1, b, (0 : Int), ()) := rfl
  rw [e0] at l1
  unfold impl_DomainSize
  simp only [lenI_eq, e1, notB_true, Bool.false_eq_true, if_false, ln, l1, some_bind']
theorem val_hold {n : Nat} {b : D_Domain} {s : D_Schedule} (hb : BoxL n b) (hs : SchL n s) {k : Int} (hk : k = 1 ∨ k = 2 ∨ k = 3 ∨ k = 4) {i v : Nat} (hi : i < n) (hc : conB b s = true) :
    (valV k i v b = 1 → holdV k i v s = true) ∧ (valV k i v b = -1 → holdV k i v s = false) := by
  obtain ⟨c1, c2, c3⟩ := (con_iff hb hs).1 hc i hi
  rw [hasB_iff] at c3
  have on : (onlyV b i v = 1 → ksS s i = v) ∧ (onlyV b i v = -1 → ksS s i ≠ v) := by
    unfold onlyV valO
    by_cases h1 : moB b i = [(v : Int)]
    · rw [h1] at c3
      simp only [h1, decide_true, if_true]
      exact ⟨fun _ => by simpa using c3, fun h => by omega⟩
    · simp only [h1, decide_false, Bool.false_eq_true, if_false]
      rcases tf (hasB (moB b i) (v : Int)) with h2 | h2
      · simp only [h2, notB_false, if_true]
        refine ⟨fun h => by omega, fun _ e => ?_⟩
        rw [e, ← hasB_iff, h2] at c3
        cases c3
      · simp only [h2, notB_true, Bool.false_eq_true, if_false]
        exact ⟨fun h => by omega, fun h => by omega⟩
  have vO : ∀ a c : Bool, (valO a c = 1 → a = true) ∧ (valO a c = -1 → a = false ∧ c = true) := fun a c => by
    unfold valO
    cases a <;> cases c <;> simp
  unfold valV holdV
  rcases hk with rfl | rfl | rfl | rfl
  · simp only [if_true]
    refine ⟨fun h => ?_, fun h => ?_⟩
    · have := (vO _ _).1 h
      rw [leZ_iff] at this ⊢
      omega
    · have := (vO _ _).2 h
      rw [ltZ_iff] at this
      rw [Bool.eq_false_iff, Ne, leZ_iff]
      omega
  · simp only [show ¬ (2 : Int) = 1 by omega, if_false, if_true]
    refine ⟨fun h => ?_, fun h => ?_⟩
    · have := (vO _ _).1 h
      rw [leZ_iff] at this ⊢
      omega
    · have := (vO _ _).2 h
      rw [ltZ_iff] at this
      rw [Bool.eq_false_iff, Ne, leZ_iff]
      omega
  · simp only [show ¬ (3 : Int) = 1 by omega, show ¬ (3 : Int) = 2 by omega, if_false, if_true]
    refine ⟨fun h => ?_, fun h => ?_⟩
    · rw [eqZ_iff]; exact on.1 h
    · rw [Bool.eq_false_iff, Ne, eqZ_iff]; exact on.2 h
  · simp only [show ¬ (4 : Int) = 1 by omega, show ¬ (4 : Int) = 2 by omega, show ¬ (4 : Int) = 3 by omega, if_false, if_true]
    have hr : onlyV b i v = 1 ∨ onlyV b i v = -1 ∨ onlyV b i v = 0 := by
      unfold onlyV valO
      split
      · exact .inl rfl
      · split
        · exact .inr (.inl rfl)
        · exact .inr (.inr rfl)
    refine ⟨fun h => ?_, fun h => ?_⟩
    · rcases hr with e | e | e
      · rw [e, subZ64 (by omega) (by omega)] at h; omega
      · rw [notB_not, Bool.not_eq_true', Bool.eq_false_iff, Ne, eqZ_iff]; exact on.2 e
      · rw [e, subZ64 (by omega) (by omega)] at h; omega
    · rcases hr with e | e | e
      · have := on.1 e
        have q : eqZ (ksS s i) (v : Int) = true := eqZ_iff.2 this
        rw [q]; rfl
      · rw [e, subZ64 (by omega) (by omega)] at h; omega
      · rw [e, subZ64 (by omega) (by omega)] at h; omega
theorem plain_FnBoxes (c : List Int) : laws_FnBoxes (c, ()) () = some (true, ()) := by
  unfold laws_FnBoxes
  simp only [lenI_eq]
  rcases tf (ltZ 1048576 (c.length : Int)) with hc | hc
  · have hc' : c.length ≤ 1048576 := by
      rw [Bool.eq_false_iff, Ne, ltZ_iff] at hc
      omega
    obtain ⟨p, hP3, ep⟩ := MakeProject_eq c hc'
    have hP := hP3.mono (show 3 ≤ 6 by omega)
    obtain ⟨st, md, hS, es⟩ := MakeSched_eq c hc' p hP
    obtain ⟨b, hB, eb⟩ := MakeBox_eq c hc' p hP
    obtain ⟨l, i, v, hL, el⟩ := MakeLit_eq c hc' p hP 1
    obtain ⟨k, a, w, u0⟩ := l
    obtain ⟨rfl, hi, rfl, hk0⟩ := hL
    simp only at hk0
    have hal := hP.al
    have hp : Sm_Project 1099511627776 p := hP.sm (by omega) (by omega)
    have hbs : Sm_Domain 1048576 b := hB.toGenB0.sm hP (by omega)
    have hbs' : Sm_Domain 1099511627776 b := hB.toGenB0.sm hP (by omega)
    have hs := hS.sch
    have hk : k = 1 ∨ k = 2 ∨ k = 3 ∨ k = 4 := by rcases hk0 with ⟨h | h, -⟩ | ⟨h | h, -⟩ <;> simp [h]
    have hv : v ≤ 62 := by
      rcases hk0 with ⟨-, h⟩ | ⟨-, h1, h2⟩
      · omega
      · have := (hP.a i hi).ml; omega
    obtain ⟨hX, hXf⟩ := hB.restOk hP hk hi hv
    have hXs := hX.sm hP (B := 1099511627776) (by omega)
    have hcon := con_rest hB.l hs hk hi hv
    have hsub := hB.restSub (n := p.2.1.length) hk hi hv
    have hval := hB.restVal hP hk0 hi hv
    have hS1 : st.length ≤ 1048576 := by rw [hS.s1]; omega
    have hS2 : md.length ≤ 1048576 := by rw [hS.m1]; omega
    obtain ⟨sz, hsz, esz⟩ := DomainSize_G hP hB ()
    have hsz' : leZ 1 sz = true := leZ_iff.2 hsz
    obtain ⟨q1, q2⟩ := sing_box hs
    have qs : Sm_Domain 1099511627776 (st, (st, (md.map fun k => [k], ()))) := ⟨⟨by show st.length ≤ _; omega, fun _ _ => trivial⟩, ⟨by show st.length ≤ _; omega, fun _ _ => trivial⟩, ⟨by show (md.map fun k => [k]).length ≤ _; rw [List.length_map]; omega, fun y hy => by
      obtain ⟨z, -, rfl⟩ := List.mem_map.1 hy
      exact ⟨by simp, fun _ _ => trivial⟩⟩, trivial⟩
    have esd : ∀ u, impl_SingletonDomain ((st, (md, ())), u) () = some ((st, (st, (md.map fun k => [k], ()))), ()) := fun u => SingletonDomain_V (s := (st, (md, ()))) hS1 hS2 u
    have ess : ∀ u, impl_SingleSchedule ((st, (st, (md.map fun k => [k], ()))), u) () = some (((st, (md, ())), (true, ())), ()) := fun u => by
      rw [SingleSchedule_V q1 (fun j hj => by
        obtain ⟨k1, k2, k3⟩ := q2 j hj
        rw [k1, k2, k3]
        exact ⟨rfl, rfl⟩) (by omega)]
      simp only [List.map_map]
      congr 5
      conv => rhs; rw [← List.map_id md]
      rfl
    have ese : ∀ u, impl_ScheduleEqual ((st, (md, ())), (st, (md, ())), u) () = some (true, ()) := fun u => ScheduleEqual_self (st, (md, ())) u (by show st.length ≤ _; omega) (by show md.length ≤ _; omega)
    have ec : ∀ (y : D_Domain) u, Sm_Domain 1099511627776 y → impl_Contains (y, (st, (md, ())), u) () = some (conB y (st, (md, ())), ()) := fun y u hy => Contains_impl y (st, (md, ())) u hy (by show st.length ≤ _; omega)
    have eh : ∀ u w, impl_LiteralHolds ((k, ((i : Int), ((v : Int), w))), (st, (md, ())), u) () = some (holdV k i v (st, (md, ())), ()) := fun u w => LiteralHolds_V hs k hi (by omega) u w
    have ev := fun u w => LiteralValue_V hB.l hbs' k (v := v) hi u w
    have ev2 := fun u w => LiteralValue_V hX.l hXs k (v := v) hi u w
    have er := fun u => Restrict_impl b (k, ((i : Int), ((v : Int), ()))) u hbs
    have ef1 := fun u => DomainForm_impl p b u hp hbs'
    have ef2 := fun u => DomainForm_impl p _ u hp hXs
    have ee := fun u => DomainEmpty_impl _ u hXs
    have eu := fun u => DomainSubset_V hX.l hB.l hXs hbs' (by omega) u
    have hne : emptyB (restV b (k, ((i : Int), ((v : Int), ())))) = true → conB (restV b (k, ((i : Int), ((v : Int), ())))) (st, (md, ())) = false := fun he => by
      rw [Bool.eq_false_iff]
      intro hcc
      have := (con_iff hX.l hs).1 hcc
      rw [hX.l.not_empty_of this] at he
      cases he
    have hvh := val_hold hB.l hs (v := v) hk hi
    simp only [hc, Bool.false_eq_true, if_false, ep, es, eb, el, some_bind', er, ev, ev2, ec b _ hbs', ef1, ef2, hB.toGenB0.dom hP, hXf, notB_true, ec _ _ hXs, hcon, eh]
    have part2 : ∀ z : Bool, z = false → z = false := fun z h => h
    have fin : ((impl_SingletonDomain ((st, (md, ())), ()) ()).bind fun y => some y.1) = some (st, (st, (md.map fun k => [k], ()))) := by rw [esd]; rfl
    generalize hCg : conB b (st, (md, ())) = C at *
    generalize hHg : holdV k i v (st, (md, ())) = H at *
    generalize hVg : valV k i v b = V at *
    have n1 : eqZ V 1 = true → C = true → H = true := fun e h => (hvh h).1 (eqZ_iff.1 e)
    have n2 : eqZ V (-1) = true → C = true → H = false := fun e h => (hvh h).2 (eqZ_iff.1 e)
    rcases tf (emptyB (restV b (k, ((i : Int), ((v : Int), ()))))) with he | he
    · rcases tf C with h1 | h1 <;> rcases tf H with h2 | h2 <;> rcases tf (eqZ V 1) with h3 | h3 <;> rcases tf (eqZ V (-1)) with h4 | h4 <;>
        first
        | (exfalso; have := n1 h3 h1; rw [h2] at this; cases this; done)
        | (exfalso; have := n2 h4 h1; rw [h2] at this; cases this; done)
        | (simp [h1, h2, h3, h4, eqB_self, notB_true, notB_false, eqB, esd, ess, eu, hsub, ev2, hval, eqZ_self, ese, ec _ _ qs, sing_con hs, ee, he, esz, hsz', eh, notB]; done)
    · have hz := hne he
      rw [hcon] at hz
      rcases tf C with h1 | h1 <;> rcases tf H with h2 | h2 <;> rcases tf (eqZ V 1) with h3 | h3 <;> rcases tf (eqZ V (-1)) with h4 | h4 <;>
        first
        | (exfalso; have := n1 h3 h1; rw [h2] at this; cases this; done)
        | (exfalso; have := n2 h4 h1; rw [h2] at this; cases this; done)
        | (exfalso; rw [h1, h2] at hz; cases hz; done)
        | (simp [h1, h2, h3, h4, eqB_self, notB_true, notB_false, eqB, esd, ess, eu, hsub, ev2, hval, eqZ_self, ese, ec _ _ qs, sing_con hs, ee, he, esz, hsz', eh, notB, ec _ _ hXs, hcon]; done)
  · simp only [hc, if_true]
theorem L_FnBoxes (x : Ty.dens H_laws_FnBoxes.ps) (h : Ty.fits H_laws_FnBoxes.ps x) : laws_FnBoxes x () = some (true, ()) := by
  obtain ⟨b, u⟩ := x
  exact plain_FnBoxes b
end Go.Proofs.Ytmbknefcilojkaa
