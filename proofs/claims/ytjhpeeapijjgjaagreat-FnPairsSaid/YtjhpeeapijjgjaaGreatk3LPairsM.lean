/-
  Plain laws: numbers in a row, lists that hold a number, sets, domains (several small texts in one). Condition: no list is longer than 2 to the 40.
-/
import Derived.Test.YtjhpeeapijjgjaaGreatk3LLeastM
import Derived.Test.YtjhpeeapijjgjaaGreatk3LBoxM
import Derived.Test.YtjhpeeapijjgjaaGreatk3LSortK
import Derived.Test.YtjhpeeapijjgjaaGreatk3LRulesM
namespace Go.Proofs.YtjhpeeapijjgjaaGreat
open Go.Abs
set_option linter.unusedVariables false
set_option linter.unusedSimpArgs false

/-- a domain that can be used -/
structure UseD (p : D_Project) (b : D_Domain) : Prop where
  hp : Sm_Project 1099511627776 p
  hb : Sm_Domain 1099511627776 b
  dom : domB p b = true
  ne : emptyB b = false
  l : BoxL p.2.1.length b
def durM (p : D_Project) (b : D_Domain) (i : Nat) : Int := match p.2.1[i]? with | some a => lstV (fun m => m.1) a (moB b i) | none => 0
def needM (p : D_Project) (b : D_Domain) (j i : Nat) : Int := match p.2.1[i]? with | some a => lstV (atV false (j : Int)) a (moB b i) | none => 0
def setM (p : D_Project) (j b c : Nat) : Int := match p.2.2.2.1[j]?, p.2.1[b]?, p.2.1[c]? with
  | some r, some x, some y => ((getI r.2.1 x.2.1).bind fun row => getI row y.2.1).getD 0
  | _, _, _ => 0
def aftM (p : D_Project) (b : D_Domain) (j c d : Nat) : Int := mnB b c + durM p b c + setM p j c d
theorem UseD.use {p : D_Project} {b : D_Domain} (h : UseD p b) : useB p b = true := by unfold useB; rw [h.dom, h.ne]; rfl
theorem UseD.rng {p : D_Project} {b : D_Domain} (h : UseD p b) {i : Nat} (hi : i < p.2.1.length) : -2 ≤ mnB b i ∧ mnB b i ≤ 62 ∧ -2 ≤ mxB b i ∧ mxB b i ≤ 62 ∧ (moB b i).length ≤ 1099511627776 := by
  obtain ⟨x, y, m, g1, g2, g3, hm, x1, x2, y1, y2, -, -⟩ := dom_at h.dom hi
  obtain ⟨k1, k2, k3⟩ := h.l.get hi
  rw [k1] at g1
  rw [k2] at g2
  rw [k3] at g3
  cases g1
  cases g2
  cases g3
  exact ⟨x1, x2, y1, y2, (h.hb.2.2.1.2 _ hm).1⟩
theorem UseD.dur {p : D_Project} {b : D_Domain} (h : UseD p b) {i : Nat} (hi : i < p.2.1.length) (u : Unit) : impl_Project_duration (p, b, (i : Int), u) () = some (durM p b i, ()) := by
  have hpj := proj_of_dom h.dom
  have ha := mode_len hpj hi
  obtain ⟨-, -, k3⟩ := h.l.get hi
  have hm := (h.rng hi).2.2.2.2
  unfold impl_Project_duration durM
  rw [List.getElem?_eq_getElem hi]
  simp only [getI_lt hi, k3, MinDuration_impl _ _ _ (show p.2.1[i].2.2.1.length ≤ 1000000 by omega) hm, dur_lst, some_bind']
theorem durM_in {p : D_Project} (hpj : projB p = true) (b : D_Domain) {i : Nat} (hi : i < p.2.1.length) : 0 ≤ durM p b i ∧ durM p b i ≤ 12 := by
  unfold durM
  rw [List.getElem?_eq_getElem hi]
  exact lstV_in _ (by omega) (by omega) fun m hm => by
    obtain ⟨h1, h2, -⟩ := mode_atM hpj hi m hm
    omega
theorem UseD.need {p : D_Project} {b : D_Domain} (h : UseD p b) {i j : Nat} (hi : i < p.2.1.length) (hj : j < p.2.2.2.1.length) : (∀ u, impl_MinUsage (p.2.1[i], moB b i, (j : Int), u) () = some (needM p b j i, ())) ∧ ∀ u, impl_RequiredUsage (p, b, (j : Int), (i : Int), u) () = some (needM p b j i, ()) := by
  have hpj := proj_of_dom h.dom
  have ha := mode_len hpj hi
  obtain ⟨-, -, k3⟩ := h.l.get hi
  have hm := (h.rng hi).2.2.2.2
  obtain ⟨-, e2⟩ := MinUsage_both p.2.1[i] (moB b i) (j : Int) (by omega) hm (fun md hmd => by
    have := usage_atM h.hp hpj hi hj md hmd
    exact ⟨this.1, this.2.1⟩)
  have e3 : ∀ u, impl_MinUsage (p.2.1[i], moB b i, (j : Int), u) () = some (needM p b j i, ()) := fun u => by
    unfold needM
    rw [List.getElem?_eq_getElem hi]
    exact e2 u
  refine ⟨e3, fun u => ?_⟩
  unfold impl_RequiredUsage
  simp only [isUsable_eq _ _ _ h.hp h.hb, h.use, hasActivity_eq, inB_atP h.hp.2.1.1 hi, hasResource_eqP, inB_atP h.hp.2.2.2.1.1 hj, notB_true, Bool.false_eq_true, if_false, some_bind', getI_lt hi, k3, e3]
theorem SetupTime_M {p : D_Project} (hp : Sm_Project 1099511627776 p) (h : projB p = true) {j b c : Nat} (hj : j < p.2.2.2.1.length) (h0 : 0 < p.2.2.2.1[j].2.1.length) (hb : b < p.2.1.length) (hc : c < p.2.1.length) :
    (∀ u, impl_SetupTime (p, (j : Int), (b : Int), (c : Int), u) () = some (setM p j b c, ())) ∧ 0 ≤ setM p j b c ∧ setM p j b c ≤ 12 := by
  obtain ⟨row, n, r1, r2, n0, n1⟩ := setup_atP h hj h0 hb hc
  have e : setM p j b c = n := by
    unfold setM
    rw [List.getElem?_eq_getElem hj, List.getElem?_eq_getElem hb, List.getElem?_eq_getElem hc]
    simp only [r1, r2, Option.bind_some, Option.getD_some]
  rw [e]
  exact ⟨fun u => SetupTime_impl_atP hp h u hj h0 hb hc r1 r2, n0, n1⟩
theorem after_M {p : D_Project} {b : D_Domain} (h : UseD p b) {j c d : Nat} (hj : j < p.2.2.2.1.length) (h0 : 0 < p.2.2.2.1[j].2.1.length) (hc : c < p.2.1.length) (hd : d < p.2.1.length) (u : Unit) :
    impl_Project_after (p, b, (j : Int), (c : Int), (d : Int), u) () = some (aftM p b j c d, ()) := by
  have hpj := proj_of_dom h.dom
  obtain ⟨k1, -, -⟩ := h.l.get hc
  obtain ⟨x1, x2, -⟩ := h.rng hc
  obtain ⟨d1, d2⟩ := durM_in hpj b hc
  obtain ⟨e, s1, s2⟩ := SetupTime_M h.hp hpj hj h0 hc hd
  unfold impl_Project_after aftM
  simp only [k1, h.dur hc, e, some_bind']
  rw [addZ64 (x := mnB b c) (by omega) (by omega), addZ64 (by omega) (by omega)]
theorem arePair_M {p : D_Project} {b : D_Domain} (h : UseD p b) {j c d : Nat} (hj : j < p.2.2.2.1.length) (h0 : 0 < p.2.2.2.1[j].2.1.length) (hc : c < p.2.1.length) (hd : d < p.2.1.length) (u : Unit) :
    impl_arePair (p, b, (j : Int), (c : Int), (d : Int), u) () = some (notB (eqZ (c : Int) (d : Int)), ()) := by
  have hM : machBP p (j : Int) = true := by rw [machB_atP h.hp hj, ltZ_iff, lenI_eq]; omega
  unfold impl_arePair impl_onMachine
  simp only [isUsable_eq _ _ _ h.hp h.hb, h.use, IsMachine_impl_eqP, IsMachine_specP _ _ _ h.hp, hM, hasActivity_eq, inB_atP h.hp.2.1.1 hc, inB_atP h.hp.2.1.1 hd, if_true, some_bind']
def bothM (p : D_Project) (b : D_Domain) (j c d : Nat) : Bool := notB (eqZ (c : Int) (d : Int)) && (ltZ 0 (needM p b j c) && ltZ 0 (needM p b j d))
def canM (p : D_Project) (b : D_Domain) (j c d : Nat) : Bool := notB (eqZ (c : Int) (d : Int)) && leZ (aftM p b j c d) (mxB b d)
theorem BothUse_M {p : D_Project} {b : D_Domain} (h : UseD p b) {j c d : Nat} (hj : j < p.2.2.2.1.length) (h0 : 0 < p.2.2.2.1[j].2.1.length) (hc : c < p.2.1.length) (hd : d < p.2.1.length) (u : Unit) :
    impl_BothUse (p, b, (j : Int), (c : Int), (d : Int), u) () = some (bothM p b j c d, ()) := by
  have e1 := (h.need hc hj).2
  have e2 := (h.need hd hj).2
  unfold impl_BothUse bothM
  simp only [arePair_M h hj h0 hc hd, some_bind']
  rcases tf (notB (eqZ (c : Int) (d : Int))) with q | q <;> rcases tf (ltZ 0 (needM p b j c)) with q1 | q1 <;> rcases tf (ltZ 0 (needM p b j d)) with q2 | q2 <;> simp [q, q1, q2, e1, e2]
theorem CanPrecede_M {p : D_Project} {b : D_Domain} (h : UseD p b) {j c d : Nat} (hj : j < p.2.2.2.1.length) (h0 : 0 < p.2.2.2.1[j].2.1.length) (hc : c < p.2.1.length) (hd : d < p.2.1.length) (u : Unit) :
    impl_CanPrecede (p, b, (j : Int), (c : Int), (d : Int), u) () = some (canM p b j c d, ()) := by
  obtain ⟨-, k2, -⟩ := h.l.get hd
  unfold impl_CanPrecede canM
  simp only [arePair_M h hj h0 hc hd, some_bind']
  rcases tf (notB (eqZ (c : Int) (d : Int))) with q | q
  · simp [q]
  · simp [q, after_M h hj h0 hc hd, k2]
theorem PairConflict_M {p : D_Project} {b : D_Domain} (h : UseD p b) {j c d : Nat} (hj : j < p.2.2.2.1.length) (h0 : 0 < p.2.2.2.1[j].2.1.length) (hc : c < p.2.1.length) (hd : d < p.2.1.length) (u : Unit) :
    impl_PairConflict (p, b, (j : Int), (c : Int), (d : Int), u) () = some (bothM p b j c d && (notB (canM p b j c d) && notB (canM p b j d c)), ()) := by
  unfold impl_PairConflict
  simp only [BothUse_M h hj h0 hc hd, some_bind']
  rcases tf (bothM p b j c d) with q | q <;> rcases tf (canM p b j c d) with q1 | q1 <;> rcases tf (canM p b j d c) with q2 | q2 <;> simp [q, q1, q2, CanPrecede_M h hj h0 hc hd, CanPrecede_M h hj h0 hd hc, notB]
def mustM (p : D_Project) (b : D_Domain) (j c d : Nat) : Bool := bothM p b j c d && (canM p b j c d && notB (canM p b j d c))
theorem MustPrecede_M {p : D_Project} {b : D_Domain} (h : UseD p b) {j c d : Nat} (hj : j < p.2.2.2.1.length) (h0 : 0 < p.2.2.2.1[j].2.1.length) (hc : c < p.2.1.length) (hd : d < p.2.1.length) (u : Unit) :
    impl_MustPrecede (p, b, (j : Int), (c : Int), (d : Int), u) () = some (mustM p b j c d, ()) := by
  unfold impl_MustPrecede mustM
  simp only [BothUse_M h hj h0 hc hd, some_bind']
  rcases tf (bothM p b j c d) with q | q <;> rcases tf (canM p b j c d) with q1 | q1 <;> rcases tf (canM p b j d c) with q2 | q2 <;> simp [q, q1, q2, CanPrecede_M h hj h0 hc hd, CanPrecede_M h hj h0 hd hc, notB]
theorem EarliestAfter_M {p : D_Project} {b : D_Domain} (h : UseD p b) {j c d : Nat} (hj : j < p.2.2.2.1.length) (h0 : 0 < p.2.2.2.1[j].2.1.length) (hc : c < p.2.1.length) (hd : d < p.2.1.length) (u : Unit) :
    impl_EarliestAfter (p, b, (j : Int), (c : Int), (d : Int), u) () = some (if mustM p b j c d = true then aftM p b j c d else 0, ()) := by
  unfold impl_EarliestAfter
  simp only [MustPrecede_M h hj h0 hc hd, some_bind']
  rcases tf (mustM p b j c d) with q | q <;> simp [q, after_M h hj h0 hc hd, notB]
/-- the activities that use a machine, by their earliest starts -/
def chainM (p : D_Project) (b : D_Domain) (j : Nat) : List Int := srtK (keyB b.1) ((iotaI p.2.1.length).filter fun a => ltZ 0 (needM p b j a.toNat))
theorem chain_mem {p : D_Project} {b : D_Domain} {j : Nat} {x : Int} (h : x ∈ chainM p b j) : ∃ i : Nat, x = (i : Int) ∧ i < p.2.1.length ∧ 0 < needM p b j i := by
  obtain ⟨h1, h2⟩ := List.mem_filter.1 (srtK_mem h)
  obtain ⟨i, rfl, hi⟩ := iotaI_mem h1
  rw [ltZ_iff] at h2
  exact ⟨i, rfl, hi, h2⟩
theorem MachineChain_M {p : D_Project} {b : D_Domain} (h : UseD p b) {j : Nat} (hj : j < p.2.2.2.1.length) (h0 : 0 < p.2.2.2.1[j].2.1.length) (u : Unit) :
    impl_MachineChain (p, b, (j : Int), u) () = some (chainM p b j, ()) := by
  have hM : machBP p (j : Int) = true := by rw [machB_atP h.hp hj, ltZ_iff, lenI_eq]; omega
  have hn := proj_actsP (proj_of_dom h.dom)
  have hk := fun f hf u => kept_eq (iotaI p.2.1.length) f (fun a => ltZ 0 (needM p b j a.toNat)) u (by rw [iotaI_length]; omega) hf
  have hlen := List.length_filter_le (fun a => ltZ 0 (needM p b j a.toNat)) (iotaI p.2.1.length)
  rw [iotaI_length] at hlen
  have hc : ∀ x ∈ (iotaI p.2.1.length).filter (fun a => ltZ 0 (needM p b j a.toNat)), ∀ y ∈ (iotaI p.2.1.length).filter (fun a => ltZ 0 (needM p b j a.toNat)), ∃ k, (fun v6 => (Option.bind (impl_MachineChain_2 v6 (b, ())) fun v7 => (some v7.1)) : D_Step → Option Int) (x, y, ()) = some k ∧ ltZ k 0 = keyB b.1 x y := fun x hx y hy => by
    obtain ⟨i, rfl, hi⟩ := iotaI_mem (List.mem_filter.1 hx).1
    obtain ⟨i', rfl, hi'⟩ := iotaI_mem (List.mem_filter.1 hy).1
    obtain ⟨g1, -⟩ := h.l.get hi
    obtain ⟨g2, -⟩ := h.l.get hi'
    obtain ⟨k, hk, hk2⟩ := Compare_lt (mnB b i) (mnB b i') ()
    refine ⟨k, ?_, ?_⟩
    · unfold impl_MachineChain_2
      simp only [g1, g2, some_bind', hk]
    · rw [hk2]
      unfold keyB
      simp only [g1, g2]
  have hso := fun u => SortStable_eq (fun v6 => (Option.bind (impl_MachineChain_2 v6 (b, ())) fun v7 => (some v7.1))) (keyB b.1) ((iotaI p.2.1.length).filter (fun a => ltZ 0 (needM p b j a.toNat))) (by omega) hc u
  unfold impl_MachineChain impl_onMachine
  simp only [isUsable_eq _ _ _ h.hp h.hb, h.use, IsMachine_impl_eqP, IsMachine_specP _ _ _ h.hp, hM, if_true, some_bind', notB_true, Bool.false_eq_true, if_false, lenI_eq, IntRange_impl _ _ (show p.2.1.length ≤ 200 by omega)]
  rw [hk _ (fun a ha => by
    obtain ⟨i, rfl, hi⟩ := iotaI_mem ha
    unfold impl_MachineChain_1
    simp only [(h.need hi hj).2, some_bind', Int.toNat_natCast])]
  simp only [some_bind', hso]
  rfl
open Go.Abs
set_option linter.unusedVariables false
set_option linter.unusedSimpArgs false

theorem sch_of_form {p : D_Project} {s : D_Schedule} (h : formB p s = true) : SchL p.2.1.length s := by
  unfold formB at h
  simp only [Bool.and_eq_true] at h
  exact ⟨len_of_eqZ h.1.1.2, len_of_eqZ h.1.2⟩
structure InD (p : D_Project) (b : D_Domain) (s : D_Schedule) (i : Nat) : Prop where
  mn : mnB b i ≤ tsS s i
  mx : tsS s i ≤ mxB b i
  t0 : 0 ≤ tsS s i
  t1 : tsS s i ≤ 60
  e : tsS s i + durM p b i ≤ endV p s (i : Int)
  e1 : endV p s (i : Int) ≤ 72
  u : ∀ j, j < p.2.2.2.1.length → needM p b j i ≤ useOf p s (j : Int) (i : Int)
  g : getI s.1 (i : Int) = some (tsS s i)
/-- a schedule of the right form within a domain -/
theorem in_dom {p : D_Project} {b : D_Domain} {s : D_Schedule} (h : UseD p b) (hf : formB p s = true) (hc : conB b s = true) {i : Nat} (hi : i < p.2.1.length) : InD p b s i := by
  have hs := sch_of_form hf
  obtain ⟨c1, c2, c3⟩ := (con_iff h.l hs).1 hc i hi
  obtain ⟨t, m, md, g1, g2, g3, hm, t0, t6, -, -⟩ := form_at h.hp hf hi
  obtain ⟨k1, k2⟩ := hs.get hi
  rw [k1] at g1
  rw [k2] at g2
  have et : t = tsS s i := (Option.some.inj g1).symm
  have em : ksS s i = (m : Int) := Option.some.inj g2
  subst et
  have hml : m < p.2.1[i].2.2.1.length := by
    rw [getI_nat] at g3
    exact (List.getElem?_eq_some_iff.1 g3).1
  have hmd : md = p.2.1[i].2.2.1[m] := by
    rw [getI_lt hml] at g3
    exact (Option.some.inj g3).symm
  rw [em] at c3
  have he : endV p s (i : Int) = addZ .i64 (tsS s i) md.1 := by
    unfold endV
    rw [end_eq (p := p) (s := s) () hi (by rw [k1]) (by rw [k2, em]) g3]
  have hpj := proj_of_form hf
  obtain ⟨d1, d2, -⟩ := mode_atM hpj hi _ (List.getElem_mem hml)
  rw [← hmd] at d1 d2
  rw [addZ64 (by omega) (by omega)] at he
  have hd : durM p b i ≤ md.1 := by
    unfold durM
    rw [List.getElem?_eq_getElem hi, hmd]
    exact lstV_le (fun m => m.1) hml c3
  refine ⟨c1, c2, t0, t6, by omega, by omega, fun j hj => ?_, k1⟩
  have hu : useOf p s (j : Int) (i : Int) = atV false (j : Int) md := by
    unfold useOf
    rw [mode_eq (p := p) (s := s) () hi (by rw [k2, em]) g3]
    unfold atV
    simp only [Bool.false_eq_true, if_false]
  rw [hu, hmd]
  unfold needM
  rw [List.getElem?_eq_getElem hi]
  exact lstV_le (atV false (j : Int)) hml c3
theorem pair_fail {p : D_Project} {s : D_Schedule} (hp : Sm_Project 1099511627776 p) (h : formB p s = true) {j b c : Nat} (hj : j < p.2.2.2.1.length) (hpos : 0 < p.2.2.2.1[j].2.1.length) (hb : b < p.2.1.length) (hc : c < p.2.1.length) :
    failB p s (pairR j b c) = (if eqZ (useOf p s (j : Int) (b : Int)) 0 = true then false else if eqZ (useOf p s (j : Int) (c : Int)) 0 = true then false else if leZ (addZ .i64 (endV p s (b : Int)) (setM p j b c)) (tsS s c) = true then false else notB (leZ (addZ .i64 (endV p s (c : Int)) (setM p j c b)) (tsS s b))) := by
  have h0 := proj_of_form h
  have hs := sch_of_form h
  have z1 : eqZ 5 1 = false := rfl
  have z2 : eqZ 5 2 = false := rfl
  have z3 : eqZ 5 3 = false := rfl
  have z4 : eqZ 5 4 = false := rfl
  have z5 : eqZ 5 5 = true := rfl
  obtain ⟨x, e, md, -, -, gm, -, -, -, -, -, gr, gu⟩ := run_at hp h hb
  obtain ⟨x', e', md', -, -, gm', -, -, -, -, -, gr', gu'⟩ := run_at hp h hc
  have ge := (endV_at hp h hb).1
  have ge' := (endV_at hp h hc).1
  obtain ⟨g1, -⟩ := hs.get hb
  obtain ⟨g1', -⟩ := hs.get hc
  have e1 : ∀ {a d : Nat} {row : List Int} {n : Int} (ha : a < p.2.1.length) (hd : d < p.2.1.length), getI p.2.2.2.1[j].2.1 p.2.1[a].2.1 = some row → getI row p.2.1[d].2.1 = some n → setM p j a d = n := fun {a d row n} ha hd r1 r2 => by
    unfold setM
    rw [List.getElem?_eq_getElem hj, List.getElem?_eq_getElem ha, List.getElem?_eq_getElem hd]
    simp only [r1, r2, Option.bind_some, Option.getD_some]
  obtain ⟨row, n, s1, s2, -⟩ := setup_at h0 hj hpos hb hc
  obtain ⟨row', n', s1', s2', -⟩ := setup_at h0 hj hpos hc hb
  rw [e1 hb hc s1 s2, e1 hc hb s1' s2']
  have A1 := fun u => Ahead_spec_at (p := p) (s := s) u hj hb hc s1 s2 ge g1'
  have A2 := fun u => Ahead_spec_at (p := p) (s := s) u hj hc hb s1' s2' ge' g1
  have key : ∀ u, spec_l10Fails (p, s, pairR j b c, u) () = some ((if eqZ (useOf p s (j : Int) (b : Int)) 0 = true then false else if eqZ (useOf p s (j : Int) (c : Int)) 0 = true then false else if leZ (addZ .i64 (endV p s (b : Int)) n) (tsS s c) = true then false else notB (leZ (addZ .i64 (endV p s (c : Int)) n') (tsS s b))), ()) := fun u => by
    unfold spec_l10Fails spec_l10Pair pairR
    simp only [z1, z2, z3, z4, z5, if_true, Bool.false_eq_true, if_false, some_bind', gm, gm', gu j hj, gu' j hj]
    rcases tf (eqZ (useOf p s (j : Int) (b : Int)) 0) with h1 | h1 <;> rcases tf (eqZ (useOf p s (j : Int) (c : Int)) 0) with h2 | h2 <;> rcases tf (leZ (addZ .i64 (endV p s (b : Int)) n) (tsS s c)) with h3 | h3 <;> simp [notB, h1, h2, h3, gm', gu' j hj, A1, A2]
  unfold failB
  rw [key]
theorem pair_sep {p : D_Project} {b : D_Domain} {s : D_Schedule} (h : UseD p b) (ho : okV p s = true) (hc : conB b s = true) {j c d : Nat} (hj : j < p.2.2.2.1.length) (hpos : 0 < p.2.2.2.1[j].2.1.length) (hlt : c < d) (hd : d < p.2.1.length) (n1 : 0 < needM p b j c) (n2 : 0 < needM p b j d) :
    endV p s (c : Int) + setM p j c d ≤ tsS s d ∨ endV p s (d : Int) + setM p j d c ≤ tsS s c := by
  have hf := form_of_ok ho
  have hpj := proj_of_form hf
  have hcl : c < p.2.1.length := by omega
  have hI := in_dom h hf hc hcl
  have hI' := in_dom h hf hc hd
  have u1 := hI.u j hj
  have u2 := hI'.u j hj
  have hF := ok_rule ho ((rules_mem h.hp hpj).2.1 j c d hj hpos hlt hd)
  rw [pair_fail h.hp hf hj hpos hcl hd] at hF
  obtain ⟨-, s1, s2⟩ := SetupTime_M h.hp hpj hj hpos hcl hd
  obtain ⟨-, s1', s2'⟩ := SetupTime_M h.hp hpj hj hpos hd hcl
  have f1 : eqZ (useOf p s (j : Int) (c : Int)) 0 = false := eqZ_ne (by omega)
  have f2 : eqZ (useOf p s (j : Int) (d : Int)) 0 = false := eqZ_ne (by omega)
  have a1 := hI.e
  have a2 := hI'.e
  have b1 := hI.e1
  have b2 := hI'.e1
  have t1 := hI.t0
  have t2 := hI'.t0
  have m1 := (durM_in hpj b hcl).1
  have m2 := (durM_in hpj b hd).1
  rw [f1, f2, addZ64 (x := endV p s (c : Int)) (by omega) (by omega), addZ64 (x := endV p s (d : Int)) (by omega) (by omega)] at hF
  simp only [Bool.false_eq_true, if_false] at hF
  by_cases q : leZ (endV p s (c : Int) + setM p j c d) (tsS s d) = true
  · rw [leZ_iff] at q; exact .inl q
  · rw [if_neg q, notB_not, Bool.not_eq_false', leZ_iff] at hF
    exact .inr hF
/-- for two different activities -/
theorem pair_sep' {p : D_Project} {b : D_Domain} {s : D_Schedule} (h : UseD p b) (ho : okV p s = true) (hc : conB b s = true) {j c d : Nat} (hj : j < p.2.2.2.1.length) (hpos : 0 < p.2.2.2.1[j].2.1.length) (hcl : c < p.2.1.length) (hd : d < p.2.1.length) (hne : c ≠ d) (n1 : 0 < needM p b j c) (n2 : 0 < needM p b j d) :
    endV p s (c : Int) + setM p j c d ≤ tsS s d ∨ endV p s (d : Int) + setM p j d c ≤ tsS s c := by
  by_cases hlt : c < d
  · exact pair_sep h ho hc hj hpos hlt hd n1 n2
  · exact (pair_sep h ho hc hj hpos (show d < c by omega) hcl n2 n1).symm
theorem both_iff {p : D_Project} {b : D_Domain} {j c d : Nat} : bothM p b j c d = true ↔ c ≠ d ∧ 0 < needM p b j c ∧ 0 < needM p b j d := by
  unfold bothM
  rw [Bool.and_eq_true, Bool.and_eq_true, ltZ_iff, ltZ_iff, notB_not, Bool.not_eq_true', Bool.eq_false_iff, Ne, eqZ_iff]
  constructor
  · rintro ⟨h1, h2, h3⟩; exact ⟨fun e => h1 (by rw [e]), h2, h3⟩
  · rintro ⟨h1, h2, h3⟩; exact ⟨fun e => h1 (Int.ofNat.inj e), h2, h3⟩
theorem can_iff {p : D_Project} {b : D_Domain} {j c d : Nat} : canM p b j c d = true ↔ c ≠ d ∧ aftM p b j c d ≤ mxB b d := by
  unfold canM
  rw [Bool.and_eq_true, leZ_iff, notB_not, Bool.not_eq_true', Bool.eq_false_iff, Ne, eqZ_iff]
  constructor
  · rintro ⟨h1, h2⟩; exact ⟨fun e => h1 (by rw [e]), h2⟩
  · rintro ⟨h1, h2⟩; exact ⟨fun e => h1 (Int.ofNat.inj e), h2⟩
theorem after_le {p : D_Project} {b : D_Domain} {s : D_Schedule} {j c d : Nat} (hI : InD p b s c) (h : endV p s (c : Int) + setM p j c d ≤ tsS s d) : aftM p b j c d ≤ tsS s d := by
  have := hI.mn
  have := hI.e
  unfold aftM
  omega
theorem no_conflict {p : D_Project} {b : D_Domain} {s : D_Schedule} (h : UseD p b) (ho : okV p s = true) (hc : conB b s = true) {j c d : Nat} (hj : j < p.2.2.2.1.length) (hpos : 0 < p.2.2.2.1[j].2.1.length) (hcl : c < p.2.1.length) (hd : d < p.2.1.length) :
    (bothM p b j c d && (notB (canM p b j c d) && notB (canM p b j d c))) = false := by
  rw [Bool.eq_false_iff]
  intro hq
  rw [Bool.and_eq_true, Bool.and_eq_true, both_iff, notB_iff, notB_iff, can_iff, can_iff] at hq
  obtain ⟨⟨q1, q2, q3⟩, q4, q5⟩ := hq
  have hf := form_of_ok ho
  have hI := in_dom h hf hc hcl
  have hI' := in_dom h hf hc hd
  rcases pair_sep' h ho hc hj hpos hcl hd q1 q2 q3 with e | e
  · exact q4 ⟨q1, Int.le_trans (after_le hI e) hI'.mx⟩
  · exact q5 ⟨fun e => q1 e.symm, Int.le_trans (after_le hI' e) hI.mx⟩
theorem must_ahead {p : D_Project} {b : D_Domain} {s : D_Schedule} (h : UseD p b) (ho : okV p s = true) (hc : conB b s = true) {j c d : Nat} (hj : j < p.2.2.2.1.length) (hpos : 0 < p.2.2.2.1[j].2.1.length) (hcl : c < p.2.1.length) (hd : d < p.2.1.length) (hm : mustM p b j c d = true) :
    aftM p b j c d ≤ tsS s d ∧ endV p s (c : Int) ≤ tsS s d ∧ canM p b j c d = true := by
  unfold mustM at hm
  rw [Bool.and_eq_true, Bool.and_eq_true, both_iff, notB_iff] at hm
  obtain ⟨⟨q1, q2, q3⟩, q4, q5⟩ := hm
  rw [can_iff] at q5
  have hf := form_of_ok ho
  have hI := in_dom h hf hc hcl
  have hI' := in_dom h hf hc hd
  obtain ⟨-, s1, -⟩ := SetupTime_M h.hp (proj_of_form hf) hj hpos hcl hd
  rcases pair_sep' h ho hc hj hpos hcl hd q1 q2 q3 with e | e
  · exact ⟨after_le hI e, by omega, q4⟩
  · exact absurd ⟨fun e => q1 e.symm, Int.le_trans (after_le hI' e) hI.mx⟩ q5
theorem foldl_max_ge (f : Int → Int) : ∀ (l : List Int) (m : Int), m ≤ l.foldl (fun m a => maxI m (f a)) m ∧ ∀ x ∈ l, f x ≤ l.foldl (fun m a => maxI m (f a)) m
  | [], m => ⟨Int.le_refl _, fun x hx => absurd hx (by simp)⟩
  | a :: l, m => by
    rw [List.foldl_cons]
    obtain ⟨h1, h2⟩ := foldl_max_ge f l (maxI m (f a))
    have h3 : m ≤ maxI m (f a) ∧ f a ≤ maxI m (f a) := by unfold maxI; split <;> omega
    refine ⟨by omega, fun x hx => ?_⟩
    rcases List.mem_cons.1 hx with rfl | hx
    · omega
    · exact h2 x hx
theorem span_ge (p : D_Project) (s : D_Schedule) {i : Nat} (hi : i < p.2.1.length) : endV p s (i : Int) ≤ spanV p s := (foldl_max_ge (endV p s) (iotaI p.2.1.length) 0).2 _ (List.mem_map.2 ⟨i, List.mem_range.2 hi, rfl⟩)
theorem span_nonneg (p : D_Project) (s : D_Schedule) : 0 ≤ spanV p s := (foldl_max_ge (endV p s) (iotaI p.2.1.length) 0).1
open Go.Abs
set_option linter.unusedVariables false
set_option linter.unusedSimpArgs false

theorem chain2 {p : D_Project} {b : D_Domain} (h : UseD p b) (j : Nat) (h2 : p.2.1.length ≤ 2) :
    chainM p b j = [] ∨ (∃ x : Nat, x < p.2.1.length ∧ chainM p b j = [(x : Int)]) ∨ ∃ x y : Nat, x < p.2.1.length ∧ y < p.2.1.length ∧ x ≠ y ∧ chainM p b j = [(x : Int), (y : Int)] ∧ mnB b x ≤ mnB b y ∧ 0 < needM p b j x ∧ 0 < needM p b j y := by
  have hn := proj_actsP (proj_of_dom h.dom)
  have s1 : ∀ x : Int, srtK (keyB b.1) [x] = [x] := fun x => rfl
  have hkey : ∀ {x y : Nat}, x < p.2.1.length → y < p.2.1.length → keyB b.1 (x : Int) (y : Int) = ltZ (mnB b x) (mnB b y) := fun {x y} hx hy => by
    unfold keyB
    simp only [(h.l.get hx).1, (h.l.get hy).1]
  have s2 : ∀ x y : Int, srtK (keyB b.1) [x, y] = if keyB b.1 y x = true then [y, x] else [x, y] := fun x y => by
    unfold srtK
    simp only [List.foldl_cons, List.foldl_nil]
    unfold insK
    rcases tf (keyB b.1 y x) with q | q <;> simp [q, List.dropWhile, List.takeWhile]
  have hq : ∀ i : Nat, ltZ 0 (needM p b j ((i : Nat) : Int).toNat) = true ↔ 0 < needM p b j i := fun i => by rw [ltZ_iff, Int.toNat_natCast]
  unfold chainM
  rcases (show p.2.1.length = 1 ∨ p.2.1.length = 2 by omega) with e | e
  · rw [e]
    have i1 : iotaI 1 = [((0 : Nat) : Int)] := rfl
    rw [i1]
    rcases tf (ltZ 0 (needM p b j ((0 : Nat) : Int).toNat)) with q0 | q0
    · refine .inl ?_
      simp only [List.filter_cons, q0, Bool.false_eq_true, if_false, List.filter_nil]
      rfl
    · refine .inr (.inl ⟨0, by omega, ?_⟩)
      simp only [List.filter_cons, q0, if_true, List.filter_nil, s1]
  · rw [e]
    have i2 : iotaI 2 = [((0 : Nat) : Int), ((1 : Nat) : Int)] := rfl
    rw [i2]
    rcases tf (ltZ 0 (needM p b j ((0 : Nat) : Int).toNat)) with q0 | q0 <;> rcases tf (ltZ 0 (needM p b j ((1 : Nat) : Int).toNat)) with q1 | q1
    · refine .inl ?_
      simp only [List.filter_cons, q0, q1, Bool.false_eq_true, if_false, List.filter_nil]
      rfl
    · refine .inr (.inl ⟨1, by omega, ?_⟩)
      simp only [List.filter_cons, q0, q1, Bool.false_eq_true, if_false, if_true, List.filter_nil, s1]
    · refine .inr (.inl ⟨0, by omega, ?_⟩)
      simp only [List.filter_cons, q0, q1, Bool.false_eq_true, if_false, if_true, List.filter_nil, s1]
    · have n0 := (hq 0).1 q0
      have n1 := (hq 1).1 q1
      simp only [List.filter_cons, q0, q1, if_true, List.filter_nil, s2]
      rw [hkey (show 1 < p.2.1.length by omega) (show 0 < p.2.1.length by omega)]
      rcases tf (ltZ (mnB b 1) (mnB b 0)) with q | q
      · refine .inr (.inr ⟨0, 1, by omega, by omega, by omega, by rw [q]; rfl, ?_, n0, n1⟩)
        rw [Bool.eq_false_iff, Ne, ltZ_iff] at q
        omega
      · refine .inr (.inr ⟨1, 0, by omega, by omega, by omega, by rw [q]; rfl, ?_, n1, n0⟩)
        rw [ltZ_iff] at q
        omega
theorem chain_len {p : D_Project} {b : D_Domain} (j : Nat) : (chainM p b j).length ≤ p.2.1.length := by
  unfold chainM
  rw [srtK_length]
  have := List.length_filter_le (fun a => ltZ 0 (needM p b j a.toNat)) (iotaI p.2.1.length)
  rw [iotaI_length] at this
  exact this
theorem chain_two {p : D_Project} {b : D_Domain} (j : Nat) (h2 : p.2.1.length = 2) : eqZ (lenI (chainM p b j)) 2 = bothM p b j 0 1 := by
  have i2 : iotaI 2 = [((0 : Nat) : Int), ((1 : Nat) : Int)] := rfl
  have e : eqZ ((0 : Nat) : Int) ((1 : Nat) : Int) = false := rfl
  unfold chainM bothM
  rw [lenI_eq, srtK_length, h2, i2, e]
  have t0 : ((0 : Nat) : Int).toNat = 0 := rfl
  have t1 : ((1 : Nat) : Int).toNat = 1 := rfl
  rcases tf (ltZ 0 (needM p b j 0)) with q0 | q0 <;> rcases tf (ltZ 0 (needM p b j 1)) with q1 | q1 <;> simp only [List.filter_cons, t0, t1, q0, q1, Bool.false_eq_true, if_false, if_true, List.filter_nil] <;> rfl
def setF (p : D_Project) (j : Nat) (a : Int) (s : Bool × Int) (o : Int) : Bool × Int := if (notB (eqZ o a) && (notB s.1 || ltZ (setM p j o.toNat a.toNat) s.2)) = true then (true, setM p j o.toNat a.toNat) else s
def setW (p : D_Project) (j : Nat) (c : List Int) (a : Int) : Int := (c.foldl (setF p j a) (false, 0)).2
def sumF (p : D_Project) (b : D_Domain) (j : Nat) (c : List Int) (s : Int × Int) (a : Int) : Int × Int := (addZ .i64 s.1 (addZ .i64 (durM p b a.toNat) (setW p j c a)), maxI s.2 (setW p j c a))
def boundV (p : D_Project) (b : D_Domain) (j : Nat) : Int := match chainM p b j with
  | [] => 0
  | x :: c => subZ .i64 (((x :: c).foldl (sumF p b j (x :: c)) (mnB b x.toNat, 0)).1) (((x :: c).foldl (sumF p b j (x :: c)) (mnB b x.toNat, 0)).2)
theorem MachineBound_M {p : D_Project} {b : D_Domain} (h : UseD p b) {j : Nat} (hj : j < p.2.2.2.1.length) (h0 : 0 < p.2.2.2.1[j].2.1.length) (u : Unit) :
    impl_MachineBound (p, b, (j : Int), u) () = some (boundV p b j, ()) := by
  have hpj := proj_of_dom h.dom
  have hcl := chain_len (p := p) (b := b) j
  have hle := h.hp.2.1.1
  have hm : ∀ x ∈ chainM p b j, ∃ i : Nat, x = (i : Int) ∧ i < p.2.1.length := fun x hx => by
    obtain ⟨i, e, hi, -⟩ := chain_mem hx
    exact ⟨i, e, hi⟩
  unfold impl_MachineBound boundV
  simp only [MachineChain_M h hj h0, some_bind']
  generalize chainM p b j = c at hcl hm
  cases c with
  | nil =>
    have e : eqZ (lenI ([] : List Int)) 0 = true := rfl
    simp only [e, if_true]
  | cons x c =>
    have e : eqZ (lenI (x :: c)) 0 = false := eqZ_ne (by rw [lenI_eq]; simp; omega)
    obtain ⟨i, hx, hi⟩ := hm x (by simp)
    have g0 : getI (x :: c) 0 = some x := rfl
    have g1 := (h.l.get hi).1
    rw [← hx] at g1
    have ex : x.toNat = i := by rw [hx, Int.toNat_natCast]
    generalize hC : x :: c = C at *
    have inner := fun (A : Type) (a : Int) (ha : ∃ i : Nat, a = (i : Int) ∧ i < p.2.1.length) (sum most ii : Int) => (fold_list (A := A) (F := impl_MachineBound_L0) (fun k (s : Bool × Int) => ((k : Int), (C.length : Int), [], s.1, sum, a, most, s.2, ii, (C.length : Int), [], C, (j : Int), p, b, ())) C (fun _ _ => True) (setF p j a)
      (fun s => Sum.inl (false, (C.length : Int), (C.length : Int), [], s.1, sum, a, most, s.2, ii, (C.length : Int), [], C, (j : Int), p, b, ())) (by omega)
      (fun k s hk _ => by
        obtain ⟨o, ho, hol⟩ := hm _ (List.getElem_mem hk)
        obtain ⟨i', ha', hi'⟩ := ha
        have hs := (SetupTime_M h.hp hpj hj h0 hol hi').1
        refine ⟨?_, trivial⟩
        obtain ⟨f, n⟩ := s
        unfold impl_MachineBound_L0 setF
        simp only [lt_yes hk, if_true, getI_lt hk, List.nil_append, List.headD_cons, some_bind']
        rw [ho, ha']
        simp only [hs, some_bind', Int.toNat_natCast]
        rcases tf (notB (eqZ (o : Int) (i' : Int))) with q | q <;> rcases tf f with rfl | rfl <;> rcases tf (ltZ (setM p j o i') n) with q2 | q2 <;> simp [-Int.natCast_add, q, q2, notB_true, notB_false, idxN hk (Nat.le_refl _) (show C.length ≤ 1099511627776 by omega)])
      (fun s _ => by
        unfold impl_MachineBound_L0
        simp only [lt_no, Bool.false_eq_true, if_false])
      (a := (false, 0)) (s := ((0 : Int), (C.length : Int), [], false, sum, a, most, 0, ii, (C.length : Int), [], C, (j : Int), p, b, ())) rfl trivial).1
    have outer := fun A : Type => (fold_list (A := A) (F := impl_MachineBound_L1) (fun k (s : Int × Int) => ((k : Int), (C.length : Int), [], C, (j : Int), p, b, s.1, s.2, ())) C (fun _ _ => True) (sumF p b j C)
      (fun s => Sum.inl (false, (C.length : Int), (C.length : Int), [], C, (j : Int), p, b, s.1, s.2, ())) (by omega)
      (fun k s hk _ => by
        have hk2 := hm _ (List.getElem_mem hk)
        have hin := fun A sum most ii => inner A C[k] hk2 sum most ii
        obtain ⟨o, ho, hol⟩ := hk2
        have hd := h.dur hol
        rw [← ho] at hd
        refine ⟨?_, trivial⟩
        unfold impl_MachineBound_L1 sumF setW
        simp only [lt_yes hk, if_true, getI_lt hk, List.nil_append, List.headD_cons, some_bind', lenI_eq, hin, hd]
        simp only [ho, Int.toNat_natCast, idxN hk (Nat.le_refl _) (show C.length ≤ 1099511627776 by omega)])
      (fun s _ => by
        unfold impl_MachineBound_L1
        simp only [lt_no, Bool.false_eq_true, if_false])
      (a := (mnB b x.toNat, 0)) (s := ((0 : Int), (C.length : Int), [], C, (j : Int), p, b, mnB b x.toNat, 0, ())) rfl trivial).1
    rw [← ex] at g1
    rw [lenI_eq] at e
    simp only [e, Bool.false_eq_true, if_false, g0, some_bind', g1, lenI_eq, outer]
    subst hC
    rfl
theorem bound_le {p : D_Project} {b : D_Domain} {s : D_Schedule} (h : UseD p b) (ho : okV p s = true) (hc : conB b s = true) {j : Nat} (hj : j < p.2.2.2.1.length) (hpos : 0 < p.2.2.2.1[j].2.1.length) (h2 : p.2.1.length ≤ 2) : boundV p b j ≤ spanV p s := by
  have hf := form_of_ok ho
  have hpj := proj_of_form hf
  have z := span_nonneg p s
  unfold boundV
  rcases chain2 h j h2 with e | ⟨x, hx, e⟩ | ⟨x, y, hx, hy, hne, e, hle, n1, n2⟩
  · rw [e]; exact z
  · rw [e]
    have hI := in_dom h hf hc hx
    have k1 := span_ge p s hx
    have := hI.mn
    have := hI.e
    obtain ⟨r1, r2, -⟩ := h.rng hx
    obtain ⟨d1, d2⟩ := durM_in hpj b hx
    have e1 : setW p j [(x : Int)] (x : Int) = 0 := by
      unfold setW setF
      simp [eqZ_self, notB]
    simp only [List.foldl_cons, List.foldl_nil, sumF, e1, Int.toNat_natCast]
    rw [addZ64 (x := durM p b x) (by omega) (by omega), addZ64 (by omega) (by omega)]
    have e2 : maxI 0 0 = 0 := rfl
    rw [e2, subZ64 (by omega) (by omega)]
    omega
  · rw [e]
    have hI := in_dom h hf hc hx
    have hI' := in_dom h hf hc hy
    have k1 := span_ge p s hx
    have k2 := span_ge p s hy
    obtain ⟨r1, r2, -⟩ := h.rng hx
    obtain ⟨d1, d2⟩ := durM_in hpj b hx
    obtain ⟨d3, d4⟩ := durM_in hpj b hy
    obtain ⟨-, t1, t2⟩ := SetupTime_M h.hp hpj hj hpos hx hy
    obtain ⟨-, t3, t4⟩ := SetupTime_M h.hp hpj hj hpos hy hx
    have q1 : eqZ (x : Int) (y : Int) = false := eqZ_natne hne
    have q2 : eqZ (y : Int) (x : Int) = false := eqZ_natne fun e => hne e.symm
    have e1 : setW p j [(x : Int), (y : Int)] (x : Int) = setM p j y x := by
      unfold setW setF
      simp [eqZ_self, q1, q2, notB]
    have e2 : setW p j [(x : Int), (y : Int)] (y : Int) = setM p j x y := by
      unfold setW setF
      simp [eqZ_self, q1, q2, notB]
    simp only [List.foldl_cons, List.foldl_nil, sumF, e1, e2, Int.toNat_natCast]
    rw [addZ64 (x := durM p b x) (by omega) (by omega), addZ64 (x := durM p b y) (by omega) (by omega), addZ64 (x := mnB b x) (by omega) (by omega), addZ64 (by omega) (by omega)]
    have m1 : maxI (maxI 0 (setM p j y x)) (setM p j x y) = max (setM p j y x) (setM p j x y) := by
      unfold maxI
      split <;> split <;> omega
    rw [m1, subZ64 (by omega) (by omega)]
    have a1 := hI.mn
    have a2 := hI.e
    have a3 := hI'.e
    rcases pair_sep' h ho hc hj hpos hx hy hne n1 n2 with s1 | s1
    · omega
    · have a4 := hI'.mn
      omega
open Go.Abs
set_option linter.unusedVariables false
set_option linter.unusedSimpArgs false

theorem GenB.put {p : D_Project} {d : D_Domain} (h : GenB p d) {i : Nat} {x y : Int} (hx : 0 ≤ x) (hxy : x ≤ y) (hy : y < p.1) : GenB p (setI d.1 (i : Int) (fun _ => x), (setI d.2.1 (i : Int) (fun _ => y), d.2.2)) := by
  have l1 := h.l.l1
  have l2 := h.l.l2
  have l3 := h.l.l3
  refine ⟨⟨⟨by rw [setI_length]; exact l1, by rw [setI_length]; exact l2, l3⟩, fun j hj => ?_, fun j hj => ?_, h.m⟩, fun j h1 h2 => ?_⟩
  · simp only [setI_nat] at hj ⊢
    rw [List.length_modify] at hj
    rw [List.getElem_modify]
    split
    · omega
    · exact h.v1 j hj
  · simp only [setI_nat] at hj ⊢
    rw [List.length_modify] at hj
    rw [List.getElem_modify]
    split
    · omega
    · exact h.v2 j hj
  · simp only [setI_nat] at h1 h2 ⊢
    rw [List.length_modify] at h1 h2
    rw [List.getElem_modify, List.getElem_modify]
    split
    · exact hxy
    · exact h.le j h1 h2
theorem GenP.mach {p : D_Project} (h : GenP 2 p) {l : List (List Int)} (hl : l.length = 4 ∧ ∀ row ∈ l, row.length = 4 ∧ ∀ n ∈ row, 0 ≤ n ∧ n ≤ 2) : GenP 2 (6, (p.2.1, (p.2.2.1, (setI p.2.2.2.1 0 (fun r => (r.1, (l, r.2.2))), p.2.2.2.2)))) := by
  have e0 : (0 : Int) = ((0 : Nat) : Int) := rfl
  refine ⟨by show 1 ≤ (6 : Int) ∧ (6 : Int) ≤ 23; omega, by rw [show (6, (p.2.1, (p.2.2.1, (setI p.2.2.2.1 0 (fun r => (r.1, (l, r.2.2))), p.2.2.2.2)))).2.2.2.1 = setI p.2.2.2.1 0 (fun r => (r.1, (l, r.2.2))) from rfl, setI_length]; exact h.rl, fun x hx => ?_, h.sl, h.s, h.al, fun i hi => ?_, h.kl, h.k⟩
  · simp only [e0, setI_nat] at hx
    obtain ⟨i, hi, rfl⟩ := List.mem_iff_getElem.1 hx
    rw [List.length_modify] at hi
    have g := h.r _ (List.getElem_mem hi)
    rw [List.getElem_modify]
    split
    · exact ⟨g.steps, g.sl, .inr hl⟩
    · exact g
  · have := h.a i hi
    simp only [setI_length]
    exact this
theorem MakeMachine_eq (b : List Int) (hb : b.length ≤ 1048576) : ∃ p d, GenP 2 p ∧ GenB p d ∧ p.1 = 6 ∧ (∃ h : 0 < p.2.2.2.1.length, 0 < p.2.2.2.1[0].2.1.length) ∧ spec_MakeMachine (b, ()) () = some ((p, (d, ())), ()) := by
  unfold spec_MakeMachine
  obtain ⟨c, hc, e⟩ := l01New_eq b hb
  obtain ⟨p0, c', hp0, hc', e2⟩ := l05Draw_eq c hc 2 (by omega) (by omega)
  have e2' : spec_l05Draw (c, (2, ())) () = some (p0, c') := e2
  obtain ⟨l, c2, hl, hc2, e3⟩ := l05Setup_eq c' hc'
  have hp := hp0.mach hl
  have hrl := hp0.rl
  have g0 : getI p0.2.2.2.1 0 = some p0.2.2.2.1[0] := getI_lt (i := 0) (by omega)
  generalize hP : ((6 : Int), (p0.2.1, (p0.2.2.1, (setI p0.2.2.2.1 0 (fun r => (r.1, (l, r.2.2))), p0.2.2.2.2)))) = p at hp
  have hal := hp.al
  have hn : p0.2.1.length = p.2.1.length := by rw [← hP]
  have h6 : p.1 = 6 := by rw [← hP]
  obtain ⟨z, hz⟩ : ∃ z : D_Project, z = (0, ([], ([], ([], ([], ()))))) := ⟨_, rfl⟩
  obtain ⟨y, hy⟩ : ∃ y : D_Domain, y = ([], ([], ([], ()))) := ⟨_, rfl⟩
  obtain ⟨o, ho, hR⟩ := loopN_count (A := (Int × (Int × (D_l01Cur × (D_Project × (D_Domain × (D_Project × (D_Domain × Unit)))))))) (F := spec_MakeMachine_L0) p.2.1.length
    (fun i st => ∃ cc d, st = ((i : Int), ((p.2.1.length : Int), (cc, (p, (d, (z, (y, ()))))))) ∧ CurOk cc ∧ GenB p d)
    (fun o => ∃ cc d, o = .exit (.inl (false, ((p.2.1.length : Int), ((p.2.1.length : Int), (cc, (p, (d, (z, (y, ()))))))))) ∧ GenB p d)
    (fun i st hi hI => by
      obtain ⟨cc, d, rfl, hcc, hd⟩ := hI
      by_cases hlt : i < p.2.1.length
      · obtain ⟨k0, hk0, c3, hc3, e4⟩ := l01Below_eq cc hcc 3 (by omega) (by omega)
        obtain ⟨k1, hk1, c4, hc4, e5⟩ := l01Below_eq c3 hc3 4 (by omega) (by omega)
        have e4' : spec_l01Below (cc, (3, ())) () = some ((k0 : Int), c3) := e4
        have e5' : spec_l01Below (c3, (4, ())) () = some ((k1 : Int), c4) := e5
        have l1 := hd.l.l1
        have l2 := hd.l.l2
        have g1 : getI d.1 (i : Int) = some d.1[i] := getI_lt (by omega)
        have g2 : getI d.2.1 (i : Int) = some d.2.1[i] := getI_lt (by omega)
        have g3 : getI (setI d.1 (i : Int) (fun _ => (k0 : Int))) (i : Int) = some (k0 : Int) := getI_setI_eq g1
        have ea : addZ .i64 (k0 : Int) (k1 : Int) = (k0 : Int) + k1 := addZ64 (by omega) (by omega)
        have hm : (k0 : Int) ≤ minI 5 ((k0 : Int) + k1) ∧ minI 5 ((k0 : Int) + k1) < p.1 := by
          rw [h6]
          unfold minI
          split <;> omega
        refine ⟨.norm (((i + 1 : Nat) : Int), ((p.2.1.length : Int), (c4, (p, ((setI d.1 (i : Int) (fun _ => (k0 : Int)), (setI d.2.1 (i : Int) (fun _ => minI 5 ((k0 : Int) + k1)), d.2.2)), (z, (y, ()))))))), ?_, hlt, c4, _, rfl, hc4, hd.put (by omega) hm.1 hm.2⟩
        unfold spec_MakeMachine_L0
        simp only [lt_yes hlt, if_true, e4', Option.bind_some, g1, g3, e5', ea, l02Min_s, g2, idxN hlt (Nat.le_refl _) (show p.2.1.length ≤ 1099511627776 by omega)]
      · obtain rfl : i = p.2.1.length := by omega
        refine ⟨.exit (.inl (false, ((p.2.1.length : Int), ((p.2.1.length : Int), (cc, (p, (d, (z, (y, ()))))))))), ?_, cc, d, rfl, hd⟩
        unfold spec_MakeMachine_L0
        simp only [lt_no, Bool.false_eq_true, if_false])
    (s := ((0 : Int), ((p.2.1.length : Int), (c2, (p, (initD p, (z, (y, ()))))))) ) ⟨c2, initD p, rfl, hc2, GenB0.init (hp.mono (by omega))⟩ (by rw [big_eq]; omega)
  obtain ⟨cc, d, rfl, hd⟩ := hR
  refine ⟨p, d, hp, hd, h6, ⟨by have := hp.rl; omega, ?_⟩, ?_⟩
  · subst hP
    simp only [show (0 : Int) = ((0 : Nat) : Int) from rfl, setI_nat, List.getElem_modify, if_true]
    omega
  · have eI := InitialDomain_G (hp.mono (show 2 ≤ 6 by omega))
    rw [hz, hy] at ho
    simp only [e, Option.bind_some, e2', e3, g0, hP, eI, lenI_eq, hn, ho]
end Go.Proofs.YtjhpeeapijjgjaaGreat
