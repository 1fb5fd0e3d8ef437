/-
  Plain laws: numbers in a row, lists that hold a number, sets, domains (several small texts in one). Condition: no list is longer than 2 to the 40.
-/
import Derived.Test.YtjhpeeapijjgjaaGreatn4LGenA
import Derived.Test.YtjhpeeapijjgjaaGreatn4LDomM
namespace Go.Proofs.YtjhpeeapijjgjaaGreat
open Go.Abs
set_option linter.unusedVariables false
set_option linter.unusedSimpArgs false

/-- a literal over a project -/
structure GenL (p : D_Project) (l : D_Literal) (i v : Nat) : Prop where
 ha : l.2.1 = (i : Int)
 hi : i < p.2.1.length
 hv : l.2.2.1 = (v : Int)
 hk : ((l.1 = 1 ∨ l.1 = 2) ∧ v ≤ 23) ∨ ((l.1 = 3 ∨ l.1 = 4) ∧ ∃ h : i < p.2.1.length, v < p.2.1[i].2.2.1.length)
theorem l11Draw_eq (c : D_l01Cur) (hc : CurOk c) (p : D_Project) (hP : GenP 6 p) : ∃ l i v c', GenL p l i v ∧ CurOk c' ∧ spec_l11Draw (c, (p, ())) () = some (l, c') := by
 have hal := hP.al
 obtain ⟨a, ha, c1, hc1, e1⟩ := l01Below_eq c hc p.2.1.length (by omega) (by omega)
 obtain ⟨q, c2, hc2, e2⟩ := l01Once_eq c1 hc1 4 (by omega) (by omega)
 have e2' : spec_l01Once (c1, (4, ())) () = some (q, c2) := e2
 obtain ⟨k, hk, c3, hc3, e3⟩ := l01Below_eq c2 hc2 2 (by omega) (by omega)
 have e3' : spec_l01Below (c2, (2, ())) () = some ((k : Int), c3) := e3
 have hml := (hP.a a ha).ml
 unfold spec_l11Draw
 simp only [lenI_eq, e1, Option.bind_some, e2', e3']
 cases q with
 | true =>
  obtain ⟨v, hv, c4, hc4, e4⟩ := l01Below_eq c3 hc3 p.2.1[a].2.2.1.length (by omega) (by omega)
  have hs : addZ .i64 3 (k : Int) = 3 + (k : Int) := addZ64 (by omega) (by omega)
  simp only [if_true, getI_lt ha, Option.bind_some, e4, hs]
  exact ⟨_, a, v, c4, ⟨rfl, ha, rfl, .inr ⟨by simp only; omega, ha, hv⟩⟩, hc4, rfl⟩
 | false =>
  obtain ⟨v, hv, c4, hc4, e4⟩ := l01Below_eq c3 hc3 10 (by omega) (by omega)
  have e4' : spec_l01Below (c3, (10, ())) () = some ((v : Int), c4) := e4
  have hs : addZ .i64 1 (k : Int) = 1 + (k : Int) := addZ64 (by omega) (by omega)
  simp only [Bool.false_eq_true, if_false, Option.bind_some, e4', hs]
  exact ⟨_, a, v, c4, ⟨rfl, ha, rfl, .inl ⟨by simp only; omega, by omega⟩⟩, hc4, rfl⟩
theorem MakeLit_eq (b : List Int) (hb : b.length ≤ 1048576) (p : D_Project) (hP : GenP 6 p) (t : Int) : ∃ l i v, GenL p l i v ∧ spec_MakeLit (b, (p, (t, ()))) () = some (l, ()) := by
 unfold spec_MakeLit
 obtain ⟨c, hc, e⟩ := l01New_eq b hb
 obtain ⟨l, i, v, c', hg, hc', e2⟩ := l11Draw_eq (c.1, (c.2.1, ((addZ .i64 c.2.2.1 t), c.2.2.2))) hc p hP
 simp only [e, Option.bind_some, e2]
 exact ⟨l, i, v, hg, rfl⟩

structure BoxL (n : Nat) (b : D_Domain) : Prop where
 l1 : b.1.length = n
 l2 : b.2.1.length = n
 l3 : b.2.2.1.length = n
/-- a domain that is drawn, but for its being not empty -/
structure GenB0 (p : D_Project) (b : D_Domain) : Prop where
 l : BoxL p.2.1.length b
 v1 : ∀ i (h1 : i < b.1.length), 0 ≤ b.1[i] ∧ b.1[i] < p.1
 v2 : ∀ i (h2 : i < b.2.1.length), 0 ≤ b.2.1[i] ∧ b.2.1[i] < p.1
 m : ∀ i (h3 : i < b.2.2.1.length) (h : i < p.2.1.length), b.2.2.1[i] = iotaI p.2.1[i].2.2.1.length
structure GenB (p : D_Project) (b : D_Domain) : Prop extends GenB0 p b where
 le : ∀ i (h1 : i < b.1.length) (h2 : i < b.2.1.length), b.1[i] ≤ b.2.1[i]
theorem BoxL.has {n : Nat} {b : D_Domain} (h : BoxL n b) {i : Nat} (hi : i < n) : hasV b (i : Int) = true := by
 have hl := h.l1
 have hl2 := h.l2
 have hl3 := h.l3
 unfold hasV placeB
 simp only [lenI_eq, Bool.and_eq_true, leZ_iff, ltZ_iff]
 omega
theorem clamp_id {v : Nat} (h : v ≤ 62) : clampV (v : Int) = (v : Int) := by
 unfold clampV minI maxI
 split <;> split <;> omega
theorem GenB0.sm {p : D_Project} {b : D_Domain} (hP : GenP 6 p) (h : GenB0 p b) {B : Nat} (hB : 8 ≤ B) : Sm_Domain B b := by
 have hal := hP.al
 have l1 := h.l.l1
 have l2 := h.l.l2
 have l3 := h.l.l3
 refine ⟨⟨by omega, fun _ _ => trivial⟩, ⟨by omega, fun _ _ => trivial⟩, ⟨by omega, fun y hy => ?_⟩, trivial⟩
 obtain ⟨i, hi, rfl⟩ := List.mem_iff_getElem.1 hy
 have := (hP.a i (by omega)).ml
 rw [h.m i hi (by omega), iotaI_length]
 exact ⟨by omega, fun _ _ => trivial⟩
theorem GenB0.nodup {p : D_Project} {b : D_Domain} (h : GenB0 p b) : ∀ m ∈ b.2.2.1, m.Nodup := fun m hm => by
 obtain ⟨i, hi, rfl⟩ := List.mem_iff_getElem.1 hm
 rw [h.m i hi (by rw [← h.l.l3]; exact hi)]
 unfold iotaI
 rw [List.Nodup, List.pairwise_map]
 exact List.nodup_range.imp fun hne he => hne (Int.ofNat.inj he)
theorem GenB0.rest {p : D_Project} {b : D_Domain} (hP : GenP 6 p) (h : GenB0 p b) {k : Int} (hk : k = 1 ∨ k = 2) {i v : Nat} (hi : i < p.2.1.length) (hv : (v : Int) < p.1) : GenB0 p (restV b (k, ((i : Int), ((v : Int), ())))) := by
 have hdl := hP.dl
 have l1 := h.l.l1
 have l2 := h.l.l2
 have l3 := h.l.l3
 unfold restV
 simp only [h.l.has hi, if_true, clamp_id (show v ≤ 62 by omega)]
 rcases hk with rfl | rfl
 ·have e1 : eqZ 1 1 = true := rfl
  simp only [e1, if_true, setI_nat]
  refine ⟨⟨by simpa using l1, l2, l3⟩, fun j hj => ?_, h.v2, h.m⟩
  simp only [List.length_modify] at hj
  have := h.v1 j hj
  simp only [List.getElem_modify]
  split
  ·unfold maxI; split <;> omega
  ·exact this
 ·have e1 : eqZ 2 1 = false := rfl
  have e2 : eqZ 2 2 = true := rfl
  simp only [e1, e2, Bool.false_eq_true, if_false, if_true, setI_nat]
  refine ⟨⟨l1, by simpa using l2, l3⟩, h.v1, fun j hj => ?_, h.m⟩
  simp only [List.length_modify] at hj
  have := h.v2 j hj
  simp only [List.getElem_modify]
  split
  ·unfold minI; split <;> omega
  ·exact this
theorem not_empty {b : D_Domain} (h : emptyB b = false) : (∀ i (h1 : i < b.1.length) (h2 : i < b.2.1.length), b.1[i] ≤ b.2.1[i]) ∧ ∀ m ∈ b.2.2.1, m ≠ [] := by
 unfold emptyB at h
 split at h
 ·rename_i h0
  rw [List.all_eq_true] at h0
  refine ⟨fun i h1 h2 => ?_, fun m hm e => ?_⟩
  ·have := h0 i (by simpa using h1)
   unfold badI at this
   rw [List.getElem?_eq_getElem h1, List.getElem?_eq_getElem h2, notB_not, Bool.not_eq_true', Bool.eq_false_iff, Ne, ltZ_iff] at this
   omega
  ·rw [List.any_eq_false] at h
   exact h m hm (by subst e; rfl)
 ·cases h
theorem empty_not {b : D_Domain} (h1 : ∀ i (h1 : i < b.1.length) (h2 : i < b.2.1.length), b.1[i] ≤ b.2.1[i]) (h2 : ∀ m ∈ b.2.2.1, m ≠ []) : emptyB b = false := by
 unfold emptyB
 have h0 : ((List.range b.1.length).all fun i => notB (badI b i)) = true := by
  rw [List.all_eq_true]
  intro i hi
  have hi : i < b.1.length := by simpa using hi
  unfold badI
  rw [List.getElem?_eq_getElem hi]
  by_cases h : i < b.2.1.length
  ·rw [List.getElem?_eq_getElem h, notB_not, Bool.not_eq_true', Bool.eq_false_iff, Ne, ltZ_iff]
   have := h1 i hi h
   omega
  ·rw [List.getElem?_eq_none (by omega)]
   rfl
 rw [if_pos h0, List.any_eq_false]
 intro m hm
 have := h2 m hm
 cases m with
 | nil => exact absurd rfl this
 | cons x m => rw [lenI_eq, eqZ_iff]; simp; omega
theorem GenB0.init {p : D_Project} (hP : GenP 6 p) : GenB p (initD p) := by
 have hdl := hP.dl
 have hs : subZ .i64 p.1 1 = p.1 - 1 := subZ64 (by omega) (by omega)
 refine ⟨⟨⟨by simp [initD], by simp [initD], by simp [initD]⟩, fun i h1 => ?_, fun i h2 => ?_, fun i h3 h => ?_⟩, fun i h1 h2 => ?_⟩
 ·simp only [initD, List.getElem_map]; omega
 ·simp only [initD, List.getElem_map, hs]; omega
 ·simp only [initD, List.getElem_map]
 ·simp only [initD, List.getElem_map, hs]; omega
theorem InitialDomain_G {p : D_Project} (hP : GenP 6 p) (u : Unit) : spec_InitialDomain (p, u) () = some (initD p, ()) := by
 have hp : Sm_Project 1099511627776 p := hP.sm (by omega) (by omega)
 have hok := hP.ok (Nat.le_refl _)
 unfold spec_InitialDomain
 simp only [ProjectOk_spec _ _ hp, hok, some_bind', notB_true, Bool.false_eq_true, if_false, l12Of_eq _ _ hok]
theorem MakeBox_eq (b : List Int) (hb : b.length ≤ 1048576) (p : D_Project) (hP : GenP 6 p) : ∃ x, GenB p x ∧ spec_MakeBox (b, (p, ())) () = some (x, ()) := by
 have hal := hP.al
 have hdl := hP.dl
 obtain ⟨d, hd⟩ : ∃ d : Nat, p.1 = (d : Int) := ⟨p.1.toNat, by omega⟩
 unfold spec_MakeBox
 obtain ⟨c, hc, e⟩ := l01New_eq b hb
 obtain ⟨k0, hk0, c0, hc0, e0⟩ := l01Below_eq (c.1, (c.2.1, ((addZ .i64 c.2.2.1 17), c.2.2.2))) hc 4 (by omega) (by omega)
 have e0' : spec_l01Below ((c.1, (c.2.1, ((addZ .i64 c.2.2.1 17), c.2.2.2))), (4, ())) () = some ((k0 : Int), c0) := e0
 obtain ⟨z, hz⟩ : ∃ z : D_Domain, z = ([], ([], ([], ()))) := ⟨_, rfl⟩
 obtain ⟨o, ho, hR⟩ := loopN_run (A := (Int × (D_l01Cur × (D_Project × (D_Domain × (D_Domain × Unit)))))) (F := spec_MakeBox_L0)
  (fun t => ∃ (k : Nat) (cc : D_l01Cur) (x : D_Domain), t = ((k : Int), (cc, (p, (x, (z, ()))))) ∧ k ≤ 4 ∧ CurOk cc ∧ GenB p x) (fun t => t.1.toNat)
  (fun o => ∃ (bo : Bool) (k : Int) (cc : D_l01Cur) (x : D_Domain), o = .exit (.inl (bo, (k, (cc, (p, (x, (z, ()))))))) ∧ GenB p x)
  (fun t hI => by
   obtain ⟨k, cc, x, rfl, hk, hcc, hx⟩ := hI
   by_cases h0 : k = 0
   ·subst h0
    have hl : ltZ 0 ((0 : Nat) : Int) = false := rfl
    refine ⟨.exit (.inl (false, (((0 : Nat) : Int), (cc, (p, (x, (z, ()))))))), ?_, _, _, _, _, rfl, hx⟩
    unfold spec_MakeBox_L0
    simp only [hl, Bool.false_eq_true, if_false]
   ·have hl : ltZ 0 (k : Int) = true := by rw [ltZ_iff]; omega
    obtain ⟨k1, hk1, c1, hc1, e1⟩ := l01Below_eq cc hcc 2 (by omega) (by omega)
    have e1' : spec_l01Below (cc, (2, ())) () = some ((k1 : Int), c1) := e1
    obtain ⟨i, hi, c2, hc2, e2⟩ := l01Below_eq c1 hc1 p.2.1.length (by omega) (by omega)
    obtain ⟨v, hv, c3, hc3, e3⟩ := l01Below_eq c2 hc2 d (by omega) (by omega)
    have hadd : addZ .i64 1 (k1 : Int) = 1 + (k1 : Int) := addZ64 (by omega) (by omega)
    have hsub : subZ .i64 (k : Int) 1 = ((k - 1 : Nat) : Int) := by rw [subZ64 (by omega) (by omega)]; omega
    have hr := hx.toGenB0.rest hP (k := 1 + (k1 : Int)) (by omega) hi (v := v) (by omega)
    have er := fun u => Restrict_spec x (1 + (k1 : Int), ((i : Int), ((v : Int), ()))) u (hx.toGenB0.sm hP (by omega)) hx.toGenB0.nodup
    generalize hy : restV x (1 + (k1 : Int), ((i : Int), ((v : Int), ()))) = y at hr er
    have ee := fun u => DomainEmpty_spec y u (hr.sm hP (by omega))
    rcases tf (emptyB y) with hem | hem
    ·refine ⟨.norm (((k - 1 : Nat) : Int), (c3, (p, (y, (z, ()))))), ?_, ⟨k - 1, c3, y, rfl, by omega, hc3, ⟨hr, (not_empty hem).1⟩⟩, by show ((k - 1 : Nat) : Int).toNat < ((k : Nat) : Int).toNat; omega⟩
     unfold spec_MakeBox_L0
     simp only [hl, if_true, e1', Option.bind_some, lenI_eq, e2, hd, e3, hadd, er, ee, hem, notB_false, hsub]
    ·refine ⟨.norm (((k - 1 : Nat) : Int), (c3, (p, (x, (z, ()))))), ?_, ⟨k - 1, c3, x, rfl, by omega, hc3, hx⟩, by show ((k - 1 : Nat) : Int).toNat < ((k : Nat) : Int).toNat; omega⟩
     unfold spec_MakeBox_L0
     simp only [hl, if_true, e1', Option.bind_some, lenI_eq, e2, hd, e3, hadd, er, ee, hem, notB_true, Bool.false_eq_true, if_false, hsub])
  big ((k0 : Int), (c0, (p, (initD p, (z, ()))))) ⟨k0, c0, initD p, rfl, by omega, hc0, GenB0.init hP⟩ (by show ((k0 : Nat) : Int).toNat < big; rw [big_eq]; omega)
 obtain ⟨bo, k, cc, x, rfl, hx⟩ := hR
 rw [hz] at ho
 simp only [e, Option.bind_some, InitialDomain_G hP, e0', ho]
 exact ⟨x, hx, rfl⟩
open Go.Abs
set_option linter.unusedVariables false
set_option linter.unusedSimpArgs false

def mnB (b : D_Domain) (i : Nat) : Int := (b.1[i]?).getD 0
def mxB (b : D_Domain) (i : Nat) : Int := (b.2.1[i]?).getD 0
def moB (b : D_Domain) (i : Nat) : List Int := (b.2.2.1[i]?).getD []
theorem BoxL.at {n : Nat} {b : D_Domain} (h : BoxL n b) {i : Nat} (hi : i < n) : b.1[i]? = some (mnB b i) ∧ b.2.1[i]? = some (mxB b i) ∧ b.2.2.1[i]? = some (moB b i) := by
 have l1 := h.l1
 have l2 := h.l2
 have l3 := h.l3
 unfold mnB mxB moB
 rw [List.getElem?_eq_getElem (show i < b.1.length by omega), List.getElem?_eq_getElem (show i < b.2.1.length by omega), List.getElem?_eq_getElem (show i < b.2.2.1.length by omega)]
 exact ⟨rfl, rfl, rfl⟩
theorem BoxL.get {n : Nat} {b : D_Domain} (h : BoxL n b) {i : Nat} (hi : i < n) : getI b.1 (i : Int) = some (mnB b i) ∧ getI b.2.1 (i : Int) = some (mxB b i) ∧ getI b.2.2.1 (i : Int) = some (moB b i) := by
 rw [getI_nat, getI_nat, getI_nat]
 exact h.at hi
theorem BoxL.mo_mem {n : Nat} {b : D_Domain} (h : BoxL n b) {i : Nat} (hi : i < n) : moB b i ∈ b.2.2.1 := List.mem_of_getElem? (h.at hi).2.2
/-- starts and modes of as many activities -/
structure SchL (n : Nat) (s : D_Schedule) : Prop where
 s1 : s.1.length = n
 s2 : s.2.1.length = n
def tsS (s : D_Schedule) (i : Nat) : Int := (s.1[i]?).getD 0
def ksS (s : D_Schedule) (i : Nat) : Int := (s.2.1[i]?).getD 0
theorem SchL.at {n : Nat} {s : D_Schedule} (h : SchL n s) {i : Nat} (hi : i < n) : s.1[i]? = some (tsS s i) ∧ s.2.1[i]? = some (ksS s i) := by
 have l1 := h.s1
 have l2 := h.s2
 unfold tsS ksS
 rw [List.getElem?_eq_getElem (show i < s.1.length by omega), List.getElem?_eq_getElem (show i < s.2.1.length by omega)]
 exact ⟨rfl, rfl⟩
theorem SchL.get {n : Nat} {s : D_Schedule} (h : SchL n s) {i : Nat} (hi : i < n) : getI s.1 (i : Int) = some (tsS s i) ∧ getI s.2.1 (i : Int) = some (ksS s i) := by
 rw [getI_nat, getI_nat]
 exact h.at hi
theorem con_iff {n : Nat} {b : D_Domain} {s : D_Schedule} (hb : BoxL n b) (hs : SchL n s) : conB b s = true ↔ ∀ i, i < n → mnB b i ≤ tsS s i ∧ tsS s i ≤ mxB b i ∧ hasB (moB b i) (ksS s i) = true := by
 unfold conB
 have e0 : eqZ (lenI s.2.1) (lenI s.1) = true := by rw [lenI_eq, lenI_eq, hs.s1, hs.s2]; exact eqZ_self _
 have e1 : eqZ (lenI b.1) (lenI s.1) = true := by rw [lenI_eq, lenI_eq, hs.s1, hb.l1]; exact eqZ_self _
 have e2 : eqZ (lenI b.2.1) (lenI s.1) = true := by rw [lenI_eq, lenI_eq, hs.s1, hb.l2]; exact eqZ_self _
 have e3 : eqZ (lenI b.2.2.1) (lenI s.1) = true := by rw [lenI_eq, lenI_eq, hs.s1, hb.l3]; exact eqZ_self _
 rw [e0, e1, e2, e3, hs.s1, Bool.and_self, Bool.and_self, Bool.and_self, Bool.true_and, List.all_eq_true]
 refine ⟨fun h i hi => ?_, fun h i hi => ?_⟩
 ·have := h i (by simpa using hi)
  obtain ⟨g1, g2, g3⟩ := hb.at hi
  obtain ⟨g4, g5⟩ := hs.at hi
  unfold conI at this
  rw [g1, g2, g3, g4, g5, Bool.and_eq_true, inB_iff] at this
  exact ⟨this.1.1, this.1.2, this.2⟩
 ·have hi : i < n := by simpa using hi
  obtain ⟨k1, k2, k3⟩ := h i hi
  obtain ⟨g1, g2, g3⟩ := hb.at hi
  obtain ⟨g4, g5⟩ := hs.at hi
  unfold conI
  rw [g1, g2, g3, g4, g5, Bool.and_eq_true, inB_iff]
  exact ⟨⟨k1, k2⟩, k3⟩
theorem hasB_iff {l : List Int} {n : Int} : hasB l n = true ↔ n ∈ l := by
 unfold hasB
 rw [List.any_eq_true]
 constructor
 ·rintro ⟨x, hx, e⟩
  rw [eqZ_iff] at e
  exact e ▸ hx
 ·intro h
  exact ⟨n, h, eqZ_self _⟩
theorem rest_fn {n : Nat} {b : D_Domain} (hb : BoxL n b) (k : Int) {i v : Nat} (hi : i < n) (hv : v ≤ 62) : BoxL n (restV b (k, ((i : Int), ((v : Int), ())))) ∧ ∀ j, j < n →
  mnB (restV b (k, ((i : Int), ((v : Int), ())))) j = (if k = 1 ∧ j = i then maxI (mnB b j) v else mnB b j) ∧
  mxB (restV b (k, ((i : Int), ((v : Int), ())))) j = (if k = 2 ∧ j = i then minI (mxB b j) v else mxB b j) ∧
  moB (restV b (k, ((i : Int), ((v : Int), ())))) j = (if k = 3 ∧ j = i then (moB b j).filter (fun x => eqZ x v) else if k = 4 ∧ j = i then (moB b j).filter (fun x => notB (eqZ x v)) else moB b j) := by
 have l1 := hb.l1
 have l2 := hb.l2
 have l3 := hb.l3
 have md : ∀ {α : Type} (l : List α) (f : α → α) (j : Nat) (d : α), j < l.length → ((l.modify i f)[j]?).getD d = if j = i then f ((l[j]?).getD d) else (l[j]?).getD d := fun l f j d hj => by
  rw [List.getElem?_modify, List.getElem?_eq_getElem hj]
  by_cases e : i = j
  ·subst e; simp
  ·rw [if_neg (Ne.symm e)]; simp [e]
 unfold restV
 simp only [hb.has hi, if_true, clamp_id hv]
 by_cases h1 : k = 1
 ·subst h1
  have e1 : eqZ 1 1 = true := rfl
  simp only [e1, if_true, setI_nat]
  refine ⟨⟨by simpa using l1, l2, l3⟩, fun j hj => ?_⟩
  unfold mnB mxB moB
  simp only
  rw [md _ _ _ _ (by omega)]
  refine ⟨?_, ?_, ?_⟩ <;> simp
 have q1 : eqZ k 1 = false := by rw [Bool.eq_false_iff, Ne, eqZ_iff]; exact h1
 by_cases h2 : k = 2
 ·subst h2
  have e2 : eqZ 2 2 = true := rfl
  simp only [q1, e2, Bool.false_eq_true, if_false, if_true, setI_nat]
  refine ⟨⟨l1, by simpa using l2, l3⟩, fun j hj => ?_⟩
  unfold mnB mxB moB
  simp only
  rw [md _ _ _ _ (by omega)]
  refine ⟨?_, ?_, ?_⟩ <;> simp
 have q2 : eqZ k 2 = false := by rw [Bool.eq_false_iff, Ne, eqZ_iff]; exact h2
 by_cases h3 : k = 3
 ·subst h3
  have e3 : eqZ 3 3 = true := rfl
  simp only [q1, q2, e3, Bool.false_eq_true, if_false, if_true, setI_nat]
  refine ⟨⟨l1, l2, by simpa using l3⟩, fun j hj => ?_⟩
  unfold mnB mxB moB
  simp only
  rw [md _ _ _ _ (by omega)]
  refine ⟨?_, ?_, ?_⟩ <;> simp
 have q3 : eqZ k 3 = false := by rw [Bool.eq_false_iff, Ne, eqZ_iff]; exact h3
 by_cases h4 : k = 4
 ·subst h4
  have e4 : eqZ 4 4 = true := rfl
  simp only [q1, q2, q3, e4, Bool.false_eq_true, if_false, if_true, setI_nat]
  refine ⟨⟨l1, l2, by simpa using l3⟩, fun j hj => ?_⟩
  unfold mnB mxB moB
  simp only
  rw [md _ _ _ _ (by omega)]
  refine ⟨?_, ?_, ?_⟩ <;> simp
 have q4 : eqZ k 4 = false := by rw [Bool.eq_false_iff, Ne, eqZ_iff]; exact h4
 simp only [q1, q2, q3, q4, Bool.false_eq_true, if_false]
 refine ⟨hb, fun j hj => ?_⟩
 simp [h1, h2, h3, h4]
open Go.Abs
set_option linter.unusedVariables false
set_option linter.unusedSimpArgs false

theorem GenB.range {p : D_Project} {b : D_Domain} (h : GenB p b) {i : Nat} (hi : i < p.2.1.length) : (0 ≤ mnB b i ∧ mnB b i < p.1) ∧ mnB b i ≤ mxB b i ∧ mxB b i < p.1 := by
 have l1 := h.l.l1
 have l2 := h.l.l2
 have e1 : mnB b i = b.1[i] := by unfold mnB; rw [List.getElem?_eq_getElem (by omega)]; rfl
 have e2 : mxB b i = b.2.1[i] := by unfold mxB; rw [List.getElem?_eq_getElem (by omega)]; rfl
 have a1 := h.v1 i (by omega)
 have a2 := h.v2 i (by omega)
 have a3 := h.le i (by omega) (by omega)
 rw [e1, e2]
 omega
theorem GenB0.mo {p : D_Project} {b : D_Domain} (h : GenB0 p b) {i : Nat} (hi : i < p.2.1.length) : moB b i = iotaI p.2.1[i].2.2.1.length := by
 have l3 := h.l.l3
 unfold moB
 rw [List.getElem?_eq_getElem (by omega)]
 exact h.m i (by omega) hi
/-- in ascending order -/
theorem set_of_lt {l : List Int} (h : l.Pairwise (· < ·)) : setB l = true := by
 unfold setB
 rw [List.all_eq_true]
 intro i hi
 have hi : i < l.length := by simpa using hi
 rw [List.pairwise_iff_getElem] at h
 cases i with
 | zero => rfl
 | succ j =>
  have := h j (j + 1) (by omega) hi (by omega)
  simp only [ordI]
  rw [List.getElem?_eq_getElem hi, List.getElem?_eq_getElem (show j < l.length by omega)]
  simp only [notB_not, Bool.not_eq_true', Bool.eq_false_iff, Ne, leZ_iff]
  omega
theorem iota_lt (n : Nat) : (iotaI n).Pairwise (· < ·) := by
 unfold iotaI
 rw [List.pairwise_map]
 exact List.pairwise_lt_range.imp fun h => by omega
/-- a domain of the right form -/
structure BoxOk (p : D_Project) (b : D_Domain) : Prop where
 l : BoxL p.2.1.length b
 v : ∀ i, i < p.2.1.length → -2 ≤ mnB b i ∧ mnB b i ≤ 62 ∧ -2 ≤ mxB b i ∧ mxB b i ≤ 62
 m : ∀ i (hi : i < p.2.1.length), (moB b i).Pairwise (· < ·) ∧ ∀ x ∈ moB b i, x ∈ iotaI p.2.1[i].2.2.1.length
theorem subB_iff {a b : List Int} : subB a b = true ↔ ∀ x ∈ a, x ∈ b := by
 unfold subB
 rw [List.all_eq_true]
 exact ⟨fun h x hx => hasB_iff.1 (h x hx), fun h x hx => hasB_iff.2 (h x hx)⟩
theorem BoxOk.dom {p : D_Project} {b : D_Domain} (hP : GenP 6 p) (h : BoxOk p b) : domB p b = true := by
 unfold domB
 have e1 : eqZ (lenI b.1) (lenI p.2.1) = true := by rw [lenI_eq, lenI_eq, h.l.l1]; exact eqZ_self _
 have e2 : eqZ (lenI b.2.1) (lenI p.2.1) = true := by rw [lenI_eq, lenI_eq, h.l.l2]; exact eqZ_self _
 have e3 : eqZ (lenI b.2.2.1) (lenI p.2.1) = true := by rw [lenI_eq, lenI_eq, h.l.l3]; exact eqZ_self _
 rw [hP.ok (Nat.le_refl _), e1, e2, e3, Bool.and_self, Bool.and_self, Bool.and_self, Bool.true_and, List.all_eq_true]
 intro i hi
 have hi : i < p.2.1.length := by simpa using hi
 obtain ⟨g1, g2, g3⟩ := h.l.at hi
 have hv := h.v i hi
 have hm := h.m i hi
 unfold domI
 rw [List.getElem?_eq_getElem hi, g1, g2, g3]
 simp only [Bool.and_eq_true, inB_iff]
 exact ⟨⟨⟨by omega, by omega⟩, set_of_lt hm.1⟩, subB_iff.2 hm.2⟩
theorem GenB0.ok {p : D_Project} {b : D_Domain} (hP : GenP 6 p) (h : GenB0 p b) : BoxOk p b := by
 have hdl := hP.dl
 refine ⟨h.l, fun i hi => ?_, fun i hi => ?_⟩
 ·have l1 := h.l.l1
  have l2 := h.l.l2
  have e1 : mnB b i = b.1[i] := by unfold mnB; rw [List.getElem?_eq_getElem (by omega)]; rfl
  have e2 : mxB b i = b.2.1[i] := by unfold mxB; rw [List.getElem?_eq_getElem (by omega)]; rfl
  have a1 := h.v1 i (by omega)
  have a2 := h.v2 i (by omega)
  rw [e1, e2]
  omega
 ·rw [h.mo hi]
  exact ⟨iota_lt _, fun x hx => hx⟩
theorem GenB0.dom {p : D_Project} {b : D_Domain} (hP : GenP 6 p) (h : GenB0 p b) : domB p b = true := (h.ok hP).dom hP
theorem BoxOk.rest {p : D_Project} {b : D_Domain} (h : BoxOk p b) (k : Int) {i v : Nat} (hi : i < p.2.1.length) (hv : v ≤ 62) : BoxOk p (restV b (k, ((i : Int), ((v : Int), ())))) := by
 obtain ⟨hx, hf⟩ := rest_fn h.l k hi hv
 refine ⟨hx, fun j hj => ?_, fun j hj => ?_⟩
 ·obtain ⟨f1, f2, -⟩ := hf j hj
  have := h.v j hj
  rw [f1, f2]
  refine ⟨?_, ?_, ?_, ?_⟩ <;> split <;> first | omega | (unfold maxI; split <;> omega) | (unfold minI; split <;> omega)
 ·obtain ⟨-, -, f3⟩ := hf j hj
  obtain ⟨m1, m2⟩ := h.m j hj
  rw [f3]
  split
  ·exact ⟨m1.filter _, fun x hx => m2 x (List.mem_filter.1 hx).1⟩
  ·split
   ·exact ⟨m1.filter _, fun x hx => m2 x (List.mem_filter.1 hx).1⟩
   ·exact ⟨m1, m2⟩
theorem BoxOk.sm {p : D_Project} {b : D_Domain} (hP : GenP 6 p) (h : BoxOk p b) {B : Nat} (hB : 8 ≤ B) : Sm_Domain B b := by
 have hal := hP.al
 have l1 := h.l.l1
 have l2 := h.l.l2
 have l3 := h.l.l3
 refine ⟨⟨by omega, fun _ _ => trivial⟩, ⟨by omega, fun _ _ => trivial⟩, ⟨by omega, fun y hy => ?_⟩, trivial⟩
 obtain ⟨i, hi, rfl⟩ := List.mem_iff_getElem.1 hy
 have e : moB b i = b.2.2.1[i] := by unfold moB; rw [List.getElem?_eq_getElem hi]; rfl
 have hml := (hP.a i (by omega)).ml
 obtain ⟨m1, m2⟩ := h.m i (by omega)
 rw [e] at m1 m2
 have hnd : b.2.2.1[i].Nodup := m1.imp fun h => by omega
 have := hnd.length_le_of_subset m2
 rw [iotaI_length] at this
 exact ⟨by omega, fun _ _ => trivial⟩
theorem GenB.restOk {p : D_Project} {b : D_Domain} (hP : GenP 6 p) (h : GenB p b) {k : Int} (hk : k = 1 ∨ k = 2 ∨ k = 3 ∨ k = 4) {i v : Nat} (hi : i < p.2.1.length) (hv : v ≤ 62) :
  BoxOk p (restV b (k, ((i : Int), ((v : Int), ())))) ∧ domB p (restV b (k, ((i : Int), ((v : Int), ())))) = true := ⟨(h.toGenB0.ok hP).rest k hi hv, ((h.toGenB0.ok hP).rest k hi hv).dom hP⟩
/-- is a domain a part of another? -/
def subDI (a b : D_Domain) (i : Nat) : Bool := notB (ltZ (mnB a i) (mnB b i)) && (notB (ltZ (mxB b i) (mxB a i)) && subB (moB a i) (moB b i))
def subD (n : Nat) (a b : D_Domain) : Bool := (List.range n).all (subDI a b)
theorem GenB.restSub {p : D_Project} {b : D_Domain} {n : Nat} (h : GenB p b) {k : Int} (hk : k = 1 ∨ k = 2 ∨ k = 3 ∨ k = 4) {i v : Nat} (hi : i < p.2.1.length) (hv : v ≤ 62) : subD p.2.1.length (restV b (k, ((i : Int), ((v : Int), ())))) b = true := by
 obtain ⟨hx, hf⟩ := rest_fn h.l k hi hv
 unfold subD
 rw [List.all_eq_true]
 intro j hj
 have hj : j < p.2.1.length := by simpa using hj
 obtain ⟨f1, f2, f3⟩ := hf j hj
 unfold subDI
 rw [f1, f2, f3, Bool.and_eq_true, Bool.and_eq_true, notB_not, notB_not, Bool.not_eq_true', Bool.not_eq_true', Bool.eq_false_iff, Bool.eq_false_iff, Ne, Ne, ltZ_iff, ltZ_iff, subB_iff]
 refine ⟨?_, ?_, ?_⟩
 ·split
  ·unfold maxI; split <;> omega
  ·omega
 ·split
  ·unfold minI; split <;> omega
  ·omega
 ·split
  ·exact fun x hx => (List.mem_filter.1 hx).1
  ·split
   ·exact fun x hx => (List.mem_filter.1 hx).1
   ·exact fun x hx => hx
theorem BoxL.not_empty_of {n : Nat} {b : D_Domain} (h : BoxL n b) {f g : Nat → Int} (hc : ∀ i, i < n → mnB b i ≤ f i ∧ f i ≤ mxB b i ∧ hasB (moB b i) (g i) = true) : emptyB b = false := by
 have l1 := h.l1
 have l3 := h.l3
 refine empty_not (fun i h1 h2 => ?_) (fun m hm e => ?_)
 ·obtain ⟨c1, c2, -⟩ := hc i (by omega)
  have e1 : mnB b i = b.1[i] := by unfold mnB; rw [List.getElem?_eq_getElem h1]; rfl
  have e2 : mxB b i = b.2.1[i] := by unfold mxB; rw [List.getElem?_eq_getElem h2]; rfl
  rw [e1] at c1
  rw [e2] at c2
  omega
 ·obtain ⟨i, hi, rfl⟩ := List.mem_iff_getElem.1 hm
  obtain ⟨-, -, c3⟩ := hc i (by omega)
  have e3 : moB b i = b.2.2.1[i] := by unfold moB; rw [List.getElem?_eq_getElem hi]; rfl
  rw [e3, e] at c3
  cases c3
end Go.Proofs.YtjhpeeapijjgjaaGreat
