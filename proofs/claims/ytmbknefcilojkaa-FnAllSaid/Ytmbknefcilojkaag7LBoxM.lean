/-
  Plain laws: numbers in a row, lists that hold a number, sets, domains (several small texts in one). Condition: no list is longer than 2 to the 40.
-/
import Derived.Test.Ytmbknefcilojkaag7LGenA
import Derived.Test.Ytmbknefcilojkaag7LDomM
namespace Go.Proofs.Ytmbknefcilojkaa
open Go.Abs
set_option linter.unusedVariables false
set_option linter.unusedSimpArgs false

/-- a literal over a project -/
structure GenL (p : D_Project) (l : D_Literal) (i v : Nat) : Prop where
  ha : l.2.1 = (i : Int)
  hi : i < p.2.1.length
  hv : l.2.2.1 = (v : Int)
  hk : ((l.1 = 1 ∨ l.1 = 2) ∧ v ≤ 23) ∨ ((l.1 = 3 ∨ l.1 = 4) ∧ ∃ h : i < p.2.1.length, v < p.2.1[i].2.2.1.length)
structure BoxL (n : Nat) (b : D_Domain) : Prop where
  l1 : b.1.length = n
  l2 : b.2.1.length = n
  l3 : b.2.2.1.length = n
/-- a domain that is drawn, but for its being not empty -/
structure GenB0 (p : D_Project) (b : D_Domain) : Prop where
  l : BoxL p.2.1.length b
  v1 : ∀ i (h1 : i < b.1.length), 0 ≤ b.1[i] ∧ b.1[i] < p.1
  v2 : ∀ i (h2 : i < b.2.1.length), 0 ≤ b.2.1[i] ∧ b.2.1[i] < p.1
  m : ∀ i (h3 : i < b.2.2.1.length) (h : i < p.2.1.length), b.2.2.1[i] = iotaI p.2.1[i].2.2.1.length
structure GenB (p : D_Project) (b : D_Domain) : Prop extends GenB0 p b where
  le : ∀ i (h1 : i < b.1.length) (h2 : i < b.2.1.length), b.1[i] ≤ b.2.1[i]
theorem BoxL.has {n : Nat} {b : D_Domain} (h : BoxL n b) {i : Nat} (hi : i < n) : hasV b (i : Int) = true := by
  have hl := h.l1
  have hl2 := h.l2
  have hl3 := h.l3
  unfold hasV placeB
  simp only [lenI_eq, Bool.and_eq_true, leZ_iff, ltZ_iff]
  omega
theorem clamp_id {v : Nat} (h : v ≤ 62) : clampV (v : Int) = (v : Int) := by
  unfold clampV minI maxI
  split <;> split <;> omega
theorem GenB0.sm {p : D_Project} {b : D_Domain} (hP : GenP 6 p) (h : GenB0 p b) {B : Nat} (hB : 8 ≤ B) : Sm_Domain B b := by
  have hal := hP.al
  have l1 := h.l.l1
  have l2 := h.l.l2
  have l3 := h.l.l3
  refine ⟨⟨by omega, fun _ _ => trivial⟩, ⟨by omega, fun _ _ => trivial⟩, ⟨by omega, fun y hy => ?_⟩, trivial⟩
  obtain ⟨i, hi, rfl⟩ := List.mem_iff_getElem.1 hy
  have := (hP.a i (by omega)).ml
  rw [h.m i hi (by omega), iotaI_length]
  exact ⟨by omega, fun _ _ => trivial⟩
theorem GenB0.nodup {p : D_Project} {b : D_Domain} (h : GenB0 p b) : ∀ m ∈ b.2.2.1, m.Nodup := fun m hm => by
  obtain ⟨i, hi, rfl⟩ := List.mem_iff_getElem.1 hm
  rw [h.m i hi (by rw [← h.l.l3]; exact hi)]
  unfold iotaI
  rw [List.Nodup, List.pairwise_map]
  exact List.nodup_range.imp fun hne he => hne (Int.ofNat.inj he)
theorem GenB0.rest {p : D_Project} {b : D_Domain} (hP : GenP 6 p) (h : GenB0 p b) {k : Int} (hk : k = 1 ∨ k = 2) {i v : Nat} (hi : i < p.2.1.length) (hv : (v : Int) < p.1) : GenB0 p (restV b (k, ((i : Int), ((v : Int), ())))) := by
  have hdl := hP.dl
  have l1 := h.l.l1
  have l2 := h.l.l2
  have l3 := h.l.l3
  unfold restV
  simp only [h.l.has hi, if_true, clamp_id (show v ≤ 62 by omega)]
  rcases hk with rfl | rfl
  · have e1 : eqZ 1 1 = true := rfl
    simp only [e1, if_true, setI_nat]
    refine ⟨⟨by simpa using l1, l2, l3⟩, fun j hj => ?_, h.v2, h.m⟩
    simp only [List.length_modify] at hj
    have := h.v1 j hj
    simp only [List.getElem_modify]
    split
    · unfold maxI; split <;> omega
    · exact this
  · have e1 : eqZ 2 1 = false := rfl
    have e2 : eqZ 2 2 = true := rfl
    simp only [e1, e2, Bool.false_eq_true, if_false, if_true, setI_nat]
    refine ⟨⟨l1, by simpa using l2, l3⟩, h.v1, fun j hj => ?_, h.m⟩
    simp only [List.length_modify] at hj
    have := h.v2 j hj
    simp only [List.getElem_modify]
    split
    · unfold minI; split <;> omega
    · exact this
theorem not_empty {b : D_Domain} (h : emptyB b = false) : (∀ i (h1 : i < b.1.length) (h2 : i < b.2.1.length), b.1[i] ≤ b.2.1[i]) ∧ ∀ m ∈ b.2.2.1, m ≠ [] := by
  unfold emptyB at h
  split at h
  · rename_i h0
    rw [List.all_eq_true] at h0
    refine ⟨fun i h1 h2 => ?_, fun m hm e => ?_⟩
    · have := h0 i (by simpa using h1)
      unfold badI at this
      rw [List.getElem?_eq_getElem h1, List.getElem?_eq_getElem h2, notB_not, Bool.not_eq_true', Bool.eq_false_iff, Ne, ltZ_iff] at this
      omega
    · rw [List.any_eq_false] at h
      exact h m hm (by subst e; rfl)
  · cases h
theorem empty_not {b : D_Domain} (h1 : ∀ i (h1 : i < b.1.length) (h2 : i < b.2.1.length), b.1[i] ≤ b.2.1[i]) (h2 : ∀ m ∈ b.2.2.1, m ≠ []) : emptyB b = false := by
  unfold emptyB
  have h0 : ((List.range b.1.length).all fun i => notB (badI b i)) = true := by
    rw [List.all_eq_true]
    intro i hi
    have hi : i < b.1.length := by simpa using hi
    unfold badI
    rw [List.getElem?_eq_getElem hi]
    by_cases h : i < b.2.1.length
    · rw [List.getElem?_eq_getElem h, notB_not, Bool.not_eq_true', Bool.eq_false_iff, Ne, ltZ_iff]
      have := h1 i hi h
      omega
    · rw [List.getElem?_eq_none (by omega)]
      rfl
  rw [if_pos h0, List.any_eq_false]
  intro m hm
  have := h2 m hm
  cases m with
  | nil => exact absurd rfl this
  | cons x m => rw [lenI_eq, eqZ_iff]; simp; omega
theorem GenB0.init {p : D_Project} (hP : GenP 6 p) : GenB p (initD p) := by
  have hdl := hP.dl
  have hs : subZ .i64 p.1 1 = p.1 - 1 := subZ64 (by omega) (by omega)
  refine ⟨⟨⟨by simp [initD], by simp [initD], by simp [initD]⟩, fun i h1 => ?_, fun i h2 => ?_, fun i h3 h => ?_⟩, fun i h1 h2 => ?_⟩
  · simp only [initD, List.getElem_map]; omega
  · simp only [initD, List.getElem_map, hs]; omega
  · simp only [initD, List.getElem_map]
  · simp only [initD, List.getElem_map, hs]; omega
theorem InitialDomain_G {p : D_Project} (hP : GenP 6 p) (u : Unit) : spec_InitialDomain (p, u) () = some (initD p, ()) := by
  have hp : Sm_Project 1099511627776 p := hP.sm (by omega) (by omega)
  have hok := hP.ok (Nat.le_refl _)
  unfold spec_InitialDomain
  simp only [ProjectOk_spec _ _ hp, hok, some_bind', notB_true, Bool.false_eq_true, if_false, l12Of_eq _ _ hok]
theorem MakeBox_eq (b : List Int) (hb : b.length ≤ 1048576) (p : D_Project) (hP : GenP 6 p) : ∃ x, GenB p x ∧ spec_MakeBox (b, (p, ())) () = some (x, ()) := by
  have hal := hP.al
  have hdl := hP.dl
  obtain ⟨d, hd⟩ : ∃ d : Nat, p.1 = (d : Int) := ⟨p.1.toNat, by omega⟩
  unfold spec_MakeBox
  obtain ⟨c, hc, e⟩ := l01New_eq b hb
  obtain ⟨k0, hk0, c0, hc0, e0⟩ := l01Below_eq (c.1, (c.2.1, ((addZ .i64 c.2.2.1 17), c.2.2.2))) hc 4 (by omega) (by omega)
  have e0' : spec_l01Below ((c.1, (c.2.1, ((addZ .i64 c.2.2.1 17), c.2.2.2))), (4, ())) () = some ((k0 : Int), c0) := e0
  obtain ⟨z, hz⟩ : ∃ z : D_Domain, z = ([], ([], ([], ()))) := ⟨_, rfl⟩
  obtain ⟨o, ho, hR⟩ := loopN_run (A := (Int × (D_l01Cur × (D_Project × (D_Domain × (D_Domain × Unit)))))) (F := spec_MakeBox_L0)
    (fun t => ∃ (k : Nat) (cc : D_l01Cur) (x : D_Domain), t = ((k : Int), (cc, (p, (x, (z, ()))))) ∧ k ≤ 4 ∧ CurOk cc ∧ GenB p x) (fun t => t.1.toNat)
    (fun o => ∃ (bo : Bool) (k : Int) (cc : D_l01Cur) (x : D_Domain), o = .exit (.inl (bo, (k, (cc, (p, (x, (z, ()))))))) ∧ GenB p x)
    (fun t hI => by
      obtain ⟨k, cc, x, rfl, hk, hcc, hx⟩ := hI
      by_cases h0 : k = 0
      · subst h0
        have hl : ltZ 0 ((0 : Nat) : Int) = false := rfl
        refine ⟨.exit (.inl (false, (((0 : Nat) : Int), (cc, (p, (x, (z, ()))))))), ?_, _, _, _, _, rfl, hx⟩
        unfold spec_MakeBox_L0
        simp only [hl, Bool.false_eq_true, if_false]
      · have hl : ltZ 0 (k : Int) = true := by rw [ltZ_iff]; omega
        obtain ⟨k1, hk1, c1, hc1, e1⟩ := l01Below_eq cc hcc 2 (by omega) (by omega)
        have e1' : spec_l01Below (cc, (2, ())) () = some ((k1 : Int), c1) := e1
        obtain ⟨i, hi, c2, hc2, e2⟩ := l01Below_eq c1 hc1 p.2.1.length (by omega) (by omega)
        obtain ⟨v, hv, c3, hc3, e3⟩ := l01Below_eq c2 hc2 d (by omega) (by omega)
        have hadd : addZ .i64 1 (k1 : Int) = 1 + (k1 : Int) := addZ64 (by omega) (by omega)
        have hsub : subZ .i64 (k : Int) 1 = ((k - 1 : Nat) : Int) := by rw [subZ64 (by omega) (by omega)]; omega
        have hr := hx.toGenB0.rest hP (k := 1 + (k1 : Int)) (by omega) hi (v := v) (by omega)
        have er := fun u => Restrict_spec x (1 + (k1 : Int), ((i : Int), ((v : Int), ()))) u (hx.toGenB0.sm hP (by omega)) hx.toGenB0.nodup
        generalize hy : restV x (1 + (k1 : Int), ((i : Int), ((v : Int), ()))) = y at hr er
        have ee := fun u => DomainEmpty_spec y u (hr.sm hP (by omega))
        rcases tf (emptyB y) with hem | hem
        · refine ⟨.norm (((k - 1 : Nat) : Int), (c3, (p, (y, (z, ()))))), ?_, ⟨k - 1, c3, y, rfl, by omega, hc3, ⟨hr, (not_empty hem).1⟩⟩, by show ((k - 1 : Nat) : Int).toNat < ((k : Nat) : Int).toNat; omega⟩
          unfold spec_MakeBox_L0
          simp only [hl, if_true, e1', Option.bind_some, lenI_eq, e2, hd, e3, hadd, er, ee, hem, notB_false, hsub]
        · refine ⟨.norm (((k - 1 : Nat) : Int), (c3, (p, (x, (z, ()))))), ?_, ⟨k - 1, c3, x, rfl, by omega, hc3, hx⟩, by show ((k - 1 : Nat) : Int).toNat < ((k : Nat) : Int).toNat; omega⟩
          unfold spec_MakeBox_L0
          simp only [hl, if_true, e1', Option.bind_some, lenI_eq, e2, hd, e3, hadd, er, ee, hem, notB_true, Bool.false_eq_true, if_false, hsub])
    big ((k0 : Int), (c0, (p, (initD p, (z, ()))))) ⟨k0, c0, initD p, rfl, by omega, hc0, GenB0.init hP⟩ (by show ((k0 : Nat) : Int).toNat < big; rw [big_eq]; omega)
  obtain ⟨bo, k, cc, x, rfl, hx⟩ := hR
  rw [hz] at ho
  simp only [e, Option.bind_some, InitialDomain_G hP, e0', ho]
  exact ⟨x, hx, rfl⟩
open Go.Abs
set_option linter.unusedVariables false
set_option linter.unusedSimpArgs false

theorem eqL_int (x y : List Int) : eqLB eqZ x y = decide (x = y) := by
  rw [Bool.eq_iff_iff, decide_eq_true_eq]
  unfold eqLB
  rw [Bool.and_eq_true, decide_eq_true_eq, List.all_eq_true]
  constructor
  · rintro ⟨h1, h2⟩
    refine List.ext_getElem h1 fun i a b => ?_
    have := h2 i (by simpa using a)
    rw [List.getElem?_eq_getElem a, List.getElem?_eq_getElem b, eqZ_iff] at this
    exact this
  · rintro rfl
    refine ⟨rfl, fun i hi => ?_⟩
    have hi : i < x.length := by simpa using hi
    rw [List.getElem?_eq_getElem hi]
    exact eqZ_self _
theorem Equal_int (x y : List Int) (u : Unit) (hx : x.length ≤ 1099511627776) : slices_Equal_int_int (x, y, u) () = some (decide (x = y), ()) := by
  rw [← eqL_int]
  unfold slices_Equal_int_int
  simp only [lenI_eq]
  by_cases h : x.length = y.length
  · have e : eqZ (x.length : Int) (y.length : Int) = true := by rw [eqZ_iff, h]
    have l0 := fun A : Type => pairS (A := A) (F := slices_Equal_int_int_L0) (fun i => ((i : Int), (x.length : Int), x, y, ())) (0, (x.length : Int), x, y, ()) x y h eqZ (Sum.inl (false, (x.length : Int), (x.length : Int), x, y, ())) (false, ()) rfl hx
      (fun i hi hi' => by
        unfold slices_Equal_int_int_L0
        simp only [lt_yes hi, if_true, getI_lt hi, getI_lt hi', some_bind', idxN hi hx (Nat.le_refl _)]
        cases eqZ x[i] y[i] <;> rfl)
      (by unfold slices_Equal_int_int_L0; simp only [lt_no, Bool.false_eq_true, if_false])
    simp only [e, notB_true, Bool.false_eq_true, if_false, l0]
    cases eqLB eqZ x y <;> rfl
  · have e : eqZ (x.length : Int) (y.length : Int) = false := by
      rw [Bool.eq_false_iff, Ne, eqZ_iff]
      intro he
      exact h (Int.ofNat.inj he)
    simp only [e, notB_false, if_true, eqLB_len h]

def mnB (b : D_Domain) (i : Nat) : Int := (b.1[i]?).getD 0
def mxB (b : D_Domain) (i : Nat) : Int := (b.2.1[i]?).getD 0
def moB (b : D_Domain) (i : Nat) : List Int := (b.2.2.1[i]?).getD []
theorem BoxL.at {n : Nat} {b : D_Domain} (h : BoxL n b) {i : Nat} (hi : i < n) : b.1[i]? = some (mnB b i) ∧ b.2.1[i]? = some (mxB b i) ∧ b.2.2.1[i]? = some (moB b i) := by
  have l1 := h.l1
  have l2 := h.l2
  have l3 := h.l3
  unfold mnB mxB moB
  rw [List.getElem?_eq_getElem (show i < b.1.length by omega), List.getElem?_eq_getElem (show i < b.2.1.length by omega), List.getElem?_eq_getElem (show i < b.2.2.1.length by omega)]
  exact ⟨rfl, rfl, rfl⟩
theorem BoxL.get {n : Nat} {b : D_Domain} (h : BoxL n b) {i : Nat} (hi : i < n) : getI b.1 (i : Int) = some (mnB b i) ∧ getI b.2.1 (i : Int) = some (mxB b i) ∧ getI b.2.2.1 (i : Int) = some (moB b i) := by
  rw [getI_nat, getI_nat, getI_nat]
  exact h.at hi
theorem BoxL.mo_mem {n : Nat} {b : D_Domain} (h : BoxL n b) {i : Nat} (hi : i < n) : moB b i ∈ b.2.2.1 := List.mem_of_getElem? (h.at hi).2.2
/-- starts and modes of as many activities -/
structure SchL (n : Nat) (s : D_Schedule) : Prop where
  s1 : s.1.length = n
  s2 : s.2.1.length = n
def tsS (s : D_Schedule) (i : Nat) : Int := (s.1[i]?).getD 0
def ksS (s : D_Schedule) (i : Nat) : Int := (s.2.1[i]?).getD 0
theorem SchL.at {n : Nat} {s : D_Schedule} (h : SchL n s) {i : Nat} (hi : i < n) : s.1[i]? = some (tsS s i) ∧ s.2.1[i]? = some (ksS s i) := by
  have l1 := h.s1
  have l2 := h.s2
  unfold tsS ksS
  rw [List.getElem?_eq_getElem (show i < s.1.length by omega), List.getElem?_eq_getElem (show i < s.2.1.length by omega)]
  exact ⟨rfl, rfl⟩
theorem SchL.get {n : Nat} {s : D_Schedule} (h : SchL n s) {i : Nat} (hi : i < n) : getI s.1 (i : Int) = some (tsS s i) ∧ getI s.2.1 (i : Int) = some (ksS s i) := by
  rw [getI_nat, getI_nat]
  exact h.at hi
theorem con_iff {n : Nat} {b : D_Domain} {s : D_Schedule} (hb : BoxL n b) (hs : SchL n s) : conB b s = true ↔ ∀ i, i < n → mnB b i ≤ tsS s i ∧ tsS s i ≤ mxB b i ∧ hasB (moB b i) (ksS s i) = true := by
  unfold conB
  have e0 : eqZ (lenI s.2.1) (lenI s.1) = true := by rw [lenI_eq, lenI_eq, hs.s1, hs.s2]; exact eqZ_self _
  have e1 : eqZ (lenI b.1) (lenI s.1) = true := by rw [lenI_eq, lenI_eq, hs.s1, hb.l1]; exact eqZ_self _
  have e2 : eqZ (lenI b.2.1) (lenI s.1) = true := by rw [lenI_eq, lenI_eq, hs.s1, hb.l2]; exact eqZ_self _
  have e3 : eqZ (lenI b.2.2.1) (lenI s.1) = true := by rw [lenI_eq, lenI_eq, hs.s1, hb.l3]; exact eqZ_self _
  rw [e0, e1, e2, e3, hs.s1, Bool.and_self, Bool.and_self, Bool.and_self, Bool.true_and, List.all_eq_true]
  refine ⟨fun h i hi => ?_, fun h i hi => ?_⟩
  · have := h i (by simpa using hi)
    obtain ⟨g1, g2, g3⟩ := hb.at hi
    obtain ⟨g4, g5⟩ := hs.at hi
    unfold conI at this
    rw [g1, g2, g3, g4, g5, Bool.and_eq_true, inB_iff] at this
    exact ⟨this.1.1, this.1.2, this.2⟩
  · have hi : i < n := by simpa using hi
    obtain ⟨k1, k2, k3⟩ := h i hi
    obtain ⟨g1, g2, g3⟩ := hb.at hi
    obtain ⟨g4, g5⟩ := hs.at hi
    unfold conI
    rw [g1, g2, g3, g4, g5, Bool.and_eq_true, inB_iff]
    exact ⟨⟨k1, k2⟩, k3⟩
theorem hasB_iff {l : List Int} {n : Int} : hasB l n = true ↔ n ∈ l := by
  unfold hasB
  rw [List.any_eq_true]
  constructor
  · rintro ⟨x, hx, e⟩
    rw [eqZ_iff] at e
    exact e ▸ hx
  · intro h
    exact ⟨n, h, eqZ_self _⟩
theorem rest_fn {n : Nat} {b : D_Domain} (hb : BoxL n b) (k : Int) {i v : Nat} (hi : i < n) (hv : v ≤ 62) : BoxL n (restV b (k, ((i : Int), ((v : Int), ())))) ∧ ∀ j, j < n →
    mnB (restV b (k, ((i : Int), ((v : Int), ())))) j = (if k = 1 ∧ j = i then maxI (mnB b j) v else mnB b j) ∧
    mxB (restV b (k, ((i : Int), ((v : Int), ())))) j = (if k = 2 ∧ j = i then minI (mxB b j) v else mxB b j) ∧
    moB (restV b (k, ((i : Int), ((v : Int), ())))) j = (if k = 3 ∧ j = i then (moB b j).filter (fun x => eqZ x v) else if k = 4 ∧ j = i then (moB b j).filter (fun x => notB (eqZ x v)) else moB b j) := by
  have l1 := hb.l1
  have l2 := hb.l2
  have l3 := hb.l3
  have md : ∀ {α : Type} (l : List α) (f : α → α) (j : Nat) (d : α), j < l.length → ((l.modify i f)[j]?).getD d = if j = i then f ((l[j]?).getD d) else (l[j]?).getD d := fun l f j d hj => by
    rw [List.getElem?_modify, List.getElem?_eq_getElem hj]
    by_cases e : i = j
    · subst e; simp
    · rw [if_neg (Ne.symm e)]; simp [e]
  unfold restV
  simp only [hb.has hi, if_true, clamp_id hv]
  by_cases h1 : k = 1
  · subst h1
    have e1 : eqZ 1 1 = true := rfl
    simp only [e1, if_true, setI_nat]
    refine ⟨⟨by simpa using l1, l2, l3⟩, fun j hj => ?_⟩
    unfold mnB mxB moB
    simp only
    rw [md _ _ _ _ (by omega)]
    refine ⟨?_, ?_, ?_⟩ <;> simp
  have q1 : eqZ k 1 = false := by rw [Bool.eq_false_iff, Ne, eqZ_iff]; exact h1
  by_cases h2 : k = 2
  · subst h2
    have e2 : eqZ 2 2 = true := rfl
    simp only [q1, e2, Bool.false_eq_true, if_false, if_true, setI_nat]
    refine ⟨⟨l1, by simpa using l2, l3⟩, fun j hj => ?_⟩
    unfold mnB mxB moB
    simp only
    rw [md _ _ _ _ (by omega)]
    refine ⟨?_, ?_, ?_⟩ <;> simp
  have q2 : eqZ k 2 = false := by rw [Bool.eq_false_iff, Ne, eqZ_iff]; exact h2
  by_cases h3 : k = 3
  · subst h3
    have e3 : eqZ 3 3 = true := rfl
    simp only [q1, q2, e3, Bool.false_eq_true, if_false, if_true, setI_nat]
    refine ⟨⟨l1, l2, by simpa using l3⟩, fun j hj => ?_⟩
    unfold mnB mxB moB
    simp only
    rw [md _ _ _ _ (by omega)]
    refine ⟨?_, ?_, ?_⟩ <;> simp
  have q3 : eqZ k 3 = false := by rw [Bool.eq_false_iff, Ne, eqZ_iff]; exact h3
  by_cases h4 : k = 4
  · subst h4
    have e4 : eqZ 4 4 = true := rfl
    simp only [q1, q2, q3, e4, Bool.false_eq_true, if_false, if_true, setI_nat]
    refine ⟨⟨l1, l2, by simpa using l3⟩, fun j hj => ?_⟩
    unfold mnB mxB moB
    simp only
    rw [md _ _ _ _ (by omega)]
    refine ⟨?_, ?_, ?_⟩ <;> simp
  have q4 : eqZ k 4 = false := by rw [Bool.eq_false_iff, Ne, eqZ_iff]; exact h4
  simp only [q1, q2, q3, q4, Bool.false_eq_true, if_false]
  refine ⟨hb, fun j hj => ?_⟩
  simp [h1, h2, h3, h4]

/-- does a literal hold in a schedule? -/
def holdV (k : Int) (i v : Nat) (s : D_Schedule) : Bool := if k = 1 then leZ v (tsS s i) else if k = 2 then leZ (tsS s i) v else if k = 3 then eqZ (ksS s i) v else if k = 4 then notB (eqZ (ksS s i) v) else false
/-- which schedules a domain that is cut down contains -/
theorem con_rest {n : Nat} {b : D_Domain} {s : D_Schedule} (hb : BoxL n b) (hs : SchL n s) {k : Int} (hk : k = 1 ∨ k = 2 ∨ k = 3 ∨ k = 4) {i v : Nat} (hi : i < n) (hv : v ≤ 62) :
    conB (restV b (k, ((i : Int), ((v : Int), ())))) s = (conB b s && holdV k i v s) := by
  obtain ⟨hx, hf⟩ := rest_fn hb k hi hv
  have hflt : ∀ (m : List Int) (q : Int → Bool) (y : Int), hasB (m.filter q) y = (hasB m y && q y) := fun m q y => by
    rw [Bool.eq_iff_iff, Bool.and_eq_true, hasB_iff, hasB_iff, List.mem_filter]
  rw [Bool.eq_iff_iff, Bool.and_eq_true, con_iff hx hs, con_iff hb hs]
  unfold holdV
  constructor
  · intro h
    refine ⟨fun j hj => ?_, ?_⟩
    · obtain ⟨f1, f2, f3⟩ := hf j hj
      obtain ⟨c1, c2, c3⟩ := h j hj
      rw [f1] at c1
      rw [f2] at c2
      rw [f3] at c3
      refine ⟨?_, ?_, ?_⟩
      · split at c1
        · unfold maxI at c1; split at c1 <;> omega
        · exact c1
      · split at c2
        · unfold minI at c2; split at c2 <;> omega
        · exact c2
      · split at c3
        · rw [hflt, Bool.and_eq_true] at c3; exact c3.1
        · split at c3
          · rw [hflt, Bool.and_eq_true] at c3; exact c3.1
          · exact c3
    · obtain ⟨f1, f2, f3⟩ := hf i hi
      obtain ⟨c1, c2, c3⟩ := h i hi
      rw [f1] at c1
      rw [f2] at c2
      rw [f3] at c3
      rcases hk with rfl | rfl | rfl | rfl
      · simp only [and_self, if_true] at c1 ⊢
        rw [leZ_iff]
        unfold maxI at c1; split at c1 <;> omega
      · simp only [and_self, if_true] at c2 ⊢
        simp only [show ¬ (2 : Int) = 1 by omega, if_false]
        rw [leZ_iff]
        unfold minI at c2; split at c2 <;> omega
      · simp only [and_self, if_true] at c3 ⊢
        simp only [show ¬ (3 : Int) = 1 by omega, show ¬ (3 : Int) = 2 by omega, if_false]
        rw [hflt, Bool.and_eq_true] at c3
        exact c3.2
      · simp only [and_self, if_true, show ¬ (4 : Int) = 3 by omega, false_and, if_false] at c3
        simp only [show ¬ (4 : Int) = 1 by omega, show ¬ (4 : Int) = 2 by omega, show ¬ (4 : Int) = 3 by omega, if_false, if_true]
        rw [hflt, Bool.and_eq_true] at c3
        exact c3.2
  · rintro ⟨h, h0⟩ j hj
    obtain ⟨f1, f2, f3⟩ := hf j hj
    obtain ⟨c1, c2, c3⟩ := h j hj
    rw [f1, f2, f3]
    refine ⟨?_, ?_, ?_⟩
    · split
      · rename_i e
        obtain ⟨rfl, rfl⟩ := e
        simp only [if_true, leZ_iff] at h0
        unfold maxI; split <;> omega
      · exact c1
    · split
      · rename_i e
        obtain ⟨rfl, rfl⟩ := e
        simp only [show ¬ (2 : Int) = 1 by omega, if_false, if_true, leZ_iff] at h0
        unfold minI; split <;> omega
      · exact c2
    · split
      · rename_i e
        obtain ⟨rfl, rfl⟩ := e
        simp only [show ¬ (3 : Int) = 1 by omega, show ¬ (3 : Int) = 2 by omega, if_false, if_true] at h0
        rw [hflt, Bool.and_eq_true]
        exact ⟨c3, h0⟩
      · split
        · rename_i e
          obtain ⟨rfl, rfl⟩ := e
          simp only [show ¬ (4 : Int) = 1 by omega, show ¬ (4 : Int) = 2 by omega, show ¬ (4 : Int) = 3 by omega, if_false, if_true] at h0
          rw [hflt, Bool.and_eq_true]
          exact ⟨c3, h0⟩
        · exact c3
/-- a literal's value in a domain -/
def valO (a b : Bool) : Int := if a = true then 1 else if b = true then -1 else 0
def onlyV (b : D_Domain) (i v : Nat) : Int := valO (decide (moB b i = [(v : Int)])) (notB (hasB (moB b i) (v : Int)))
def valV (k : Int) (i v : Nat) (b : D_Domain) : Int := if k = 1 then valO (leZ v (mnB b i)) (ltZ (mxB b i) v) else if k = 2 then valO (leZ (mxB b i) v) (ltZ v (mnB b i)) else if k = 3 then onlyV b i v else if k = 4 then subZ .i64 0 (onlyV b i v) else 1
end Go.Proofs.Ytmbknefcilojkaa
