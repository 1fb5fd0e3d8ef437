/-
  Plain laws: decisions; for every code the law FnPicks returns true.
-/
import Derived.Test.Ytmbknefcilojkaag6LBoxM
namespace Go.Proofs.Ytmbknefcilojkaa
open Go.Abs
set_option linter.unusedVariables false
set_option linter.unusedSimpArgs false

theorem eqLB_dec {E : Type} [DecidableEq E] (x y : List E) : eqLB (fun a b => decide (a = b)) x y = decide (x = y) := by
  rw [Bool.eq_iff_iff, decide_eq_true_eq]
  unfold eqLB
  rw [Bool.and_eq_true, decide_eq_true_eq, List.all_eq_true]
  constructor
  · rintro ⟨h1, h2⟩
    refine List.ext_getElem h1 fun i a b => ?_
    have := h2 i (by simpa using a)
    rw [List.getElem?_eq_getElem a, List.getElem?_eq_getElem b] at this
    simpa using this
  · rintro rfl
    refine ⟨rfl, fun i hi => ?_⟩
    have hi : i < x.length := by simpa using hi
    rw [List.getElem?_eq_getElem hi]
    simp
theorem EqualF_ints (x y : List (List Int)) (f : (List Int × List Int × Unit) → Option Bool) (u : Unit) (hx : x.length ≤ 1099511627776) (hf : ∀ a ∈ x, ∀ b, f (a, b, ()) = some (decide (a = b))) : slices_EqualFunc_int_int_int_int (x, y, f, u) () = some (decide (x = y), ()) := by
  rw [← eqLB_dec]
  unfold slices_EqualFunc_int_int_int_int
  simp only [lenI_eq]
  by_cases h : x.length = y.length
  · have e : eqZ (x.length : Int) (y.length : Int) = true := by rw [eqZ_iff, h]
    have l0 := fun A : Type => pairS (A := A) (F := slices_EqualFunc_int_int_int_int_L0) (fun i => ((i : Int), (x.length : Int), x, y, f, ())) (0, (x.length : Int), x, y, f, ()) x y h (fun a b => decide (a = b)) (Sum.inl (false, (x.length : Int), (x.length : Int), x, y, f, ())) (false, ()) rfl hx
      (fun i hi hi' => by
        unfold slices_EqualFunc_int_int_int_int_L0
        simp only [lt_yes hi, if_true, getI_lt hi, getI_lt hi', some_bind', hf _ (List.getElem_mem hi), idxN hi hx (Nat.le_refl _)]
        by_cases q : x[i] = y[i] <;> simp [-Int.natCast_add, q, notB])
      (by unfold slices_EqualFunc_int_int_int_int_L0; simp only [lt_no, Bool.false_eq_true, if_false])
    simp only [e, notB_true, Bool.false_eq_true, if_false, l0]
    cases eqLB (fun a b => decide (a = b)) x y <;> rfl
  · have e : eqZ (x.length : Int) (y.length : Int) = false := by
      rw [Bool.eq_false_iff, Ne, eqZ_iff]
      intro he
      exact h (Int.ofNat.inj he)
    simp only [e, notB_false, if_true, eqLB_len h]
def eqDV (a b : D_Domain) : Bool := decide (a.1 = b.1) && (decide (a.2.1 = b.2.1) && decide (a.2.2.1 = b.2.2.1))
theorem DomainEqual_V (a b : D_Domain) (u : Unit) (ha : Sm_Domain 1099511627776 a) : impl_DomainEqual (a, b, u) () = some (eqDV a b, ()) := by
  have e3 : slices_EqualFunc_int_int_int_int (a.2.2.1, b.2.2.1, (fun v4 => Option.bind (slices_Equal_int_int v4 ()) fun v5 => some v5.1), ()) () = some (decide (a.2.2.1 = b.2.2.1), ()) := by
    refine EqualF_ints _ _ _ () ha.2.2.1.1 (fun x hx y => ?_)
    simp only [Equal_int _ _ _ (ha.2.2.1.2 x hx).1, some_bind']
  unfold impl_DomainEqual eqDV
  simp only [Equal_int _ _ _ ha.1.1, Equal_int _ _ _ ha.2.1.1, some_bind']
  by_cases h1 : a.1 = b.1
  · by_cases h2 : a.2.1 = b.2.1
    · simp only [h1, h2, decide_true, if_true, e3, some_bind', Bool.true_and]
    · simp [h1, h2]
  · simp [h1]
/-- is there a choice left at a place? -/
def openD (b : D_Domain) (i : Nat) : Bool := ltZ 1 ((moB b i).length : Int) || ltZ (mnB b i) (mxB b i)
def stepD (b : D_Domain) (i : Nat) (a : Int) : Int := if (openD b i && (ltZ a 0 || ltZ (mnB b i) (mnB b a.toNat))) = true then (i : Int) else a
/-- what is decided -/
inductive Dec (p : D_Project) (b : D_Domain) : D_Literal → Prop
  | most (j m : Nat) : j < p.2.1.length → mnB b j = (m : Int) → (m : Int) < mxB b j → Dec p b (2, ((j : Int), ((m : Int), ())))
  | mode (j v : Nat) (hj : j < p.2.1.length) : v < p.2.1[j].2.2.1.length → 2 ≤ p.2.1[j].2.2.1.length → Dec p b (3, ((j : Int), ((v : Int), ())))
theorem Choose_G {p : D_Project} {b : D_Domain} (hP : GenP 6 p) (hB : GenB p b) : (impl_ChooseDecision (p, b, ()) () = some (((0, (0, (0, ()))), (false, ())), ()) ∧ ∀ i, i < p.2.1.length → openD b i = false) ∨ ∃ l, Dec p b l ∧ impl_ChooseDecision (p, b, ()) () = some ((l, (true, ())), ()) := by
  have hp : Sm_Project 1099511627776 p := hP.sm (by omega) (by omega)
  have hbs : Sm_Domain 1099511627776 b := hB.toGenB0.sm hP (by omega)
  have hal := hP.al
  have hdl := hP.dl
  have hne : emptyB b = false := hB.l.not_empty_of (f := mnB b) (g := fun _ => 0) fun i hi => by
    obtain ⟨v1, v2⟩ := hB.range hi
    have hml := (hP.a i hi).ml
    refine ⟨Int.le_refl _, v2.1, ?_⟩
    rw [hB.toGenB0.mo hi, hasB_iff]
    exact List.mem_map.2 ⟨0, List.mem_range.2 (by omega), rfl⟩
  have hus : impl_isUsable (p, b, ()) () = some (true, ()) := by
    unfold impl_isUsable
    simp only [DomainForm_impl _ _ _ hp hbs, hB.toGenB0.dom hP, DomainEmpty_impl _ _ hbs, hne, some_bind', if_true, notB_false]
  have l0 := fun A : Type => fold_loop (A := A) (F := impl_ChooseDecision_L0) (fun i (a : Int) => ((i : Int), (p.2.1.length : Int), b, p, a, (((0, (0, (0, ()))) : D_Literal)), ())) p.2.1.length
    (fun i a => (a = -1 ∧ ∀ j, j < i → openD b j = false) ∨ ∃ j : Nat, j < i ∧ a = (j : Int) ∧ openD b j = true) (stepD b)
    (fun a => Sum.inl (false, (p.2.1.length : Int), (p.2.1.length : Int), b, p, a, (((0, (0, (0, ()))) : D_Literal)), ())) (by omega)
    (fun i a hi ha => by
      obtain ⟨g1, g2, g3⟩ := hB.l.get hi
      have hg : ltZ a 0 = false → getI b.1 a = some (mnB b a.toNat) := fun h => by
        rcases ha with ⟨rfl, -⟩ | ⟨j, hj, rfl, -⟩
        · cases h
        · exact (hB.l.get (show j < p.2.1.length by omega)).1
      constructor
      · unfold impl_ChooseDecision_L0 stepD openD
        simp only [lt_yes hi, if_true, g1, g2, g3, some_bind', lenI_eq]
        rcases tf (ltZ 1 ((moB b i).length : Int)) with q1 | q1 <;> rcases tf (ltZ (mnB b i) (mxB b i)) with q2 | q2 <;> rcases tf (ltZ a 0) with q3 | q3
        · simp [-Int.natCast_add, q1, q2, q3, idxN hi (Nat.le_refl _) (show p.2.1.length ≤ 1099511627776 by omega)]
        · simp [-Int.natCast_add, q1, q2, q3, idxN hi (Nat.le_refl _) (show p.2.1.length ≤ 1099511627776 by omega)]
        · have hg := hg q3
          rcases tf (ltZ (mnB b i) (mnB b a.toNat)) with q4 | q4 <;> simp [-Int.natCast_add, q1, q2, q3, q4, g1, hg, idxN hi (Nat.le_refl _) (show p.2.1.length ≤ 1099511627776 by omega)]
        · simp [-Int.natCast_add, q1, q2, q3, idxN hi (Nat.le_refl _) (show p.2.1.length ≤ 1099511627776 by omega)]
        · have hg := hg q3
          rcases tf (ltZ (mnB b i) (mnB b a.toNat)) with q4 | q4 <;> simp [-Int.natCast_add, q1, q2, q3, q4, g1, hg, idxN hi (Nat.le_refl _) (show p.2.1.length ≤ 1099511627776 by omega)]
        · simp [-Int.natCast_add, q1, q2, q3, idxN hi (Nat.le_refl _) (show p.2.1.length ≤ 1099511627776 by omega)]
        · have hg := hg q3
          rcases tf (ltZ (mnB b i) (mnB b a.toNat)) with q4 | q4 <;> simp [-Int.natCast_add, q1, q2, q3, q4, g1, hg, idxN hi (Nat.le_refl _) (show p.2.1.length ≤ 1099511627776 by omega)]
        · simp [-Int.natCast_add, q1, q2, q3, idxN hi (Nat.le_refl _) (show p.2.1.length ≤ 1099511627776 by omega)]
      · unfold stepD
        split
        · rename_i h
          rw [Bool.and_eq_true] at h
          exact .inr ⟨i, by omega, rfl, h.1⟩
        · rename_i h
          rcases ha with ⟨rfl, h2⟩ | ⟨j, hj, rfl, h2⟩
          · refine .inl ⟨rfl, fun j hj => ?_⟩
            rcases Nat.lt_or_ge j i with h3 | h3
            · exact h2 j h3
            · obtain rfl : j = i := by omega
              rw [Bool.eq_false_iff]
              intro ho
              apply h
              rw [ho]; rfl
          · exact .inr ⟨j, by omega, rfl, h2⟩)
    (fun a _ => by
      unfold impl_ChooseDecision_L0
      simp only [lt_no, Bool.false_eq_true, if_false])
    (a := -1) (.inl ⟨rfl, fun j hj => absurd hj (by omega)⟩)
  have hI := (l0 Unit).2
  have l1 := fun A : Type => (l0 A).1
  have e0 : (((0 : Nat) : Int), (p.2.1.length : Int), b, p, (-1 : Int), (((0, (0, (0, ()))) : D_Literal)), ()) = ((0 : Int), (p.2.1.length : Int), b, p, (-1 : Int), (((0, (0, (0, ()))) : D_Literal)), ()) := rfl
  rw [e0] at l1
  generalize foldN (stepD b) p.2.1.length 0 (-1) = z at hI l1
  unfold impl_ChooseDecision
  simp only [hus, some_bind', notB_true, Bool.false_eq_true, if_false, lenI_eq, l1]
  rcases hI with ⟨rfl, h⟩ | ⟨j, hj, rfl, h⟩
  · left
    have e : ltZ (-1) 0 = true := rfl
    simp only [e, if_true, true_and]
    exact h
  · right
    obtain ⟨g1, g2, g3⟩ := hB.l.get hj
    obtain ⟨v1, v2⟩ := hB.range hj
    have hmo := hB.toGenB0.mo hj
    have hml := (hP.a j hj).ml
    have e : ltZ (j : Int) 0 = false := by rw [Bool.eq_false_iff, Ne, ltZ_iff]; omega
    have hlen : (moB b j).length = p.2.1[j].2.2.1.length := by rw [hmo, iotaI_length]
    simp only [e, Bool.false_eq_true, if_false, g1, g3, some_bind']
    by_cases h2 : (moB b j).length < 2
    · have e2 : ltZ ((moB b j).length : Int) 2 = true := by rw [ltZ_iff]; omega
      have e3 : ltZ 1 ((moB b j).length : Int) = false := by rw [Bool.eq_false_iff, Ne, ltZ_iff]; omega
      unfold openD at h
      rw [e3, Bool.false_or, ltZ_iff] at h
      obtain ⟨m, hm⟩ : ∃ m : Nat, mnB b j = (m : Int) := ⟨(mnB b j).toNat, by omega⟩
      simp only [e2, if_true]
      refine ⟨_, ?_, rfl⟩
      rw [hm]
      exact Dec.most j m hj hm (by rw [← hm]; exact h)
    · have e2 : ltZ ((moB b j).length : Int) 2 = false := by rw [Bool.eq_false_iff, Ne, ltZ_iff]; omega
      have g0 : getI (moB b j) 0 = some 0 := by
        rw [hmo]
        have := getI_lt (l := iotaI p.2.1[j].2.2.1.length) (i := 0) (by rw [iotaI_length]; omega)
        rw [iotaI_get] at this
        exact this
      have k0 := fun A : Type => fold_list (A := A) (F := impl_ChooseDecision_L1) (fun i (a : Int) => ((i : Int), ((moB b j).length : Int), moB b j, p, (j : Int), a, (((0, (0, (0, ()))) : D_Literal)), ())) (moB b j)
        (fun i a => ∃ v : Nat, a = (v : Int) ∧ v < p.2.1[j].2.2.1.length) (fun a x => if (match getI p.2.1[j].2.2.1 x, getI p.2.1[j].2.2.1 a with | some m, some m' => ltZ m.1 m'.1 | _, _ => false) = true then x else a)
        (fun a => Sum.inl (false, ((moB b j).length : Int), ((moB b j).length : Int), moB b j, p, (j : Int), a, (((0, (0, (0, ()))) : D_Literal)), ())) (by omega)
        (fun i a hi ha => by
          obtain ⟨v, rfl, hv⟩ := ha
          have hx : (moB b j)[i] = (i : Int) := by
            have : (moB b j)[i]? = some (i : Int) := by
              rw [hmo, List.getElem?_eq_getElem (by rw [iotaI_length]; omega), iotaI_get]
            rw [List.getElem?_eq_getElem hi] at this
            exact Option.some.inj this
          have hi' : i < p.2.1[j].2.2.1.length := by omega
          rw [hx]
          simp only [getI_lt hi', getI_lt hv]
          constructor
          · unfold impl_ChooseDecision_L1
            simp only [lt_yes hi, if_true, getI_lt hi, hx, getI_lt hj, some_bind', getI_lt hi', getI_lt hv]
            rcases tf (ltZ p.2.1[j].2.2.1[i].1 p.2.1[j].2.2.1[v].1) with q | q <;> simp [-Int.natCast_add, q, idxN hi (Nat.le_refl _) (show (moB b j).length ≤ 1099511627776 by omega)]
          · split
            · exact ⟨i, rfl, hi'⟩
            · exact ⟨v, rfl, hv⟩)
        (fun a _ => by
          unfold impl_ChooseDecision_L1
          simp only [lt_no, Bool.false_eq_true, if_false])
        (a := 0) (s := ((0 : Int), ((moB b j).length : Int), moB b j, p, (j : Int), (0 : Int), (((0, (0, (0, ()))) : D_Literal)), ())) rfl ⟨0, rfl, by omega⟩
      obtain ⟨v, hv, hvl⟩ := (k0 Unit).2
      have k1 := fun A : Type => (k0 A).1
      rw [hv] at k1
      simp only [e2, Bool.false_eq_true, if_false, g0, some_bind', k1]
      exact ⟨_, Dec.mode j v hj hvl (by omega), rfl⟩
theorem plain_FnPicks (c : List Int) : laws_FnPicks (c, ()) () = some (true, ()) := by
  unfold laws_FnPicks
  simp only [lenI_eq]
  rcases tf (ltZ 1048576 (c.length : Int)) with hc | hc
  · have hc' : c.length ≤ 1048576 := by
      rw [Bool.eq_false_iff, Ne, ltZ_iff] at hc
      omega
    obtain ⟨p, hP3, ep⟩ := MakeProject_eq c hc'
    have hP := hP3.mono (show 3 ≤ 6 by omega)
    obtain ⟨b, hB, eb⟩ := MakeBox_eq c hc' p hP
    have hal := hP.al
    have hdl := hP.dl
    have hp : Sm_Project 1099511627776 p := hP.sm (by omega) (by omega)
    have hbs : Sm_Domain 1048576 b := hB.toGenB0.sm hP (by omega)
    have hbs' : Sm_Domain 1099511627776 b := hB.toGenB0.sm hP (by omega)
    have zin : ∀ i (hi : i < p.2.1.length), hasB (moB b i) 0 = true := fun i hi => by
      have hml := (hP.a i hi).ml
      rw [hB.toGenB0.mo hi, hasB_iff]
      exact List.mem_map.2 ⟨0, List.mem_range.2 (by omega), rfl⟩
    rcases Choose_G hP hB with ⟨ec, ho⟩ | ⟨l, hd, ec⟩
    · have hone : ∀ i, i < p.2.1.length → mnB b i = mxB b i ∧ (moB b i).length = 1 := fun i hi => by
        have h := ho i hi
        obtain ⟨v1, v2⟩ := hB.range hi
        have hml := (hP.a i hi).ml
        unfold openD at h
        rw [Bool.or_eq_false_iff, Bool.eq_false_iff, Bool.eq_false_iff, Ne, Ne, ltZ_iff, ltZ_iff] at h
        have hlen : (moB b i).length = p.2.1[i].2.2.1.length := by rw [hB.toGenB0.mo hi, iotaI_length]
        omega
      have hs : SchL p.2.1.length (b.1, (b.2.2.1.map (fun m => (m[0]?).getD 0), ())) := ⟨hB.l.l1, by simpa using hB.l.l3⟩
      have hcon : conB b (b.1, (b.2.2.1.map (fun m => (m[0]?).getD 0), ())) = true := by
        rw [con_iff hB.l hs]
        intro i hi
        obtain ⟨h1, h2⟩ := hone i hi
        have e1 : tsS (b.1, (b.2.2.1.map (fun m => (m[0]?).getD 0), ())) i = mnB b i := rfl
        have e2 : ksS (b.1, (b.2.2.1.map (fun m => (m[0]?).getD 0), ())) i = ((moB b i)[0]?).getD 0 := by
          unfold ksS
          simp only [List.getElem?_map, (hB.l.at hi).2.2, Option.map_some, Option.getD_some]
        rw [e1, e2]
        refine ⟨Int.le_refl _, by omega, ?_⟩
        rw [hasB_iff, List.getElem?_eq_getElem (by omega)]
        exact List.getElem_mem _
      have ess := fun u => SingleSchedule_V hB.l hone (by omega) u
      have ecn := fun u => Contains_impl b (b.1, (b.2.2.1.map (fun m => (m[0]?).getD 0), ())) u hbs' hbs'.1.1
      simp only [hc, Bool.false_eq_true, if_false, ep, eb, ec, some_bind', notB_false, if_true, ess, ecn, hcon]
    · -- one side and the other
      have key : ∀ (k k' : Int) (j v v' : Nat), (k = 1 ∨ k = 2 ∨ k = 3 ∨ k = 4) → (k' = 1 ∨ k' = 2 ∨ k' = 3 ∨ k' = 4) → j < p.2.1.length → v ≤ 62 → v' ≤ 62 →
          (∀ u, impl_Negate ((k, ((j : Int), ((v : Int), ()))), u) () = some ((k', ((j : Int), ((v' : Int), ()))), ())) →
          (∀ u, impl_LiteralOk (p, (k, ((j : Int), ((v : Int), ()))), u) () = some (true, ())) → valV k j v b = 0 →
          emptyB (restV b (k, ((j : Int), ((v : Int), ())))) = false → emptyB (restV b (k', ((j : Int), ((v' : Int), ())))) = false →
          eqDV (restV b (k, ((j : Int), ((v : Int), ())))) b = false → eqDV (restV b (k', ((j : Int), ((v' : Int), ())))) b = false →
          impl_ChooseDecision (p, b, ()) () = some (((k, ((j : Int), ((v : Int), ()))), (true, ())), ()) → laws_FnPicks (c, ()) () = some (true, ()) := by
        intro k k' j v v' hk hk' hj hv hv' hneg hlok hval hx hy hxe hye ec
        obtain ⟨hX, -⟩ := hB.restOk hP hk hj hv
        obtain ⟨hY, -⟩ := hB.restOk hP hk' hj hv'
        have hXs := hX.sm hP (B := 1099511627776) (by omega)
        have hYs := hY.sm hP (B := 1099511627776) (by omega)
        have er := fun u => Restrict_impl b (k, ((j : Int), ((v : Int), ()))) u hbs
        have er' := fun u => Restrict_impl b (k', ((j : Int), ((v' : Int), ()))) u hbs
        have ev := fun u w => LiteralValue_V hB.l hbs' k (v := v) hj u w
        have ee := fun u => DomainEmpty_impl _ u hXs
        have ee' := fun u => DomainEmpty_impl _ u hYs
        have eu := fun u => DomainSubset_V hX.l hB.l hXs hbs' (by omega) u
        have eu' := fun u => DomainSubset_V hY.l hB.l hYs hbs' (by omega) u
        have eq := fun u => DomainEqual_V _ b u hXs
        have eq' := fun u => DomainEqual_V _ b u hYs
        have hsub := hB.restSub (n := p.2.1.length) hk hj hv
        have hsub' := hB.restSub (n := p.2.1.length) hk' hj hv'
        have z0 : eqZ 0 0 = true := rfl
        unfold laws_FnPicks
        simp only [lenI_eq, hc, Bool.false_eq_true, if_false, ep, eb, ec, some_bind', notB_true, er, hneg, er', hlok, if_true, ev, hval, z0, ee, hx, notB_false, ee', hy, eu, hsub, eu', hsub', eq, hxe, eq', hye]
      have hact : ∀ (j : Nat) (u : Unit), j < p.2.1.length → impl_Project_hasActivity (p, (j : Int), u) () = some (true, ()) := fun j u hj => by
        have hin : inB (j : Int) 0 (subZ .i64 (p.2.1.length : Int) 1) = true := by
          rw [inB_iff, subZ64 (by omega) (by omega)]
          omega
        unfold impl_Project_hasActivity
        simp only [within_eq, some_bind', lenI_eq, hin]
      have goal : laws_FnPicks (c, ()) () = some (true, ()) := by
        cases hd with
        | most j m hj hm hmx =>
          obtain ⟨v1, v2⟩ := hB.range hj
          have hm62 : m ≤ 21 := by omega
          obtain ⟨hx, hf⟩ := rest_fn hB.l 2 hj (show m ≤ 62 by omega)
          obtain ⟨hy, hg⟩ := rest_fn hB.l 1 hj (show m + 1 ≤ 62 by omega)
          refine key 2 1 j m (m + 1) (by simp) (by simp) hj (by omega) (by omega) (fun u => ?_) (fun u => ?_) ?_ ?_ ?_ ?_ ?_ ec
          · have hin : inB (m : Int) (-100000) 100000 = true := inB_iff.2 (by omega)
            have e1 : eqZ 2 1 = false := rfl
            have e2 : eqZ 2 2 = true := rfl
            have e3 : addZ .i64 (m : Int) 1 = ((m + 1 : Nat) : Int) := by rw [addZ64 (by omega) (by omega)]; omega
            unfold impl_Negate
            simp only [within_eq, hin, some_bind', notB_true, Bool.false_eq_true, if_false, e1, e2, if_true, e3]
          · have hin : inB (m : Int) (-1) 61 = true := inB_iff.2 (by omega)
            have e1 : eqZ 2 1 = false := rfl
            have e2 : eqZ 2 2 = true := rfl
            unfold impl_LiteralOk
            simp only [ProjectOk_impl _ _ hp, hP.ok (Nat.le_refl _), hact j _ hj, some_bind', notB_true, Bool.false_eq_true, if_false, e1, e2, if_true, within_eq, hin]
          · unfold valV valO
            have q1 : leZ (mxB b j) (m : Int) = false := by rw [Bool.eq_false_iff, Ne, leZ_iff]; omega
            have q2 : ltZ (m : Int) (mnB b j) = false := by rw [Bool.eq_false_iff, Ne, ltZ_iff]; omega
            simp only [show ¬ (2 : Int) = 1 by omega, if_false, if_true, q1, q2, Bool.false_eq_true]
          · refine hx.not_empty_of (f := mnB b) (g := fun _ => 0) fun i hi => ?_
            obtain ⟨f1, f2, f3⟩ := hf i hi
            obtain ⟨w1, w2⟩ := hB.range hi
            rw [f1, f2, f3]
            simp only [show ¬ (2 : Int) = 1 by omega, show ¬ (2 : Int) = 3 by omega, show ¬ (2 : Int) = 4 by omega, false_and, if_false, true_and]
            refine ⟨Int.le_refl _, ?_, zin i hi⟩
            split
            · rename_i e; subst e; unfold minI; split <;> omega
            · exact w2.1
          · refine hy.not_empty_of (f := mxB b) (g := fun _ => 0) fun i hi => ?_
            obtain ⟨f1, f2, f3⟩ := hg i hi
            obtain ⟨w1, w2⟩ := hB.range hi
            rw [f1, f2, f3]
            simp only [show ¬ (1 : Int) = 2 by omega, show ¬ (1 : Int) = 3 by omega, show ¬ (1 : Int) = 4 by omega, false_and, if_false, true_and]
            refine ⟨?_, Int.le_refl _, zin i hi⟩
            split
            · rename_i e; subst e; unfold maxI; split <;> omega
            · exact w2.1
          · rw [Bool.eq_false_iff]
            intro h
            unfold eqDV at h
            simp only [Bool.and_eq_true, decide_eq_true_eq] at h
            have : mxB (restV b (2, ((j : Int), ((m : Int), ())))) j = mxB b j := by unfold mxB; rw [h.2.1]
            rw [(hf j hj).2.1, if_pos ⟨rfl, rfl⟩] at this
            unfold minI at this
            split at this <;> omega
          · rw [Bool.eq_false_iff]
            intro h
            unfold eqDV at h
            simp only [Bool.and_eq_true, decide_eq_true_eq] at h
            have : mnB (restV b (1, ((j : Int), (((m + 1 : Nat) : Int), ())))) j = mnB b j := by unfold mnB; rw [h.1]
            rw [(hg j hj).1, if_pos ⟨rfl, rfl⟩] at this
            unfold maxI at this
            split at this <;> omega
        | mode j v hj hv hlen =>
          have hml := (hP.a j hj).ml
          have hmo := hB.toGenB0.mo hj
          obtain ⟨hx, hf⟩ := rest_fn hB.l 3 hj (show v ≤ 62 by omega)
          obtain ⟨hy, hg⟩ := rest_fn hB.l 4 hj (show v ≤ 62 by omega)
          have hvin : (v : Int) ∈ iotaI p.2.1[j].2.2.1.length := List.mem_map.2 ⟨v, List.mem_range.2 hv, rfl⟩
          have hne : iotaI p.2.1[j].2.2.1.length ≠ [(v : Int)] := fun e => by
            have := congrArg List.length e
            rw [iotaI_length] at this
            simp at this
            omega
          refine key 3 4 j v v (by simp) (by simp) hj (by omega) (by omega) (fun u => ?_) (fun u => ?_) ?_ ?_ ?_ ?_ ?_ ec
          · have hin : inB (v : Int) (-100000) 100000 = true := inB_iff.2 (by omega)
            have e1 : eqZ 3 1 = false := rfl
            have e2 : eqZ 3 2 = false := rfl
            have e3 : eqZ 3 3 = true := rfl
            unfold impl_Negate
            simp only [within_eq, hin, some_bind', notB_true, Bool.false_eq_true, if_false, e1, e2, e3, if_true]
          · have hin : inB (v : Int) 0 (subZ .i64 (p.2.1[j].2.2.1.length : Int) 1) = true := by
              rw [inB_iff, subZ64 (by omega) (by omega)]
              omega
            have e1 : eqZ 3 1 = false := rfl
            have e2 : eqZ 3 2 = false := rfl
            have e3 : eqZ 3 3 = true := rfl
            unfold impl_LiteralOk
            simp only [ProjectOk_impl _ _ hp, hP.ok (Nat.le_refl _), hact j _ hj, some_bind', notB_true, Bool.false_eq_true, if_false, e1, e2, e3, if_true, getI_lt hj, within_eq, lenI_eq, hin]
          · unfold valV onlyV valO
            rw [hmo]
            have h1 : hasB (iotaI p.2.1[j].2.2.1.length) (v : Int) = true := hasB_iff.2 hvin
            simp only [show ¬ (3 : Int) = 1 by omega, show ¬ (3 : Int) = 2 by omega, if_false, if_true, decide_eq_false hne, h1, notB_true, Bool.false_eq_true]
          · refine hx.not_empty_of (f := mnB b) (g := fun i => if i = j then (v : Int) else 0) fun i hi => ?_
            obtain ⟨f1, f2, f3⟩ := hf i hi
            obtain ⟨w1, w2⟩ := hB.range hi
            rw [f1, f2, f3]
            simp only [show ¬ (3 : Int) = 1 by omega, show ¬ (3 : Int) = 2 by omega, show ¬ (3 : Int) = 4 by omega, false_and, if_false, true_and]
            refine ⟨Int.le_refl _, w2.1, ?_⟩
            split
            · rename_i e
              subst e
              rw [hmo, filter_eq_one hv]
              exact hasB_iff.2 (by simp)
            · exact zin i hi
          · refine hy.not_empty_of (f := mnB b) (g := fun i => if i = j then (if v = 0 then 1 else 0) else 0) fun i hi => ?_
            obtain ⟨f1, f2, f3⟩ := hg i hi
            obtain ⟨w1, w2⟩ := hB.range hi
            rw [f1, f2, f3]
            simp only [show ¬ (4 : Int) = 1 by omega, show ¬ (4 : Int) = 2 by omega, show ¬ (4 : Int) = 3 by omega, false_and, if_false, true_and]
            refine ⟨Int.le_refl _, w2.1, ?_⟩
            split
            · rename_i e
              subst e
              rw [hmo, hasB_iff, List.mem_filter]
              split
              · rename_i h0
                subst h0
                exact ⟨List.mem_map.2 ⟨1, List.mem_range.2 (by omega), rfl⟩, rfl⟩
              · rename_i h0
                refine ⟨List.mem_map.2 ⟨0, List.mem_range.2 (by omega), rfl⟩, ?_⟩
                rw [notB_not, Bool.not_eq_true', Bool.eq_false_iff, Ne, eqZ_iff]
                omega
            · exact zin i hi
          · rw [Bool.eq_false_iff]
            intro h
            unfold eqDV at h
            simp only [Bool.and_eq_true, decide_eq_true_eq] at h
            have : moB (restV b (3, ((j : Int), ((v : Int), ())))) j = moB b j := by unfold moB; rw [h.2.2]
            rw [(hf j hj).2.2, if_pos ⟨rfl, rfl⟩, hmo, filter_eq_one hv] at this
            exact hne this.symm
          · rw [Bool.eq_false_iff]
            intro h
            unfold eqDV at h
            simp only [Bool.and_eq_true, decide_eq_true_eq] at h
            have : moB (restV b (4, ((j : Int), ((v : Int), ())))) j = moB b j := by unfold moB; rw [h.2.2]
            rw [(hg j hj).2.2, if_neg (by omega), if_pos ⟨rfl, rfl⟩, hmo] at this
            rw [← this, List.mem_filter, eqZ_self] at hvin
            cases hvin.2
      unfold laws_FnPicks at goal
      simp only [lenI_eq] at goal
      exact goal
  · simp only [hc, if_true]
theorem L_FnPicks (x : Ty.dens H_laws_FnPicks.ps) (h : Ty.fits H_laws_FnPicks.ps x) : laws_FnPicks x () = some (true, ()) := by
  obtain ⟨b, u⟩ := x
  exact plain_FnPicks b
end Go.Proofs.Ytmbknefcilojkaa
