/-
  Plain laws: the literals of a domain; for every code the law FnFacts returns true.
-/
import Derived.Test.YtmbknefcilojkaaGreatz3LBoxM
namespace Go.Proofs.YtmbknefcilojkaaGreat
open Go.Abs
set_option linter.unusedVariables false
set_option linter.unusedSimpArgs false

theorem eqLB_decF {E : Type} [DecidableEq E] (x y : List E) : eqLB (fun a b => decide (a = b)) x y = decide (x = y) := by
  rw [Bool.eq_iff_iff, decide_eq_true_eq]
  unfold eqLB
  rw [Bool.and_eq_true, decide_eq_true_eq, List.all_eq_true]
  constructor
  · rintro ⟨h1, h2⟩
    refine List.ext_getElem h1 fun i a b => ?_
    have := h2 i (by simpa using a)
    rw [List.getElem?_eq_getElem a, List.getElem?_eq_getElem b] at this
    simpa using this
  · rintro rfl
    refine ⟨rfl, fun i hi => ?_⟩
    have hi : i < x.length := by simpa using hi
    rw [List.getElem?_eq_getElem hi]
    simp
theorem EqualF_intsF (x y : List (List Int)) (f : (List Int × List Int × Unit) → Option Bool) (u : Unit) (hx : x.length ≤ 1099511627776) (hf : ∀ a ∈ x, ∀ b, f (a, b, ()) = some (decide (a = b))) : slices_EqualFunc_int_int_int_int (x, y, f, u) () = some (decide (x = y), ()) := by
  rw [← eqLB_decF]
  unfold slices_EqualFunc_int_int_int_int
  simp only [lenI_eq]
  by_cases h : x.length = y.length
  · have e : eqZ (x.length : Int) (y.length : Int) = true := by rw [eqZ_iff, h]
    have l0 := fun A : Type => pairS (A := A) (F := slices_EqualFunc_int_int_int_int_L0) (fun i => ((i : Int), (x.length : Int), x, y, f, ())) (0, (x.length : Int), x, y, f, ()) x y h (fun a b => decide (a = b)) (Sum.inl (false, (x.length : Int), (x.length : Int), x, y, f, ())) (false, ()) rfl hx
      (fun i hi hi' => by
        unfold slices_EqualFunc_int_int_int_int_L0
        simp only [lt_yes hi, if_true, getI_lt hi, getI_lt hi', some_bind', hf _ (List.getElem_mem hi), idxN hi hx (Nat.le_refl _)]
        by_cases q : x[i] = y[i] <;> simp [-Int.natCast_add, q, notB])
      (by unfold slices_EqualFunc_int_int_int_int_L0; simp only [lt_no, Bool.false_eq_true, if_false])
    simp only [e, notB_true, Bool.false_eq_true, if_false, l0]
    cases eqLB (fun a b => decide (a = b)) x y <;> rfl
  · have e : eqZ (x.length : Int) (y.length : Int) = false := by
      rw [Bool.eq_false_iff, Ne, eqZ_iff]
      intro he
      exact h (Int.ofNat.inj he)
    simp only [e, notB_false, if_true, eqLB_len h]
theorem DomainEqual_self (a : D_Domain) (u : Unit) (ha : Sm_Domain 1099511627776 a) : impl_DomainEqual (a, a, u) () = some (true, ()) := by
  have e3 : slices_EqualFunc_int_int_int_int (a.2.2.1, a.2.2.1, (fun v4 => Option.bind (slices_Equal_int_int v4 ()) fun v5 => some v5.1), ()) () = some (decide (a.2.2.1 = a.2.2.1), ()) := by
    refine EqualF_intsF _ _ _ () ha.2.2.1.1 (fun x hx y => ?_)
    simp only [Equal_int _ _ _ (ha.2.2.1.2 x hx).1, some_bind']
  unfold impl_DomainEqual
  simp only [Equal_int _ _ _ ha.1.1, Equal_int _ _ _ ha.2.1.1, some_bind', decide_true, if_true, e3]
theorem box_ext {n : Nat} {x y : D_Domain} (hx : BoxL n x) (hy : BoxL n y) (h : ∀ j, j < n → mnB x j = mnB y j ∧ mxB x j = mxB y j ∧ moB x j = moB y j) : x = y := by
  obtain ⟨x1, x2, x3, u⟩ := x
  obtain ⟨y1, y2, y3, w⟩ := y
  have a1 := hx.l1
  have a2 := hx.l2
  have a3 := hx.l3
  have b1 := hy.l1
  have b2 := hy.l2
  have b3 := hy.l3
  simp only at a1 a2 a3 b1 b2 b3
  have e1 : x1 = y1 := List.ext_getElem? fun i => by
    by_cases hi : i < n
    · have k1 := (hx.at hi).1
      have k2 := (hy.at hi).1
      simp only at k1 k2
      rw [k1, k2, (h i hi).1]
    · rw [List.getElem?_eq_none (by omega), List.getElem?_eq_none (by omega)]
  have e2 : x2 = y2 := List.ext_getElem? fun i => by
    by_cases hi : i < n
    · have k1 := (hx.at hi).2.1
      have k2 := (hy.at hi).2.1
      simp only at k1 k2
      rw [k1, k2, (h i hi).2.1]
    · rw [List.getElem?_eq_none (by omega), List.getElem?_eq_none (by omega)]
  have e3 : x3 = y3 := List.ext_getElem? fun i => by
    by_cases hi : i < n
    · have k1 := (hx.at hi).2.2
      have k2 := (hy.at hi).2.2
      simp only at k1 k2
      rw [k1, k2, (h i hi).2.2]
    · rw [List.getElem?_eq_none (by omega), List.getElem?_eq_none (by omega)]
  rw [e1, e2, e3]
def litsA (p : D_Project) (b : D_Domain) (a : Nat) : List D_Literal :=
  (if ltZ 0 (mnB b a) = true then [(1, ((a : Int), (mnB b a, ())))] else []) ++ (if ltZ (mxB b a) (subZ .i64 p.1 1) = true then [(2, ((a : Int), (mxB b a, ())))] else [])
def litsN (p : D_Project) (b : D_Domain) : Nat → List D_Literal
  | 0 => []
  | k + 1 => litsN p b k ++ litsA p b k
theorem litsA_len (p : D_Project) (b : D_Domain) (a : Nat) : (litsA p b a).length ≤ 2 := by
  unfold litsA
  split <;> split <;> simp
theorem litsN_len (p : D_Project) (b : D_Domain) : ∀ k, (litsN p b k).length ≤ 2 * k
  | 0 => by simp [litsN]
  | k + 1 => by
    have h1 := litsN_len p b k
    have h2 := litsA_len p b k
    simp only [litsN, List.length_append]
    omega
theorem SetOf_nil_i (u : Unit) : impl_SetOf ([], u) () = some ([], ()) := by
  have hb : ∃ v, ∀ u, math_bits_Len (wrapI .u64 (lenI ([] : List Int)), u) () = some (v, ()) := ⟨_, fun _ => rfl⟩
  obtain ⟨v, hv⟩ := hb
  have hi : ∀ u, slices_insertionSortOrdered_int (([] : List Int), 0, lenI ([] : List Int), u) () = some ((), []) := fun u => by
    have l1 := fun A : Type => loop_exit1 (A := A) (F := slices_insertionSortOrdered_int_L1) (s := (addZ .i64 0 1, lenI ([] : List Int), 0, ([] : List Int), ())) (b := Sum.inl (false, addZ .i64 0 1, lenI ([] : List Int), 0, ([] : List Int), ())) rfl
    unfold slices_insertionSortOrdered_int
    simp only [l1, some_bind']
  have big2 : ∃ n, big = n + 1 := ⟨18446744073709551615, rfl⟩
  have hp : ∀ u, slices_pdqsortOrdered_int (([] : List Int), 0, lenI ([] : List Int), v, u) () = some ((), []) := fun u => by
    have e1 : leZ (subZ .i64 (lenI ([] : List Int)) 0) 12 = true := rfl
    have hF : slices_pdqsortOrdered_int_L0 (true, true, lenI ([] : List Int), 0, ([] : List Int), v, ()) = some (.ret ((), [])) := by
      unfold slices_pdqsortOrdered_int_L0
      simp only [e1, if_true, hi, some_bind']
    have l1 : ∀ A : Type, loopN (A := A) big slices_pdqsortOrdered_int_L0 (true, true, lenI ([] : List Int), 0, ([] : List Int), v, ()) = some (.ret ((), [])) := fun A => by
      obtain ⟨n, hn⟩ := big2
      rw [hn]
      simp only [loopN, hF]
      rfl
    unfold slices_pdqsortOrdered_int
    simp only [l1, some_bind']
  have hs : ∀ u, slices_Sort_int_int (([] : List Int), u) () = some ((), []) := fun u => by
    unfold slices_Sort_int_int
    simp only [hv, some_bind', hp]
  have e2 : ltZ (lenI ([] : List Int)) 2 = true := rfl
  unfold impl_SetOf slices_Compact_int_int
  simp only [cloneR [] _ (by simp), some_bind', hs, e2, if_true]
theorem SetDiff_self (l : List Int) (u : Unit) (hl : l.length ≤ 1048576) : impl_SetDifference (l, l, u) () = some ([], ()) := by
  have hf : l.filter (fun x => notB (hasB l x)) = [] := by
    rw [List.filter_eq_nil_iff]
    intro x hx h
    rw [hasB_iff.2 hx] at h
    cases h
  unfold impl_SetDifference
  rw [keptV l _ (fun x => notB (hasB l x)) () hl (fun a _ => by
    unfold impl_SetDifference_1
    simp only [SetHas_impl _ _ _ (show l.length ≤ 1099511627776 by omega), some_bind'])]
  simp only [hf, some_bind', SetOf_nil_i]
theorem DomainLiterals_G {p : D_Project} {b : D_Domain} (hP : GenP 6 p) (hB : GenB p b) (u : Unit) : impl_DomainLiterals (p, b, u) () = some (litsN p b p.2.1.length, ()) := by
  have hp : Sm_Project 1099511627776 p := hP.sm (by omega) (by omega)
  have hbs : Sm_Domain 1099511627776 b := hB.toGenB0.sm hP (by omega)
  have hal := hP.al
  have l0 := fun A : Type => fold_loop (A := A) (F := impl_DomainLiterals_L1) (fun i (out : List D_Literal) => ((i : Int), (p.2.1.length : Int), p.2.1, p, b, out, ())) p.2.1.length (fun i out => out = litsN p b i) (fun i _ => litsN p b (i + 1))
    (fun out => Sum.inl (false, (p.2.1.length : Int), (p.2.1.length : Int), p.2.1, p, b, out, ())) (by omega)
    (fun i out hi ho => by
      subst ho
      obtain ⟨g1, g2, g3⟩ := hB.l.get hi
      have hml := (hP.a i hi).ml
      have hmo := hB.toGenB0.mo hi
      have hlen := litsN_len p b i
      have ha : ∀ (o : List D_Literal) (x : D_Literal), o.length ≤ 100 → addI o [x] = some (o ++ [x]) := fun o x h => addI_ok (by rw [room_eq]; simp; omega)
      have a1 := ha (litsN p b i) (1, ((i : Int), (mnB b i, ()))) (by omega)
      have a2 := ha (litsN p b i ++ [(1, ((i : Int), (mnB b i, ())))]) (2, ((i : Int), (mxB b i, ()))) (by simp; omega)
      have a3 := ha (litsN p b i) (2, ((i : Int), (mxB b i, ()))) (by omega)
      have em : ∀ u, impl_ModeIndexes (p.2.1[i], u) () = some (iotaI p.2.1[i].2.2.1.length, ()) := fun u => ModeIndexes_i _ u (by omega)
      have ed : ∀ u, impl_SetDifference (iotaI p.2.1[i].2.2.1.length, moB b i, u) () = some ([], ()) := fun u => by
        rw [hmo]; exact SetDiff_self _ u (by rw [iotaI_length]; omega)
      have k0 : ∀ (o : List D_Literal) (A : Type), loopN (A := A) big impl_DomainLiterals_L0 (0, (([] : List Int).length : Int), ([] : List Int), (i : Int), (i : Int), (p.2.1.length : Int), p.2.1, p, b, o, ()) = some (.exit (Sum.inl (false, 0, (([] : List Int).length : Int), ([] : List Int), (i : Int), (i : Int), (p.2.1.length : Int), p.2.1, p, b, o, ()))) := fun o A => loop_exit1 (by
        unfold impl_DomainLiterals_L0
        rfl)
      refine ⟨?_, rfl⟩
      unfold impl_DomainLiterals_L1
      simp only [lt_yes hi, if_true, getI_lt hi, g1, some_bind']
      simp only [litsN, litsA]
      rcases tf (ltZ 0 (mnB b i)) with q1 | q1 <;> rcases tf (ltZ (mxB b i) (subZ .i64 p.1 1)) with q2 | q2
      · simp only [q1, q2, Bool.false_eq_true, if_false, some_bind', g2, em, g3, ed, lenI_eq, k0, idxN hi (Nat.le_refl _) (show p.2.1.length ≤ 1099511627776 by omega), List.append_nil]
      · simp only [q1, q2, Bool.false_eq_true, if_false, if_true, some_bind', g2, a3, em, g3, ed, lenI_eq, k0, idxN hi (Nat.le_refl _) (show p.2.1.length ≤ 1099511627776 by omega), List.nil_append]
      · simp only [q1, q2, Bool.false_eq_true, if_false, if_true, some_bind', g1, g2, a1, em, g3, ed, lenI_eq, k0, idxN hi (Nat.le_refl _) (show p.2.1.length ≤ 1099511627776 by omega), List.append_nil]
      · simp only [q1, q2, if_true, some_bind', g1, g2, a1, a2, em, g3, ed, lenI_eq, k0, idxN hi (Nat.le_refl _) (show p.2.1.length ≤ 1099511627776 by omega), List.append_assoc])
    (fun out _ => by
      unfold impl_DomainLiterals_L1
      simp only [lt_no, Bool.false_eq_true, if_false])
    (a := []) rfl
  have hI := (l0 Unit).2
  have l1 := fun A : Type => (l0 A).1
  rw [hI] at l1
  have e0 : (((0 : Nat) : Int), (p.2.1.length : Int), p.2.1, p, b, ([] : List D_Literal), ()) = ((0 : Int), (p.2.1.length : Int), p.2.1, p, b, ([] : List D_Literal), ()) := rfl
  rw [e0] at l1
  unfold impl_DomainLiterals
  simp only [DomainForm_impl _ _ _ hp hbs, hB.toGenB0.dom hP, some_bind', notB_true, Bool.false_eq_true, if_false, lenI_eq, l1]
/-- a literal that says what a domain says -/
def LitOf (p : D_Project) (b : D_Domain) (l : D_Literal) : Prop := ∃ (i v : Nat), i < p.2.1.length ∧ v ≤ 22 ∧ ((l = (1, ((i : Int), ((v : Int), ()))) ∧ mnB b i = (v : Int)) ∨ (l = (2, ((i : Int), ((v : Int), ()))) ∧ mxB b i = (v : Int)))
theorem litsN_of {p : D_Project} {b : D_Domain} (hP : GenP 6 p) (hB : GenB p b) : ∀ k, k ≤ p.2.1.length → ∀ l ∈ litsN p b k, LitOf p b l
  | 0, _, l, hl => by simp [litsN] at hl
  | k + 1, hk, l, hl => by
    have hdl := hP.dl
    simp only [litsN, List.mem_append] at hl
    rcases hl with hl | hl
    · exact litsN_of hP hB k (by omega) l hl
    · obtain ⟨v1, v2⟩ := hB.range (show k < p.2.1.length by omega)
      unfold litsA at hl
      rcases List.mem_append.1 hl with hl | hl
      · split at hl
        · refine ⟨k, (mnB b k).toNat, by omega, by omega, .inl ⟨?_, by omega⟩⟩
          rw [List.mem_singleton.1 hl, show (((mnB b k).toNat : Nat) : Int) = mnB b k by omega]
        · simp at hl
      · split at hl
        · refine ⟨k, (mxB b k).toNat, by omega, by omega, .inr ⟨?_, by omega⟩⟩
          rw [List.mem_singleton.1 hl, show (((mxB b k).toNat : Nat) : Int) = mxB b k by omega]
        · simp at hl
/-- the literals, one after the other, cut the first domain down to this one -/
theorem litsN_rest {p : D_Project} {b : D_Domain} (hP : GenP 6 p) (hB : GenB p b) : ∀ k, k ≤ p.2.1.length → BoxL p.2.1.length ((litsN p b k).foldl restV (initD p)) ∧ ∀ j, j < p.2.1.length →
    mnB ((litsN p b k).foldl restV (initD p)) j = (if j < k then mnB b j else 0) ∧ mxB ((litsN p b k).foldl restV (initD p)) j = (if j < k then mxB b j else p.1 - 1) ∧ moB ((litsN p b k).foldl restV (initD p)) j = moB b j
  | 0, _ => by
    have hI := GenB0.init hP
    have hdl := hP.dl
    have hs : subZ .i64 p.1 1 = p.1 - 1 := subZ64 (by omega) (by omega)
    refine ⟨hI.l, fun j hj => ?_⟩
    simp only [litsN, List.foldl_nil, Nat.not_lt_zero, if_false]
    refine ⟨?_, ?_, ?_⟩
    · unfold mnB initD
      simp only [List.getElem?_map, List.getElem?_eq_getElem hj, Option.map_some, Option.getD_some]
    · unfold mxB initD
      simp only [List.getElem?_map, List.getElem?_eq_getElem hj, Option.map_some, Option.getD_some, hs]
    · rw [hI.toGenB0.mo hj, hB.toGenB0.mo hj]
  | k + 1, hk => by
    obtain ⟨h1, h2⟩ := litsN_rest hP hB k (by omega)
    have hdl := hP.dl
    have hs : subZ .i64 p.1 1 = p.1 - 1 := subZ64 (by omega) (by omega)
    have hkl : k < p.2.1.length := by omega
    obtain ⟨v1, v2⟩ := hB.range hkl
    obtain ⟨m, hm⟩ : ∃ m : Nat, mnB b k = (m : Int) := ⟨(mnB b k).toNat, by omega⟩
    obtain ⟨w, hw⟩ : ∃ w : Nat, mxB b k = (w : Int) := ⟨(mxB b k).toNat, by omega⟩
    simp only [litsN, List.foldl_append]
    generalize (litsN p b k).foldl restV (initD p) = x at h1 h2
    -- the first literal
    have s1 : ∃ y, (if ltZ 0 (mnB b k) = true then [((1, ((k : Int), (mnB b k, ()))) : D_Literal)] else []).foldl restV x = y ∧ BoxL p.2.1.length y ∧ ∀ j, j < p.2.1.length → mnB y j = (if j < k + 1 then mnB b j else 0) ∧ mxB y j = (if j < k then mxB b j else p.1 - 1) ∧ moB y j = moB b j := by
      rcases tf (ltZ 0 (mnB b k)) with q | q
      · have q0 : mnB b k = 0 := by
          rw [Bool.eq_false_iff, Ne, ltZ_iff] at q
          omega
        simp only [q, Bool.false_eq_true, if_false, List.foldl_nil]
        refine ⟨x, rfl, h1, fun j hj => ?_⟩
        obtain ⟨f1, f2, f3⟩ := h2 j hj
        refine ⟨?_, f2, f3⟩
        rw [f1]
        by_cases e : j = k
        · subst e; rw [if_neg (by omega), if_pos (by omega), q0]
        · by_cases e2 : j < k
          · rw [if_pos e2, if_pos (by omega)]
          · rw [if_neg e2, if_neg (by omega)]
      · simp only [q, if_true, List.foldl_cons, List.foldl_nil]
        obtain ⟨hx, hf⟩ := rest_fn h1 1 hkl (show m ≤ 62 by omega)
        rw [hm]
        refine ⟨_, rfl, hx, fun j hj => ?_⟩
        obtain ⟨f1, f2, f3⟩ := hf j hj
        obtain ⟨e1, e2, e3⟩ := h2 j hj
        refine ⟨?_, ?_, ?_⟩
        · rw [f1, e1]
          by_cases e : j = k
          · subst e
            rw [if_pos ⟨rfl, rfl⟩, if_neg (by omega), if_pos (by omega), hm]
            unfold maxI
            split <;> omega
          · rw [if_neg (fun h => e h.2)]
            by_cases e2 : j < k
            · rw [if_pos e2, if_pos (by omega)]
            · rw [if_neg e2, if_neg (by omega)]
        · rw [f2, if_neg (by omega), e2]
        · rw [f3, if_neg (by omega), if_neg (by omega), e3]
    obtain ⟨y, ey, hy, hyf⟩ := s1
    unfold litsA
    rw [List.foldl_append, ey, hs]
    rcases tf (ltZ (mxB b k) (p.1 - 1)) with q | q
    · have q0 : mxB b k = p.1 - 1 := by
        rw [Bool.eq_false_iff, Ne, ltZ_iff] at q
        omega
      simp only [q, Bool.false_eq_true, if_false, List.foldl_nil]
      refine ⟨hy, fun j hj => ?_⟩
      obtain ⟨f1, f2, f3⟩ := hyf j hj
      refine ⟨f1, ?_, f3⟩
      rw [f2]
      by_cases e : j = k
      · subst e; rw [if_neg (by omega), if_pos (by omega), q0]
      · by_cases e2 : j < k
        · rw [if_pos e2, if_pos (by omega)]
        · rw [if_neg e2, if_neg (by omega)]
    · simp only [q, if_true, List.foldl_cons, List.foldl_nil]
      obtain ⟨hx, hf⟩ := rest_fn hy 2 hkl (show w ≤ 62 by omega)
      rw [hw]
      refine ⟨hx, fun j hj => ?_⟩
      obtain ⟨f1, f2, f3⟩ := hf j hj
      obtain ⟨e1, e2, e3⟩ := hyf j hj
      refine ⟨?_, ?_, ?_⟩
      · rw [f1, if_neg (by omega), e1]
      · rw [f2, e2]
        by_cases e : j = k
        · subst e
          rw [if_pos ⟨rfl, rfl⟩, if_neg (by omega), if_pos (by omega), hw]
          unfold minI
          split <;> omega
        · rw [if_neg (fun h => e h.2)]
          by_cases e2 : j < k
          · rw [if_pos e2, if_pos (by omega)]
          · rw [if_neg e2, if_neg (by omega)]
      · rw [f3, if_neg (by omega), if_neg (by omega), e3]
theorem litsN_all {p : D_Project} {b : D_Domain} (hP : GenP 6 p) (hB : GenB p b) : (litsN p b p.2.1.length).foldl restV (initD p) = b := by
  obtain ⟨h1, h2⟩ := litsN_rest hP hB p.2.1.length (Nat.le_refl _)
  refine box_ext h1 hB.l fun j hj => ?_
  obtain ⟨f1, f2, f3⟩ := h2 j hj
  exact ⟨by rw [f1, if_pos hj], by rw [f2, if_pos hj], f3⟩
theorem InitialDomain_I {p : D_Project} (hP : GenP 6 p) (u : Unit) : impl_InitialDomain (p, u) () = some (initD p, ()) := by
  have hp : Sm_Project 1099511627776 p := hP.sm (by omega) (by omega)
  rw [InitialDomain_impl p u hp]
  unfold initV
  rw [if_pos (hP.ok (Nat.le_refl _))]
theorem plain_FnFacts (c : List Int) : laws_FnFacts (c, ()) () = some (true, ()) := by
  unfold laws_FnFacts
  simp only [lenI_eq]
  rcases tf (ltZ 1048576 (c.length : Int)) with hc | hc
  · have hc' : c.length ≤ 1048576 := by
      rw [Bool.eq_false_iff, Ne, ltZ_iff] at hc
      omega
    obtain ⟨p, hP3, ep⟩ := MakeProject_eq c hc'
    have hP := hP3.mono (show 3 ≤ 6 by omega)
    obtain ⟨b, hB, eb⟩ := MakeBox_eq c hc' p hP
    have hal := hP.al
    have hdl := hP.dl
    have hp : Sm_Project 1099511627776 p := hP.sm (by omega) (by omega)
    have hbs' : Sm_Domain 1099511627776 b := hB.toGenB0.sm hP (by omega)
    have hI := GenB0.init hP
    have hIs : Sm_Domain 1099511627776 (initD p) := hI.toGenB0.sm hP (by omega)
    obtain ⟨L, hL⟩ : ∃ L, L = litsN p b p.2.1.length := ⟨_, rfl⟩
    have hLl : L.length ≤ 1000 := by
      have := litsN_len p b p.2.1.length
      rw [hL]; omega
    have hLo : ∀ l ∈ L, LitOf p b l := by rw [hL]; exact litsN_of hP hB _ (Nat.le_refl _)
    have hact : ∀ (j : Nat) (u : Unit), j < p.2.1.length → impl_Project_hasActivity (p, (j : Int), u) () = some (true, ()) := fun j u hj => by
      have hin : inB (j : Int) 0 (subZ .i64 (p.2.1.length : Int) 1) = true := by
        rw [inB_iff, subZ64 (by omega) (by omega)]
        omega
      unfold impl_Project_hasActivity
      simp only [within_eq, some_bind', lenI_eq, hin]
    have l0 := fun A : Type => fold_list (A := A) (F := laws_FnFacts_L0) (fun i (x : D_Domain) => ((i : Int), (L.length : Int), L, b, p, x, ())) L (fun _ x => BoxOk p x) restV
      (fun x => Sum.inl (false, (L.length : Int), (L.length : Int), L, b, p, x, ())) (by omega)
      (fun t x ht hx => by
        obtain ⟨i, v, hi, hv, hl⟩ := hLo _ (List.getElem_mem ht)
        have hin : inB (v : Int) (-1) 61 = true := inB_iff.2 (by omega)
        have hxs := hx.sm hP (B := 1048576) (by omega)
        rcases hl with ⟨hl, hm⟩ | ⟨hl, hm⟩
        · rw [hl]
          refine ⟨?_, hx.rest 1 hi (by omega)⟩
          have e1 : eqZ 1 1 = true := rfl
          have ok : ∀ u, impl_LiteralOk (p, (1, ((i : Int), ((v : Int), ()))), u) () = some (true, ()) := fun u => by
            unfold impl_LiteralOk
            simp only [ProjectOk_impl _ _ hp, hP.ok (Nat.le_refl _), hact i _ hi, some_bind', notB_true, Bool.false_eq_true, if_false, e1, if_true, within_eq, hin]
          have ev : ∀ u, impl_LiteralValue (b, (1, ((i : Int), ((v : Int), ()))), u) () = some (1, ()) := fun u => by
            rw [LiteralValue_V hB.l hbs' 1 (v := v) hi u ()]
            unfold valV valO
            have q : leZ (v : Int) (mnB b i) = true := by rw [leZ_iff]; omega
            rw [if_pos rfl, if_pos q]
          unfold laws_FnFacts_L0
          simp only [lt_yes ht, if_true, getI_lt ht, hl, some_bind', ok, notB_true, Bool.false_eq_true, if_false, ev, e1, Restrict_impl x _ _ hxs, idxN ht (Nat.le_refl _) (show L.length ≤ 1099511627776 by omega)]
        · rw [hl]
          refine ⟨?_, hx.rest 2 hi (by omega)⟩
          have e0 : eqZ 2 1 = false := rfl
          have e1 : eqZ 2 2 = true := rfl
          have e2 : eqZ 1 1 = true := rfl
          have ok : ∀ u, impl_LiteralOk (p, (2, ((i : Int), ((v : Int), ()))), u) () = some (true, ()) := fun u => by
            unfold impl_LiteralOk
            simp only [ProjectOk_impl _ _ hp, hP.ok (Nat.le_refl _), hact i _ hi, some_bind', notB_true, Bool.false_eq_true, if_false, e0, e1, if_true, within_eq, hin]
          have ev : ∀ u, impl_LiteralValue (b, (2, ((i : Int), ((v : Int), ()))), u) () = some (1, ()) := fun u => by
            rw [LiteralValue_V hB.l hbs' 2 (v := v) hi u ()]
            unfold valV valO
            have q : leZ (mxB b i) (v : Int) = true := by rw [leZ_iff]; omega
            rw [if_neg (by omega), if_pos rfl, if_pos q]
          unfold laws_FnFacts_L0
          simp only [lt_yes ht, if_true, getI_lt ht, hl, some_bind', ok, notB_true, Bool.false_eq_true, if_false, ev, e2, Restrict_impl x _ _ hxs, idxN ht (Nat.le_refl _) (show L.length ≤ 1099511627776 by omega)])
      (fun x _ => by
        unfold laws_FnFacts_L0
        simp only [lt_no, Bool.false_eq_true, if_false])
      (a := initD p) (s := ((0 : Int), (L.length : Int), L, b, p, initD p, ())) rfl (hI.toGenB0.ok hP)
    have l1 := fun A : Type => (l0 A).1
    have hfin : L.foldl restV (initD p) = b := by rw [hL]; exact litsN_all hP hB
    rw [hfin] at l1
    have hsub : subD p.2.1.length b (initD p) = true := by
      unfold subD
      rw [List.all_eq_true]
      intro j hj
      have hj : j < p.2.1.length := by simpa using hj
      obtain ⟨v1, v2⟩ := hB.range hj
      obtain ⟨-, h2⟩ := litsN_rest hP hB 0 (by omega)
      obtain ⟨f1, f2, f3⟩ := h2 j hj
      simp only [litsN, List.foldl_nil, Nat.not_lt_zero, if_false] at f1 f2 f3
      unfold subDI
      rw [f1, f2, f3, Bool.and_eq_true, Bool.and_eq_true, notB_not, notB_not, Bool.not_eq_true', Bool.not_eq_true', Bool.eq_false_iff, Bool.eq_false_iff, Ne, Ne, ltZ_iff, ltZ_iff, subB_iff]
      exact ⟨by omega, by omega, fun x hx => hx⟩
    simp only [hc, Bool.false_eq_true, if_false, ep, eb, some_bind', InitialDomain_I hP, DomainLiterals_G hP hB]
    rw [← hL]
    simp only [l1, some_bind', DomainEqual_self _ _ hbs', if_true, InitialDomain_I hP, DomainSubset_V hB.l hI.l hbs' hIs (show p.2.1.length ≤ 1099511627776 by omega), hsub, DomainForm_impl _ _ _ hp hbs', hB.toGenB0.dom hP]
  · simp only [hc, if_true]
theorem L_FnFacts (x : Ty.dens H_laws_FnFacts.ps) (h : Ty.fits H_laws_FnFacts.ps x) : laws_FnFacts x () = some (true, ()) := by
  obtain ⟨b, u⟩ := x
  exact plain_FnFacts b
end Go.Proofs.YtmbknefcilojkaaGreat
