/-
  Plain laws: unit propagation: both programs take the same rounds, and come to an end. Condition: no list is longer than 2 to the 20.
-/
import Derived.Test.YtjgmjljdhgfdhaaGreatj4LUnitV
namespace Go.Proofs.YtjgmjljdhgfdhaaGreat
open Go.Abs
set_option linter.unusedVariables false
set_option linter.unusedSimpArgs false

theorem hit_one (b : D_Domain) (l : List D_Literal) (u w : Unit) (hb : Sm_Domain 1099511627776 b) (hl : l.length ≤ 1099511627776) : impl_UnitPropagate_1 (l, u) (b, w) = some (hitV (litQ b) l, ()) := by
  unfold impl_UnitPropagate_1 hitV
  simp only [ClauseStatus_iU b l _ hb hl, some_bind']
  rcases statV_cases (litQ b) l with h | h | h | ⟨x, hx, h0, h⟩
  · rw [h]; rfl
  · rw [h]; rfl
  · rw [h]; rfl
  · rw [h]
    have hk : eqZ x.1 0 = false := by
      rw [Bool.eq_false_iff, Ne, eqZ_iff]
      exact litQ_kind h0
    have e1 : ltZ (0 : Int) 0 = false := rfl
    have e2 : eqZ (0 : Int) 0 = true := rfl
    simp only [e1, e2, hk, Bool.false_eq_true, if_false, if_true, some_bind', iteB_ite, notB_false, Bool.false_or, Bool.true_and]
theorem IndexFunc_U (ls : List (List D_Literal)) (g : (List D_Literal × Unit) → Option Bool) (q : List D_Literal → Bool) (u : Unit) (hl : ls.length ≤ 1099511627776) (hg : ∀ a ∈ ls, g (a, ()) = some (q a)) : slices_IndexFunc_impl_Literal_impl_Literal (ls, g, u) () = some (idxOf q ls, ()) := by
  unfold slices_IndexFunc_impl_Literal_impl_Literal idxOf
  simp only [lenI_eq]
  rw [findS (F := slices_IndexFunc_impl_Literal_impl_Literal_L0) (fun i => ((i : Int), (ls.length : Int), g, ls, ())) (0, (ls.length : Int), g, ls, ()) ls q (Sum.inl (false, (ls.length : Int), (ls.length : Int), g, ls, ())) (fun i => ((i : Int), ())) rfl hl
    (fun i hi => by
      unfold slices_IndexFunc_impl_Literal_impl_Literal_L0
      simp only [lt_yes hi, if_true, getI_lt hi, some_bind', hg _ (List.getElem_mem hi), idxN hi hl (Nat.le_refl _)]
      generalize q _ = r
      cases r <;> rfl)
    (by unfold slices_IndexFunc_impl_Literal_impl_Literal_L0; simp only [lt_no, Bool.false_eq_true, if_false])]
  cases ls.findIdx? q <;> rfl
/-- what the reference's round finds -/
def stepV (f : D_Literal → Int) (ls : List (List D_Literal)) : Int × D_Literal := match ls.findIdx? (hitV f) with
  | some i => match ls[i]? with
    | some l => if (statV f l).1 < 0 then (1, zL) else (2, (statV f l).2)
    | none => (0, zL)
  | none => (0, zL)
theorem Step_U (b : D_Domain) (ls : List (List D_Literal)) (u : Unit) (hb : Sm_Domain 1099511627776 b) (hl : ls.length ≤ 1099511627776 ∧ ∀ l ∈ ls, l.length ≤ 1099511627776) : spec_l20Step (ls, b, u) () = some (((stepV (litQ b) ls).1, (stepV (litQ b) ls).2, ()), ()) := by
  unfold spec_l20Step stepV
  have l0 := fun A : Type => findS (A := A) (F := spec_l20Step_L0) (fun i => ((i : Int), (ls.length : Int), ls, b, zL, ())) (0, (ls.length : Int), ls, b, zL, ()) ls (hitV (litQ b)) (Sum.inl (false, (ls.length : Int), (ls.length : Int), ls, b, zL, ()))
    (fun i => match ls[i]? with
      | some l => if (statV (litQ b) l).1 < 0 then ((1, zL, ()), ()) else ((2, (statV (litQ b) l).2, ()), ())
      | none => ((0, zL, ()), ())) rfl hl.1
    (fun i hi => by
      unfold spec_l20Step_L0
      simp only [lt_yes hi, if_true, getI_lt hi, some_bind', ClauseStatus_sU b _ _ hb (hl.2 _ (List.getElem_mem hi)), idxN hi hl.1 (Nat.le_refl _), List.getElem?_eq_getElem hi]
      unfold hitV
      rcases statV_cases (litQ b) ls[i] with h | h | h | ⟨x, hx, h0, h⟩
      · rw [h]
        have e1 : eqZ (1 : Int) (-1) = false := rfl
        have e2 : eqZ (1 : Int) 0 = false := rfl
        have e3 : ltZ (1 : Int) 0 = false := rfl
        simp only [e1, e2, e3, Bool.false_eq_true, if_false, some_bind', idxN hi hl.1 (Nat.le_refl _), Bool.false_and, Bool.or_self]
      · rw [h]; rfl
      · rw [h]
        have e1 : eqZ (0 : Int) (-1) = false := rfl
        have e2 : eqZ (0 : Int) 0 = true := rfl
        have e3 : ltZ (0 : Int) 0 = false := rfl
        simp only [e1, e2, e3, Bool.false_eq_true, if_false, if_true, some_bind', idxN hi hl.1 (Nat.le_refl _), notB_true, Bool.and_false, Bool.or_self]
      · rw [h]
        have hk : eqZ x.1 0 = false := by
          rw [Bool.eq_false_iff, Ne, eqZ_iff]
          exact litQ_kind h0
        have e1 : eqZ (0 : Int) (-1) = false := rfl
        have e2 : eqZ (0 : Int) 0 = true := rfl
        have e3 : ltZ (0 : Int) 0 = false := rfl
        have e4 : ¬ (0 : Int) < 0 := by decide
        simp only [e1, e2, e3, hk, Bool.false_eq_true, if_false, if_true, some_bind', notB_false, Bool.and_true, Bool.false_or]
        rw [if_neg e4])
    (by
      unfold spec_l20Step_L0
      simp only [lt_no, Bool.false_eq_true, if_false])
  simp only [lenI_eq, l0, some_bind']
  cases hfi : ls.findIdx? (hitV (litQ b)) with
  | none => rfl
  | some i =>
    simp only [some_bind']
    cases ls[i]? with
    | none => rfl
    | some l =>
      simp only
      split <;> rfl
/-- the rounds -/
def upV (ls : List (List D_Literal)) : Nat → D_Domain → Option (D_Domain × Bool)
  | 0, _ => none
  | k + 1, b => if emptyB b = true then some (b, true) else match ls.findIdx? (hitV (litQ b)) with
    | none => some (b, false)
    | some i => match ls[i]? with
      | none => none
      | some l => if (statV (litQ b) l).1 < 0 then some (b, true) else upV ls k (restV b (statV (litQ b) l).2)
/-- what holds of the domain all along -/
def UpI (b : D_Domain) : Prop := DomOk b ∧ (∀ x ∈ b.1, -2 ≤ x ∧ x ≤ 62) ∧ (∀ x ∈ b.2.1, -2 ≤ x ∧ x ≤ 62) ∧ ∀ m ∈ b.2.2.1, ∀ z ∈ m, -2 ≤ z ∧ z ≤ 62
theorem UpI.sm {b : D_Domain} (h : UpI b) : Sm_Domain 1048576 b := h.1.sm (by omega)
theorem UpI.sm' {b : D_Domain} (h : UpI b) : Sm_Domain 1099511627776 b := h.1.sm (by omega)
theorem clampV_in (n : Int) : -2 ≤ clampV n ∧ clampV n ≤ 62 := by unfold clampV minI maxI; split <;> split <;> omega
theorem clampV_id {n : Int} (h : -2 ≤ n ∧ n ≤ 62) : clampV n = n := by unfold clampV minI maxI; split <;> split <;> omega
theorem UpI.rest {b : D_Domain} (h : UpI b) (l : D_Literal) : UpI (restV b l) := by
  refine ⟨h.1.rest l, ?_⟩
  have hc := clampV_in l.2.2.1
  obtain ⟨-, h2, h3, h4⟩ := h
  have keep : ∀ (q : Int → Bool), ∀ m ∈ setI b.2.2.1 l.2.1 (fun m => m.filter q), ∀ z ∈ m, -2 ≤ z ∧ z ≤ 62 := fun q m hm z hz => by
    rcases mem_modify1 hm with hm | ⟨x, hx, rfl⟩
    · exact h4 m hm z hz
    · exact h4 x hx z (List.mem_filter.1 hz).1
  unfold restV
  split
  · split
    · refine ⟨fun x hx => ?_, h3, h4⟩
      rcases mem_modify1 hx with hx | ⟨y, hy, rfl⟩
      · exact h2 x hx
      · have := h2 y hy
        unfold maxI
        split <;> omega
    · split
      · refine ⟨h2, fun x hx => ?_, h4⟩
        rcases mem_modify1 hx with hx | ⟨y, hy, rfl⟩
        · exact h3 x hx
        · have := h3 y hy
          unfold minI
          split <;> omega
      · split
        · exact ⟨h2, h3, keep _⟩
        · split
          · exact ⟨h2, h3, keep _⟩
          · exact ⟨h2, h3, h4⟩
  · exact ⟨h2, h3, h4⟩
def sumU : List Int → Int
  | [] => 0
  | x :: l => x + sumU l
theorem sumU_modify (f : Int → Int) : ∀ (l : List Int) (i : Nat) (h : i < l.length), sumU (l.modify i f) = sumU l + f l[i] - l[i]
  | [], i, h => by simp at h
  | x :: l, 0, h => by simp [sumU]; omega
  | x :: l, i + 1, h => by
    have := sumU_modify f l i (by simpa using h)
    simp only [List.modify_succ_cons, sumU, List.getElem_cons_succ, this]
    omega
theorem sumU_in {lo hi : Int} (h0 : lo ≤ 0) (h1 : 0 ≤ hi) : ∀ {l : List Int}, (∀ x ∈ l, lo ≤ x ∧ x ≤ hi) → l.length ≤ 6 → 6 * lo ≤ sumU l ∧ sumU l ≤ 6 * hi := by
  have key : ∀ (l : List Int), (∀ x ∈ l, lo ≤ x ∧ x ≤ hi) → (l.length : Int) * lo ≤ sumU l ∧ sumU l ≤ (l.length : Int) * hi := by
    intro l
    induction l with
    | nil => intro _; simp [sumU]
    | cons x l ih =>
      intro h
      have hx := h x (List.mem_cons_self ..)
      have := ih fun y hy => h y (List.mem_cons_of_mem _ hy)
      simp only [sumU, List.length_cons, Int.natCast_add, Int.add_mul]
      omega
  intro l h hl
  have := key l h
  have a1 : 6 * lo ≤ (l.length : Int) * lo := by
    have : (l.length : Int) ≤ 6 := by omega
    have := Int.mul_le_mul_of_nonpos_right this h0
    omega
  have a2 : (l.length : Int) * hi ≤ 6 * hi := Int.mul_le_mul_of_nonneg_right (by omega) h1
  omega
def lenU (l : List (List Int)) : Int := sumU (l.map fun m => (m.length : Int))
def muU (b : D_Domain) : Int := sumU b.2.1 - sumU b.1 + lenU b.2.2.1
theorem lenU_modify (q : List Int → List Int) (l : List (List Int)) (i : Nat) (h : i < l.length) : lenU (l.modify i q) = lenU l + ((q l[i]).length : Int) - (l[i].length : Int) := by
  unfold lenU
  have : ∀ (l : List (List Int)) (i : Nat) (h : i < l.length), sumU ((l.modify i q).map fun m => (m.length : Int)) = sumU (l.map fun m => (m.length : Int)) + ((q l[i]).length : Int) - (l[i].length : Int) := by
    intro l
    induction l with
    | nil => intro i h; simp at h
    | cons x l ih =>
      intro i h
      cases i with
      | zero => simp [sumU]; omega
      | succ i =>
        have := ih i (by simpa using h)
        simp only [List.modify_succ_cons, List.map_cons, sumU, List.getElem_cons_succ, this]
        omega
  exact this l i h
theorem UpI.mu {b : D_Domain} (h : UpI b) : -400 ≤ muU b ∧ muU b ≤ 500 := by
  obtain ⟨⟨l1, l2, l3, l4⟩, h2, h3, -⟩ := h
  have a1 := sumU_in (by decide) (by decide) h2 l1
  have a2 := sumU_in (by decide) (by decide) h3 l2
  have a3 : 6 * 0 ≤ lenU b.2.2.1 ∧ lenU b.2.2.1 ≤ 6 * 6 := sumU_in (by decide) (by decide) (fun x hx => by
    obtain ⟨m, hm, rfl⟩ := List.mem_map.1 hx
    have := (l4 m hm).2
    omega) (by simpa using l3)
  unfold muU
  omega
theorem filter_lt {m : List Int} {q : Int → Bool} {v : Int} (hv : v ∈ m) (hq : q v = false) : (m.filter q).length < m.length := by
  rcases Nat.lt_or_ge (m.filter q).length m.length with h | h
  · exact h
  · exfalso
    have := (List.length_filter_eq_length_iff.1 (Nat.le_antisymm (List.length_filter_le _ _) h)) v hv
    rw [hq] at this
    cases this
theorem hasB_memU {l : List Int} {n : Int} (h : hasB l n = true) : n ∈ l := by
  unfold hasB at h
  obtain ⟨x, hx, e⟩ := List.any_eq_true.1 h
  rw [eqZ_iff] at e
  exact e ▸ hx
theorem valU_zero {a b : Bool} (h : valU a b = 0) : a = false ∧ b = false := by
  unfold valU at h
  cases a <;> cases b <;> simp_all
/-- an open literal narrows the domain -/
theorem UpI.less {b : D_Domain} (h : UpI b) {l : D_Literal} (h0 : litQ b l = 0) : muU (restV b l) < muU b := by
  obtain ⟨k, a, v, u⟩ := l
  obtain ⟨⟨l1, l2, l3, l4⟩, h2, h3, h4⟩ := h
  unfold litQ at h0
  rcases tf (hasV b a) with hh | hh
  · simp only [hh, Bool.false_eq_true, if_false] at h0
    cases h0
  obtain ⟨i, rfl, i1, i2, i3⟩ := hasV_at hh
  simp only [hh, if_true, getI_lt i1, getI_lt i2, getI_lt i3] at h0
  have b1 := h2 _ (List.getElem_mem i1)
  have b2 := h3 _ (List.getElem_mem i2)
  have b4 := h4 _ (List.getElem_mem i3)
  have b5 := l4 _ (List.getElem_mem i3)
  unfold restV
  simp only [hh, if_true]
  rcases tf (eqZ k 1) with q | q
  · simp only [q, Bool.false_eq_true, if_false] at h0 ⊢
    rcases tf (eqZ k 2) with q2 | q2
    · simp only [q2, Bool.false_eq_true, if_false] at h0 ⊢
      rcases tf (eqZ k 3) with q3 | q3
      · simp only [q3, Bool.false_eq_true, if_false] at h0 ⊢
        rcases tf (eqZ k 4) with q4 | q4
        · simp only [q4, Bool.false_eq_true, if_false] at h0
          cases h0
        · simp only [q4, if_true] at h0 ⊢
          obtain ⟨e1, e2⟩ := valU_zero h0
          have hv : hasB b.2.2.1[i] v = true := by
            cases hc : hasB b.2.2.1[i] v with
            | true => rfl
            | false => rw [hc] at e1; cases e1
          have hm := hasB_memU hv
          have hc : clampV v = v := clampV_id (b4 v hm)
          have := filter_lt (q := fun n => notB (eqZ n (clampV v))) hm (by rw [hc, eqZ_self]; rfl)
          unfold muU setI
          simp only [Int.toNat_natCast]
          rw [lenU_modify _ _ _ i3]
          omega
      · simp only [q3, if_true] at h0 ⊢
        obtain ⟨e1, e2⟩ := valU_zero h0
        have hv : hasB b.2.2.1[i] v = true := by
          cases hc : hasB b.2.2.1[i] v with
          | true => rfl
          | false => rw [hc] at e2; cases e2
        have hm := hasB_memU hv
        have hf : (b.2.2.1[i].filter fun n => eqZ n (clampV v)).length ≤ 1 := by
          rw [filter_one b5.1]
          split <;> simp
        have h2 : 2 ≤ b.2.2.1[i].length := by
          generalize b.2.2.1[i] = m at *
          match m with
          | [] => cases hm
          | [x] =>
            have : v = x := by simpa using hm
            rw [this] at e1
            simp at e1
          | x :: y :: r => simp
        unfold muU setI
        simp only [Int.toNat_natCast]
        rw [lenU_modify _ _ _ i3]
        omega
    · simp only [q2, if_true] at h0 ⊢
      obtain ⟨e1, e2⟩ := valU_zero h0
      rw [Bool.eq_false_iff, Ne, leZ_iff] at e1
      rw [Bool.eq_false_iff, Ne, ltZ_iff] at e2
      have hc : clampV v = v := clampV_id (by omega)
      unfold muU setI
      simp only [Int.toNat_natCast]
      rw [sumU_modify _ _ _ i2, hc]
      unfold minI
      split <;> omega
  · simp only [q, if_true] at h0 ⊢
    obtain ⟨e1, e2⟩ := valU_zero h0
    rw [Bool.eq_false_iff, Ne, leZ_iff] at e1
    rw [Bool.eq_false_iff, Ne, ltZ_iff] at e2
    have hc : clampV v = v := clampV_id (by omega)
    unfold muU setI
    simp only [Int.toNat_natCast]
    rw [sumU_modify _ _ _ i1, hc]
    unfold maxI
    split <;> omega
/-- the rounds come to an end -/
theorem upV_ends (ls : List (List D_Literal)) : ∀ (k : Nat) (b : D_Domain), UpI b → muU b + 400 < k → ∃ r, upV ls k b = some r ∧ UpI r.1
  | 0, b, h, hk => by have := h.mu; omega
  | k + 1, b, h, hk => by
    unfold upV
    rcases tf (emptyB b) with e | e
    rotate_left
    · exact ⟨_, by rw [if_pos e], h⟩
    rw [if_neg (by rw [e]; exact Bool.false_ne_true)]
    cases hfi : ls.findIdx? (hitV (litQ b)) with
    | none => exact ⟨_, rfl, h⟩
    | some i =>
      obtain ⟨hi, hq, -⟩ := List.findIdx?_eq_some_iff_getElem.1 hfi
      simp only [List.getElem?_eq_getElem hi]
      by_cases hs : (statV (litQ b) ls[i]).1 < 0
      · exact ⟨_, by rw [if_pos hs], h⟩
      · rw [if_neg hs]
        have hlt : muU (restV b (statV (litQ b) ls[i]).2) < muU b := by
          unfold hitV at hq
          rcases statV_cases (litQ b) ls[i] with g | g | g | ⟨x, hx, h0, g⟩
          · rw [g] at hq; cases hq
          · rw [g] at hs; exact absurd (show (-1 : Int) < 0 by decide) hs
          · rw [g] at hq; cases hq
          · rw [g]; exact h.less h0
        exact upV_ends ls k _ (h.rest _) (by omega)
theorem up_impl (ls : List (List D_Literal)) (hl : ls.length ≤ 1099511627776 ∧ ∀ l ∈ ls, l.length ≤ 1099511627776) : ∀ (k : Nat) (b : D_Domain), UpI b →
    upL (fun d => (impl_DomainEmpty (d, ()) ()).map (·.1)) (fun d => (slices_IndexFunc_impl_Literal_impl_Literal (ls, (fun l => (impl_UnitPropagate_1 l (d, ())).map (·.1)), ()) ()).map (·.1)) ls (fun d l => (impl_ClauseStatus (d, l, ()) ()).map fun s => (s.1.1, s.1.2.1)) (fun d l => (impl_Restrict (d, l, ()) ()).map (·.1)) k b = upV ls k b
  | 0, b, h => rfl
  | k + 1, b, h => by
    simp only [upL, upV]
    rw [DomainEmpty_impl b () h.sm']
    simp only [Option.map_some, Option.bind_some]
    rcases tf (emptyB b) with e | e
    rotate_left
    · rw [if_pos e, if_pos e]
    rw [if_neg (by rw [e]; exact Bool.false_ne_true), if_neg (by rw [e]; exact Bool.false_ne_true)]
    have hI : slices_IndexFunc_impl_Literal_impl_Literal (ls, (fun l => (impl_UnitPropagate_1 l (b, ())).map (·.1)), ()) () = some (idxOf (hitV (litQ b)) ls, ()) :=
      IndexFunc_U ls _ (hitV (litQ b)) () hl.1 fun a ha => by
        show (impl_UnitPropagate_1 (a, ()) (b, ())).map (·.1) = _
        rw [hit_one b a () () h.sm' (hl.2 a ha)]
        rfl
    rw [hI]
    simp only [Option.map_some, Option.bind_some]
    unfold idxOf
    cases hfi : ls.findIdx? (hitV (litQ b)) with
    | none => rfl
    | some i =>
      obtain ⟨hi, hq, -⟩ := List.findIdx?_eq_some_iff_getElem.1 hfi
      have hn : ¬ ((i : Int) < 0) := by omega
      simp only [List.getElem?_eq_getElem hi]
      rw [if_neg hn, getI_lt hi]
      simp only [Option.bind_some]
      rw [ClauseStatus_iU b _ () h.sm' (hl.2 _ (List.getElem_mem hi))]
      simp only [Option.map_some, Option.bind_some]
      by_cases hs : (statV (litQ b) ls[i]).1 < 0
      · rw [if_pos hs, if_pos hs]
      · rw [if_neg hs, if_neg hs, Restrict_impl b _ () h.sm]
        simp only [Option.map_some, Option.bind_some]
        exact up_impl ls hl k _ (h.rest _)
theorem up_spec (ls : List (List D_Literal)) (z : D_Domain) (hl : ls.length ≤ 1099511627776 ∧ ∀ l ∈ ls, l.length ≤ 1099511627776) (A : Type) : ∀ (k N : Nat) (b : D_Domain) (r : D_Domain × Bool), UpI b → k ≤ N → upV ls k b = some r →
    loopN (A := A) N spec_UnitPropagate_L0 (ls, z, b, ()) = some (.ret ((r.1, r.2, ()), ()))
  | 0, N, b, r, h, hN, hr => by cases hr
  | k + 1, 0, b, r, h, hN, hr => by omega
  | k + 1, N + 1, b, r, h, hN, hr => by
    have hm : ∀ m ∈ b.2.2.1, m.Nodup := fun m hm => (h.1.2.2.2 m hm).1
    simp only [upV] at hr
    simp only [loopN]
    unfold spec_UnitPropagate_L0
    simp only [DomainEmpty_spec b _ h.sm', some_bind']
    rcases tf (emptyB b) with e | e
    rotate_left
    · rw [if_pos e] at hr
      cases hr
      simp only [e, if_true, some_bind']
    rw [if_neg (by rw [e]; exact Bool.false_ne_true)] at hr
    simp only [e, Bool.false_eq_true, if_false, Step_U b ls _ h.sm' hl, some_bind']
    unfold stepV
    cases hfi : ls.findIdx? (hitV (litQ b)) with
    | none =>
      rw [hfi] at hr
      cases hr
      rfl
    | some i =>
      obtain ⟨hi, hq, -⟩ := List.findIdx?_eq_some_iff_getElem.1 hfi
      rw [hfi] at hr
      simp only [List.getElem?_eq_getElem hi] at hr ⊢
      by_cases hs : (statV (litQ b) ls[i]).1 < 0
      · rw [if_pos hs] at hr
        cases hr
        rw [if_pos hs]
        rfl
      · rw [if_neg hs] at hr
        rw [if_neg hs]
        have e1 : eqZ (2 : Int) 1 = false := rfl
        have e2 : eqZ (2 : Int) 0 = false := rfl
        simp only [e1, e2, Bool.false_eq_true, if_false, Restrict_spec b _ _ h.sm hm, some_bind']
        exact up_spec ls z hl A k N _ r (h.rest _) (by omega) hr
end Go.Proofs.YtjgmjljdhgfdhaaGreat
