/-
  Plain laws of the functions that the law FnExactPrefixKept reaches: for all data within the bounds of the machine that law returns true.
-/
import Derived.Test.YtooohimfepookaaL5
namespace Go.Proofs.Ytooohimfepookaa
open Go.Abs
set_option linter.unusedVariables false
set_option linter.unusedSimpArgs false

theorem F16_range (s : Sch) (at_ : Int) (u : Unit) (h : Sm s) : ∃ l, F16 (s, at_, u) () = some (l, ()) ∧ l.length ≤ s.1.length ∧ ∀ v ∈ l, ∃ i : Nat, v = i ∧ i < s.1.length := by
  have hh := h.1
  have hL : ∃ o, loopN (A := (Int × (Int × ((List Int) × (Int × ((List Int) × Unit)))))) big F16L0 (0, ((s.1.length : Int), (s.1, (at_, ([], ()))))) = some o ∧ ∃ b i n a t l u, o = .exit (Sum.inl (b, i, n, a, t, l, u)) ∧ l.length ≤ s.1.length ∧ ∀ v ∈ l, ∃ i : Nat, v = i ∧ i < s.1.length := by
    refine loopN_count s.1.length (fun (i : Nat) q => q.1 = (i : Int) ∧ q.2.1 = (s.1.length : Int) ∧ q.2.2.1 = s.1 ∧ q.2.2.2.2.1.length ≤ i ∧ ∀ v : Int, v ∈ q.2.2.2.2.1 → ∃ i : Nat, v = (i : Int) ∧ i < s.1.length) _ ?_ ⟨rfl, rfl, rfl, by simp, by simp⟩ (by rw [big_eq]; omega)
    rintro i ⟨j, n, a, t, l, u⟩ hi ⟨h1, h2, h3, h4, h5⟩
    obtain rfl : j = i := h1
    obtain rfl : n = (s.1.length : Int) := h2
    obtain rfl : a = s.1 := h3
    replace h4 : l.length ≤ i := h4
    replace h5 : ∀ v ∈ l, ∃ i : Nat, v = i ∧ i < s.1.length := h5
    unfold F16L0
    by_cases h : i < s.1.length
    · have h' : ltZ (i : Int) (s.1.length : Int) = true := by rw [ltZ_iff]; omega
      have g2 := getI_lt h
      have g3 : addZ .i64 (i : Int) 1 = ((i + 1 : Nat) : Int) := by rw [addZ64 (by omega) (by omega)]; omega
      have g4 : addI l [(i : Int)] = some (l ++ [(i : Int)]) := addI_ok (by rw [room_eq]; simp; omega)
      simp only [h', if_true, g2, g3, g4, some_bind']
      by_cases hc : ltZ s.1[i] t = true
      · simp only [hc, if_true, some_bind', g3]
        refine ⟨_, rfl, h, rfl, rfl, rfl, by simp; omega, fun v hv => ?_⟩
        rcases List.mem_append.1 hv with hv | hv
        · exact h5 v hv
        · exact ⟨i, by simpa using hv, h⟩
      · rw [Bool.not_eq_true] at hc
        simp only [hc, Bool.false_eq_true, if_false, some_bind', g3]
        exact ⟨_, rfl, h, rfl, rfl, rfl, by simp; omega, h5⟩
    · have h' : ltZ (i : Int) (s.1.length : Int) = false := by rw [Bool.eq_false_iff, Ne, ltZ_iff]; omega
      simp only [h', if_false, Bool.false_eq_true]
      exact ⟨_, rfl, _, _, _, _, _, _, _, rfl, by omega, h5⟩
  obtain ⟨o, ho, b, i, n, a, t, l, v, rfl, hl⟩ := hL
  refine ⟨l, ?_, hl⟩
  unfold F16
  simp only [lenI_eq, ho, some_bind']

/-- the schedules part at this activity -/
def bad (s o : Sch) (v : Int) : Bool := match getI s.1 v, getI o.1 v, getI s.2.1 v, getI o.2.1 v with
  | some a, some b, some c, some d => notB (eqZ a b) || notB (eqZ c d)
  | _, _, _, _ => true
/-- all four lists have an element there -/
def AllAt (s o : Sch) (v : Int) : Prop := ∃ a b c d, getI s.1 v = some a ∧ getI o.1 v = some b ∧ getI s.2.1 v = some c ∧ getI o.2.1 v = some d
theorem F35_eq (s o : Sch) (v : Int) (u w : Unit) (h : AllAt s o v) : F35 (v, u) (s, o, w) = some (bad s o v, ()) := by
  obtain ⟨a, b, c, d, h1, h2, h3, h4⟩ := h
  unfold F35 bad
  simp only [h1, h2, h3, h4, some_bind']
  cases notB (eqZ a b) <;> simp

theorem F39_eq (l : List Int) (f : Int × Unit → Option Bool) (g : Int → Bool) (u : Unit) (hf : ∀ v ∈ l, f (v, ()) = some (g v)) (hl : l.length ≤ 1048576) : ∃ r, F39 (l, f, u) () = some (r, ()) ∧ leZ 0 r = l.any g := by
  have hL : ∃ o, loopN (A := (Int × (Int × (((Int × Unit) → (Option Bool)) × ((List Int) × Unit))))) big F39L0 (0, (l.length : Int), f, l, ()) = some o ∧ ((∃ r, o = .ret (r, ()) ∧ 0 ≤ r ∧ l.any g = true) ∨ (∃ v, o = .exit (Sum.inl v) ∧ l.any g = false)) := by
    refine loopN_count l.length (fun (i : Nat) q => q.1 = (i : Int) ∧ q.2.1 = (l.length : Int) ∧ q.2.2.1 = f ∧ q.2.2.2.1 = l ∧ ∀ j (hj : j < l.length), j < i → g l[j] = false) _ ?_ ⟨rfl, rfl, rfl, rfl, fun j _ hj => absurd hj (by omega)⟩ (by rw [big_eq]; omega)
    rintro i ⟨j, n, a, t, u⟩ hi ⟨h1, h2, h3, h4, h5⟩
    obtain rfl : j = i := h1
    obtain rfl : n = (l.length : Int) := h2
    obtain rfl : a = f := h3
    obtain rfl : t = l := h4
    replace h5 : ∀ j (hj : j < t.length), j < i → g t[j] = false := h5
    unfold F39L0
    by_cases h : i < t.length
    · have h' : ltZ (i : Int) (t.length : Int) = true := by rw [ltZ_iff]; omega
      have g2 := getI_lt h
      have g3 : addZ .i64 (i : Int) 1 = ((i + 1 : Nat) : Int) := by rw [addZ64 (by omega) (by omega)]; omega
      simp only [h', if_true, g2, g3, some_bind', hf _ (List.getElem_mem h)]
      by_cases hc : g t[i] = true
      · simp only [hc, if_true]
        exact ⟨_, rfl, .inl ⟨_, rfl, by omega, List.any_eq_true.2 ⟨_, List.getElem_mem h, hc⟩⟩⟩
      · rw [Bool.not_eq_true] at hc
        simp only [hc, Bool.false_eq_true, if_false]
        refine ⟨_, rfl, h, rfl, rfl, rfl, rfl, fun j hj hji => ?_⟩
        by_cases e : j = i
        · subst e; exact hc
        · exact h5 j hj (by omega)
    · have h' : ltZ (i : Int) (t.length : Int) = false := by rw [Bool.eq_false_iff, Ne, ltZ_iff]; omega
      simp only [h', if_false, Bool.false_eq_true]
      refine ⟨_, rfl, .inr ⟨_, rfl, ?_⟩⟩
      rw [List.any_eq_false]
      intro v hv
      obtain ⟨j, hj, rfl⟩ := List.mem_iff_getElem.1 hv
      rw [h5 j hj (by omega)]
      simp
  obtain ⟨o, ho, hr⟩ := hL
  unfold F39
  simp only [lenI_eq, ho, some_bind']
  rcases hr with ⟨r, rfl, h1, h2⟩ | ⟨v, rfl, h2⟩
  · exact ⟨r, rfl, by rw [h2, leZ_iff]; exact h1⟩
  · exact ⟨-1, rfl, by rw [h2]; decide⟩

theorem F21_loop (s o : Sch) (l : List Int) (ha : ∀ v ∈ l, AllAt s o v) (hl : l.length ≤ 1048576) :
    ∃ out, loopN (A := (Int × (Int × ((List Int) × (Sch × (Sch × Unit)))))) big F21L0 (0, (l.length : Int), l, s, o, ()) = some out ∧ ((out = .ret (false, ()) ∧ l.any (bad s o) = true) ∨ (∃ v, out = .exit (Sum.inl v) ∧ l.any (bad s o) = false)) := by
  refine loopN_count l.length (fun (i : Nat) q => q.1 = (i : Int) ∧ q.2.1 = (l.length : Int) ∧ q.2.2.1 = l ∧ q.2.2.2.1 = s ∧ q.2.2.2.2.1 = o ∧ ∀ j (hj : j < l.length), j < i → bad s o l[j] = false) _ ?_ ⟨rfl, rfl, rfl, rfl, rfl, fun j _ hj => absurd hj (by omega)⟩ (by rw [big_eq]; omega)
  rintro i ⟨j, n, t, a, b, u⟩ hi ⟨h1, h2, h3, h4, h4', h5⟩
  obtain rfl : j = i := h1
  obtain rfl : n = (l.length : Int) := h2
  obtain rfl : t = l := h3
  obtain rfl : a = s := h4
  obtain rfl : b = o := h4'
  replace h5 : ∀ j (hj : j < t.length), j < i → bad a b t[j] = false := h5
  unfold F21L0
  by_cases h : i < t.length
  · have h' : ltZ (i : Int) (t.length : Int) = true := by rw [ltZ_iff]; omega
    have g2 := getI_lt h
    have g3 : addZ .i64 (i : Int) 1 = ((i + 1 : Nat) : Int) := by rw [addZ64 (by omega) (by omega)]; omega
    obtain ⟨p, q, c, d, k1, k2, k3, k4⟩ := ha _ (List.getElem_mem h)
    simp only [h', if_true, g2, some_bind', k1, k2, k3, k4]
    by_cases hc : bad a b t[i] = true
    · have hr : (if notB (eqZ p q) = true then some (true, (i : Int), (t.length : Int), t, a, b, ()) else some (notB (eqZ c d), (i : Int), (t.length : Int), t, a, b, ())) = some (true, (i : Int), (t.length : Int), t, a, b, ()) := by
        unfold bad at hc
        simp only [k1, k2, k3, k4] at hc
        cases h1 : notB (eqZ p q) with
        | true => simp
        | false => rw [h1] at hc; simp at hc; simp [hc]
      rw [hr]
      simp only [some_bind', if_true]
      exact ⟨_, rfl, .inl ⟨rfl, List.any_eq_true.2 ⟨_, List.getElem_mem h, hc⟩⟩⟩
    · rw [Bool.not_eq_true] at hc
      have hr : (if notB (eqZ p q) = true then some (true, (i : Int), (t.length : Int), t, a, b, ()) else some (notB (eqZ c d), (i : Int), (t.length : Int), t, a, b, ())) = some (false, (i : Int), (t.length : Int), t, a, b, ()) := by
        unfold bad at hc
        simp only [k1, k2, k3, k4, Bool.or_eq_false_iff] at hc
        simp [hc.1, hc.2]
      rw [hr]
      simp only [some_bind', Bool.false_eq_true, if_false, g3]
      refine ⟨_, rfl, h, rfl, rfl, rfl, rfl, rfl, fun j hj hji => ?_⟩
      by_cases e : j = i
      · subst e; exact hc
      · exact h5 j hj (by omega)
  · have h' : ltZ (i : Int) (t.length : Int) = false := by rw [Bool.eq_false_iff, Ne, ltZ_iff]; omega
    simp only [h', if_false, Bool.false_eq_true]
    refine ⟨_, rfl, .inr ⟨_, rfl, ?_⟩⟩
    rw [List.any_eq_false]
    intro v hv
    obtain ⟨j, hj, rfl⟩ := List.mem_iff_getElem.1 hv
    rw [h5 j hj (by omega)]
    simp

theorem kept_eq (s o : Sch) (t : Int) (u : Unit) (hs : Sm s) : ∃ r, F21 (s, o, t, u) () = some (r, ()) ∧ F22 (s, o, t, u) () = some (r, ()) := by
  unfold F21 F22
  simp only [lenI_eq]
  by_cases h1 : (s.1.length : Int) = o.1.length ∧ (s.2.1.length : Int) = o.2.1.length ∧ (s.1.length : Int) = s.2.1.length
  · obtain ⟨e1, e2, e3⟩ := h1
    have k1 : notB (eqZ (s.1.length : Int) (o.1.length : Int)) = false := by rw [e1, eqZ_self]; rfl
    have k2 : notB (eqZ (s.2.1.length : Int) (o.2.1.length : Int)) = false := by rw [e2, eqZ_self]; rfl
    have k3 : notB (eqZ (s.1.length : Int) (s.2.1.length : Int)) = false := by rw [e3, eqZ_self]; rfl
    have k4 : notB (eqZ (s.2.1.length : Int) (s.1.length : Int)) = false := by rw [e3, eqZ_self]; rfl
    have k5 : notB (eqZ (o.1.length : Int) (s.1.length : Int)) = false := by rw [e1, eqZ_self]; rfl
    have k6 : notB (eqZ (o.2.1.length : Int) (s.1.length : Int)) = false := by rw [e3, e2, eqZ_self]; rfl
    obtain ⟨l, hl1, hl2, hl3⟩ := F16_range s t () hs
    have hll : l.length ≤ 1048576 := Nat.le_trans hl2 hs.1
    have hall : ∀ v ∈ l, AllAt s o v := fun v hv => by
      obtain ⟨i, rfl, hi⟩ := hl3 v hv
      exact ⟨_, _, _, _, getI_lt hi, getI_lt (by omega), getI_lt (by omega), getI_lt (by omega)⟩
    obtain ⟨out, ho, hr⟩ := F21_loop s o l hall hll
    obtain ⟨r, hr1, hr2⟩ := F39_eq l (fun v4 => Option.bind (F35 v4 (s, o, ())) fun v5 => some v5.1) (bad s o) () (fun v hv => by simp only [F35_eq s o v _ _ (hall v hv), some_bind']) hll
    simp only [k1, k2, k3, k4, k5, k6, Bool.false_eq_true, if_false, some_bind', F15_F16, hl1, ho, F34, hr1, hr2]
    rcases hr with ⟨rfl, h⟩ | ⟨v, rfl, h⟩
    · exact ⟨false, rfl, by rw [h]; rfl⟩
    · exact ⟨true, rfl, by rw [h]; rfl⟩
  · refine ⟨false, ?_, ?_⟩
    · by_cases a1 : notB (eqZ (s.1.length : Int) (o.1.length : Int)) = true
      · simp [a1]
      · by_cases a2 : notB (eqZ (s.2.1.length : Int) (o.2.1.length : Int)) = true
        · simp [a1, a2]
        · have a3 : notB (eqZ (s.1.length : Int) (s.2.1.length : Int)) = true := by
            rw [notB_iff, eqZ_iff] at a1 a2 ⊢
            intro h; exact h1 ⟨by omega, by omega, h⟩
          simp [a1, a2, a3]
    · by_cases a1 : notB (eqZ (s.2.1.length : Int) (s.1.length : Int)) = true
      · simp [a1]
      · by_cases a2 : notB (eqZ (o.1.length : Int) (s.1.length : Int)) = true
        · simp [a1, a2]
        · have a3 : notB (eqZ (o.2.1.length : Int) (s.1.length : Int)) = true := by
            rw [notB_iff, eqZ_iff] at a1 a2 ⊢
            intro h; exact h1 ⟨by omega, by omega, by omega⟩
          simp [a1, a2, a3]

theorem law6_plain (a b : Sch) (t : Int) (u : Unit) (ha1 : a.1.length ≤ maxLen) (ha2 : a.2.1.length ≤ maxLen) (hb1 : b.1.length ≤ maxLen) (hb2 : b.2.1.length ≤ maxLen) : F6 (a, b, t, u) () = some (true, ()) := by
  obtain ⟨l1, e1, c1⟩ := F10_eq a 1048576 () (by omega) (by omega) ha1 ha2
  unfold F6
  rw [e1]
  simp only [some_bind']
  rcases c1 with c1 | ⟨c1, c1', sa⟩
  · have : ltZ l1 0 = true := by rw [ltZ_iff]; exact c1
    simp only [this, if_true]
  · have n1 : ltZ l1 0 = false := by rw [Bool.eq_false_iff, Ne, ltZ_iff]; omega
    simp only [n1, Bool.false_eq_true, if_false]
    obtain ⟨l2, e2, c2⟩ := F10_eq b l1 () c1 (by omega) hb1 hb2
    rw [e2]
    simp only [some_bind']
    rcases c2 with c2 | ⟨c2, c2', sb⟩
    · have : ltZ l2 0 = true := by rw [ltZ_iff]; exact c2
      simp only [this, if_true]
    · have n2 : ltZ l2 0 = false := by rw [Bool.eq_false_iff, Ne, ltZ_iff]; omega
      obtain ⟨r, d1, d2⟩ := kept_eq a b t () sa
      simp only [n2, Bool.false_eq_true, if_false, F12_eq a _ sa, F12_eq b _ sb, some_bind', d1, d2, eqB_self, notB_true, F14_refl a _ sa, F14_refl b _ sb]
theorem law6 (x : Ty.dens h6.ps) (h : Ty.fits h6.ps x) : F6 x () = some (true, ()) := by
  obtain ⟨a, b, t, u⟩ := x
  obtain ⟨⟨⟨ha1, _⟩, ⟨ha2, _⟩, _⟩, ⟨⟨hb1, _⟩, ⟨hb2, _⟩, _⟩, _⟩ := h
  exact law6_plain a b t u ha1 ha2 hb1 hb2
end Go.Proofs.Ytooohimfepookaa
