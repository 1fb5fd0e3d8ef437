/-
  Plain laws: a list sorted by the numbers that belong to its elements, in the program (a stable sort that is given a comparison). Condition: the list has at most 19 elements.
-/
import Derived.Test.YtafnhdfjcocpgaaGreatw6LShape
namespace Go.Proofs.YtafnhdfjcocpgaaGreat
open Go.Abs
set_option linter.unusedVariables false
set_option linter.unusedSimpArgs false

/-- a number put into a list, from the right, ahead of all from which it is to be moved away -/
def insK (p : Int → Int → Bool) (n : Int) (l : List Int) : List Int := (l.reverse.dropWhile (p n)).reverse ++ n :: (l.reverse.takeWhile (p n)).reverse
theorem insK_split {p : Int → Int → Bool} {n : Int} {A B : List Int} (hB : ∀ x ∈ B, p n x = true) (hA : ∀ A' y, A = A' ++ [y] → p n y = false) : insK p n (A ++ B) = A ++ n :: B := by
  unfold insK
  have hB' : ∀ x ∈ B.reverse, p n x = true := fun x hx => hB x (by simpa using hx)
  have h2 : A.reverse.takeWhile (p n) = [] ∧ A.reverse.dropWhile (p n) = A.reverse := by
    rcases List.eq_nil_or_concat A with rfl | ⟨A', y, rfl⟩
    · simp
    · have := hA A' y (by simp)
      simp [this]
  have h1 : (B.reverse ++ A.reverse).takeWhile (p n) = B.reverse ∧ (B.reverse ++ A.reverse).dropWhile (p n) = A.reverse := by
    generalize B.reverse = C at hB'
    induction C with
    | nil => simpa using h2
    | cons c C ih =>
      have hc := hB' c (by simp)
      obtain ⟨i1, i2⟩ := ih fun x hx => hB' x (by simp [hx])
      simp [hc, i1, i2]
  rw [List.reverse_append, h1.1, h1.2]
  simp
theorem insK_perm (p : Int → Int → Bool) (n : Int) (l : List Int) : List.Perm (insK p n l) (n :: l) := by
  unfold insK
  have h : l = (l.reverse.dropWhile (p n)).reverse ++ (l.reverse.takeWhile (p n)).reverse := by
    rw [← List.reverse_append, List.takeWhile_append_dropWhile, List.reverse_reverse]
  refine List.perm_middle.trans ?_
  rw [← h]
def srtK (p : Int → Int → Bool) (l : List Int) : List Int := l.foldl (fun out x => insK p x out) []
theorem srtK_perm (p : Int → Int → Bool) (l : List Int) : List.Perm (srtK p l) l := by
  have : ∀ (l out : List Int), List.Perm (l.foldl (fun out x => insK p x out) out) (out ++ l) := by
    intro l
    induction l with
    | nil => intro out; simp
    | cons x l ih =>
      intro out
      simp only [List.foldl_cons]
      refine (ih _).trans ?_
      refine ((insK_perm p x out).append_right l).trans ?_
      exact (List.perm_middle (a := x) (l₁ := out) (l₂ := l)).symm
  have := this l []
  simpa [srtK] using this
theorem srtK_length (p : Int → Int → Bool) (l : List Int) : (srtK p l).length = l.length := (srtK_perm p l).length_eq
theorem srtK_snoc (p : Int → Int → Bool) (l : List Int) (x : Int) : srtK p (l ++ [x]) = insK p x (srtK p l) := by
  unfold srtK
  rw [List.foldl_append]
  rfl
theorem srtK_mem {p : Int → Int → Bool} {l : List Int} {x : Int} (h : x ∈ srtK p l) : x ∈ l := (srtK_perm p l).mem_iff.1 h

theorem getI_midK {α : Type} (A : List α) (x : α) (B : List α) : getI (A ++ x :: B) (A.length : Int) = some x := by
  rw [getI_nat, List.getElem?_append_right (Nat.le_refl _)]
  simp
theorem setI_midK {α : Type} (x : α) (B : List α) (f : α → α) : ∀ (A : List α), setI (A ++ x :: B) (A.length : Int) f = A ++ f x :: B := fun A => by
  rw [setI_nat]
  induction A with
  | nil => rfl
  | cons a A ih => simp [List.modify_succ_cons, ih]

/-- the last number finds its place -/
theorem insK_inner (cmpF : D_Step → Option Int) (p : Int → Int → Bool) (l rest : List Int) (n : Int) (m : Int) (hl : l.length ≤ 1000) (hc : ∀ y ∈ l, ∃ k, cmpF (n, y, ()) = some k ∧ ltZ k 0 = p n y) :
    ∃ b j, ∀ A : Type, loopN (A := A) big slices_insertionSortCmpFunc_int_L0 ((l.length : Int), (l.length : Int), m, 0, cmpF, l ++ n :: rest, ()) = some (.exit (Sum.inl (b, j, (l.length : Int), m, 0, cmpF, insK p n l ++ rest, ()))) := by
  rcases one_loop (F := slices_insertionSortCmpFunc_int_L0) (fun k (a : List Int × List Int) => ((a.1.length : Int), (l.length : Int), m, 0, cmpF, a.1 ++ n :: (a.2 ++ rest), ())) l.length (fun k a => a.1 ++ a.2 = l ∧ a.1.length + k = l.length ∧ ∀ x ∈ a.2, p n x = true)
    (fun b => ∃ b0 j, b = Sum.inl (b0, j, (l.length : Int), m, 0, cmpF, insK p n l ++ rest, ())) (fun _ => False) (by omega)
    (fun k a hk hI => by
      obtain ⟨A, B⟩ := a
      obtain ⟨h1, h2, h3⟩ := hI
      simp only at h1 h2 h3
      rcases List.eq_nil_or_concat A with rfl | ⟨A', y, rfl⟩
      · refine .inr (.inl ⟨_, ?_, false, 0, rfl⟩)
        have e : insK p n l = n :: B := by
          have := insK_split (p := p) (n := n) (A := []) (B := B) h3 (by simp)
          rw [← h1]; exact this
        have e0 : ltZ 0 ((([] : List Int).length : Nat) : Int) = false := rfl
        unfold slices_insertionSortCmpFunc_int_L0
        simp only [e0, Bool.false_eq_true, if_false, some_bind', e]
        rfl
      · have hj : (A'.concat y).length = A'.length + 1 := by simp
        have hd : A'.concat y ++ n :: (B ++ rest) = (A' ++ [y]) ++ n :: (B ++ rest) := by simp
        have hd2 : (A' ++ [y]) ++ n :: (B ++ rest) = A' ++ y :: (n :: (B ++ rest)) := by simp
        have g1 : getI ((A' ++ [y]) ++ n :: (B ++ rest)) ((A'.length + 1 : Nat) : Int) = some n := by
          have := getI_midK (A' ++ [y]) n (B ++ rest)
          rw [show (A' ++ [y]).length = A'.length + 1 by simp] at this
          exact this
        have g2 : getI ((A' ++ [y]) ++ n :: (B ++ rest)) (A'.length : Int) = some y := by
          rw [hd2]; exact getI_midK A' y (n :: (B ++ rest))
        have g3 : setI ((A' ++ [y]) ++ n :: (B ++ rest)) ((A'.length + 1 : Nat) : Int) (fun _ => y) = A' ++ y :: (y :: (B ++ rest)) := by
          have := setI_midK n (B ++ rest) (fun _ => y) (A' ++ [y])
          rw [show (A' ++ [y]).length = A'.length + 1 by simp] at this
          rw [this]; simp
        have g4 : getI (A' ++ y :: (y :: (B ++ rest))) (A'.length : Int) = some y := getI_midK A' y (y :: (B ++ rest))
        have g5 : setI (A' ++ y :: (y :: (B ++ rest))) (A'.length : Int) (fun _ => n) = A' ++ n :: (y :: (B ++ rest)) := setI_midK y (y :: (B ++ rest)) (fun _ => n) A'
        have e0 : ltZ 0 ((A'.length + 1 : Nat) : Int) = true := by rw [ltZ_iff]; omega
        have e1 := idx_pred A'.length (by have := hj; omega)
        obtain ⟨c, hc1, hc2⟩ := hc y (by rw [← h1]; simp)
        rcases tf (p n y) with q | q
        · refine .inr (.inl ⟨_, ?_, false, ((A'.length + 1 : Nat) : Int), rfl⟩)
          have es : insK p n l = (A' ++ [y]) ++ n :: B := by
            have := insK_split (p := p) (n := n) (A := A' ++ [y]) (B := B) h3 (fun A'' y' e => by
              have := List.append_inj_right' e (by simp)
              simp at this
              rw [← this]; exact q)
            rw [← this, ← h1]
            simp
          unfold slices_insertionSortCmpFunc_int_L0
          simp only [hj, hd, e0, if_true, g1, g2, e1, some_bind', hc1, hc2, q, Bool.false_eq_true, if_false, es]
          simp
        · refine .inl ⟨(A', y :: B), by omega, ?_, ?_, ?_, ?_⟩
          · unfold slices_insertionSortCmpFunc_int_L0
            simp only [hj, hd, e0, if_true, g1, g2, e1, some_bind', hc1, hc2, q, g3, g4, g5]
            simp
          · rw [← h1]; simp
          · simp only at h2 ⊢
            omega
          · intro x hx
            rcases List.mem_cons.1 hx with rfl | hx
            · exact q
            · exact h3 x hx)
    (a := (l, [])) (s := ((l.length : Int), (l.length : Int), m, 0, cmpF, l ++ n :: rest, ())) (by simp) ⟨by simp, by simp, by simp⟩ with ⟨b, e, b0, j, rfl⟩ | ⟨_, _, hf⟩
  · exact ⟨b0, j, e⟩
  · exact hf.elim
theorem SortK_ins (cmpF : D_Step → Option Int) (p : Int → Int → Bool) (l : List Int) (hl : l.length ≤ 19) (hc : ∀ x ∈ l, ∀ y ∈ l, ∃ k, cmpF (x, y, ()) = some k ∧ ltZ k 0 = p x y) (u : Unit) :
    slices_insertionSortCmpFunc_int (l, 0, (l.length : Int), cmpF, u) () = some ((), srtK p l) := by
  by_cases h0 : l = []
  · subst h0
    have l1 : ∀ A : Type, loopN (A := A) big slices_insertionSortCmpFunc_int_L1 (1, 0, 0, cmpF, [], ()) = some (.exit (Sum.inl (false, 1, 0, 0, cmpF, [], ()))) := fun A => by
      have : slices_insertionSortCmpFunc_int_L1 (1, 0, 0, cmpF, [], ()) = some (.exit (Sum.inl (false, 1, 0, 0, cmpF, [], ()))) := rfl
      have hb : ∃ n, big = n + 1 := ⟨18446744073709551615, rfl⟩
      obtain ⟨n, hn⟩ := hb
      rw [hn]
      simp only [loopN, this]
      rfl
    have ha : addZ .i64 0 1 = 1 := rfl
    unfold slices_insertionSortCmpFunc_int
    simp only [ha, List.length_nil, show (((0 : Nat)) : Int) = 0 from rfl, l1, some_bind']
    rfl
  have hpos : 0 < l.length := by cases l with | nil => exact absurd rfl h0 | cons _ _ => simp
  have hone : ∀ x, insK p x [] = [x] := fun x => by simp [insK]
  rcases one_loop (F := slices_insertionSortCmpFunc_int_L1) (fun k (a : List Int) => (((k + 1 : Nat) : Int), (l.length : Int), 0, cmpF, a, ())) (l.length - 1) (fun k a => a = srtK p (l.take (k + 1)) ++ l.drop (k + 1))
    (fun b => ∃ b0 j, b = Sum.inl (b0, j, (l.length : Int), 0, cmpF, srtK p l, ())) (fun _ => False) (by omega)
    (fun k a hk hI => by
      subst hI
      by_cases hlt : k + 1 < l.length
      · have hlen : (srtK p (l.take (k + 1))).length = k + 1 := by rw [srtK_length, List.length_take]; omega
        have hdr : l.drop (k + 1) = l[k + 1] :: l.drop (k + 2) := List.drop_eq_getElem_cons hlt
        obtain ⟨b, j, e⟩ := insK_inner cmpF p (srtK p (l.take (k + 1))) (l.drop (k + 2)) l[k + 1] (l.length : Int) (by omega) (fun y hy => hc _ (List.getElem_mem hlt) _ (List.mem_of_mem_take (srtK_mem hy)))
        rw [hlen] at e
        have hs : insK p l[k + 1] (srtK p (l.take (k + 1))) = srtK p (l.take (k + 2)) := by
          rw [← srtK_snoc, List.take_succ_eq_append_getElem hlt]
        refine .inl ⟨srtK p (l.take (k + 2)) ++ l.drop (k + 2), by omega, ?_, rfl⟩
        unfold slices_insertionSortCmpFunc_int_L1
        simp only [lt_yes hlt, if_true, hdr, e, some_bind', hs, idxN hlt (show l.length ≤ 1099511627776 by omega) (Nat.le_refl _)]
      · obtain rfl : k = l.length - 1 := by omega
        have hk1 : l.length - 1 + 1 = l.length := by omega
        refine .inr (.inl ⟨Sum.inl (false, (l.length : Int), (l.length : Int), 0, cmpF, srtK p l, ()), ?_, false, (l.length : Int), rfl⟩)
        unfold slices_insertionSortCmpFunc_int_L1
        simp only [hk1, lt_no, Bool.false_eq_true, if_false, List.take_length, List.drop_length, List.append_nil])
    (a := l) (s := (1, (l.length : Int), 0, cmpF, l, ())) rfl (by
      cases l with
      | nil => exact absurd rfl h0
      | cons x l => simp [srtK, hone]) with ⟨b, e, b0, j, rfl⟩ | ⟨_, _, hf⟩
  · have ha : addZ .i64 0 1 = 1 := rfl
    unfold slices_insertionSortCmpFunc_int
    simp only [ha, e, some_bind']
  · exact hf.elim
theorem loop1K {σ A B C : Type} {F : σ → Option (Out σ B C)} {s : σ} {b : B} (h : F s = some (.exit b)) : loopN (A := A) big F s = some (.exit b) := by
  have hb : ∃ n, big = n + 1 := ⟨18446744073709551615, rfl⟩
  obtain ⟨n, hn⟩ := hb
  rw [hn]
  simp only [loopN, h]
  rfl
theorem SortStable_eq (cmpF : D_Step → Option Int) (p : Int → Int → Bool) (l : List Int) (hl : l.length ≤ 19) (hc : ∀ x ∈ l, ∀ y ∈ l, ∃ k, cmpF (x, y, ()) = some k ∧ ltZ k 0 = p x y) (u : Unit) :
    slices_SortStableFunc_int_int (l, cmpF, u) () = some ((), srtK p l) := by
  have h0 : leZ 20 (l.length : Int) = false := by rw [Bool.eq_false_iff, Ne, leZ_iff]; omega
  have h1 : ltZ 20 (l.length : Int) = false := by rw [Bool.eq_false_iff, Ne, ltZ_iff]; omega
  have e0 : ∀ A : Type, loopN (A := A) big slices_stableCmpFunc_int_L0 (20, 0, 20, (l.length : Int), cmpF, l, ()) = some (.exit (Sum.inl (false, 20, 0, 20, (l.length : Int), cmpF, l, ()))) := fun A => loop1K (by
    unfold slices_stableCmpFunc_int_L0
    simp only [h0, Bool.false_eq_true, if_false])
  have e2 : ∀ A : Type, ∀ z, loopN (A := A) big slices_stableCmpFunc_int_L2 (20, (l.length : Int), cmpF, z, ()) = some (.exit (Sum.inl (false, 20, (l.length : Int), cmpF, z, ()))) := fun A z => loop1K (by
    unfold slices_stableCmpFunc_int_L2
    simp only [h1, Bool.false_eq_true, if_false])
  unfold slices_SortStableFunc_int_int slices_stableCmpFunc_int
  simp only [lenI_eq, e0, some_bind', SortK_ins cmpF p l hl hc, e2]
theorem Compare_lt (x y : Int) (u : Unit) : ∃ k, cmp_Compare_int (x, y, u) () = some (k, ()) ∧ ltZ k 0 = ltZ x y := by
  have e : ∀ x u, cmp_isNaN_int (x, u) () = some (false, ()) := fun x u => by
    unfold cmp_isNaN_int
    simp [eqZ_self, notB]
  unfold cmp_Compare_int
  simp only [e, some_bind', Bool.false_eq_true, if_false]
  rcases tf (ltZ x y) with h | h
  · rcases tf (ltZ y x) with h' | h'
    · exact ⟨0, by simp [h, h'], by rw [h]; rfl⟩
    · exact ⟨1, by simp [h, h'], by rw [h]; rfl⟩
  · exact ⟨-1, by simp [h], by rw [h]; rfl⟩
/-- the numbers that belong to the places -/
def keyB (l : List Int) (x y : Int) : Bool := match getI l x, getI l y with | some a, some b => ltZ a b | _, _ => false
def ordV (s : D_Schedule) : List Int := srtK (keyB s.1) (iotaI s.1.length)
theorem StartOrder_impl (s : D_Schedule) (u : Unit) (h : s.1.length ≤ 19) : impl_StartOrder (s, u) () = some (ordV s, ()) := by
  have l0 := fun A : Type => (fold_loop (A := A) (F := impl_StartOrder_L0) (fun i out => ((i : Int), (s.1.length : Int), s, out, ())) s.1.length (fun i out => out.length = i) (fun i out => out ++ [(i : Int)]) (fun out => Sum.inl (false, (s.1.length : Int), (s.1.length : Int), s, out, ())) (by omega)
    (fun i out hi ho => by
      refine ⟨?_, by simp; omega⟩
      unfold impl_StartOrder_L0
      simp only [lt_yes hi, if_true, add_one out _ (show out.length ≤ 1000000 by omega), some_bind', idxN hi (show s.1.length ≤ 1099511627776 by omega) (Nat.le_refl _)])
    (fun out _ => by
      unfold impl_StartOrder_L0
      simp only [lt_no, Bool.false_eq_true, if_false])
    (a := []) rfl).1
  have f0 : foldN (fun i (out : List Int) => out ++ [(i : Int)]) s.1.length 0 [] = iotaI s.1.length := by
    rw [foldN_iota (fun (out : List Int) (x : Int) => out ++ [x]) s.1.length [], foldl_append]
    simp
  rw [f0] at l0
  have z : ((0 : Nat) : Int) = 0 := rfl
  simp only [z] at l0
  have hc : ∀ x ∈ iotaI s.1.length, ∀ y ∈ iotaI s.1.length, ∃ k, (fun v6 => (Option.bind (impl_StartOrder_1 v6 (s, ())) fun v7 => (some v7.1)) : D_Step → Option Int) (x, y, ()) = some k ∧ ltZ k 0 = keyB s.1 x y := fun x hx y hy => by
    obtain ⟨i, rfl, hi⟩ := iotaI_mem hx
    obtain ⟨j, rfl, hj⟩ := iotaI_mem hy
    obtain ⟨k, hk, hk2⟩ := Compare_lt s.1[i] s.1[j] ()
    refine ⟨k, ?_, ?_⟩
    · unfold impl_StartOrder_1
      simp only [getI_lt hi, getI_lt hj, some_bind', hk]
    · rw [hk2]
      unfold keyB
      simp only [getI_lt hi, getI_lt hj]
  have hso := fun u => SortStable_eq (fun v6 => (Option.bind (impl_StartOrder_1 v6 (s, ())) fun v7 => (some v7.1))) (keyB s.1) (iotaI s.1.length) (by rw [iotaI_length]; exact h) hc u
  unfold impl_StartOrder
  simp only [lenI_eq, l0, some_bind', hso]
  rfl
/-- the reference's way: a place found from the right -/
theorem Order_inner (s : D_Schedule) (out : List Int) (a i n : Int) (h : out.length ≤ 1000) (hk : ∀ y ∈ out, ∃ b, getI s.1 y = some b) {k : Int} (ha : getI s.1 a = some k) :
    ∃ m b, m ≤ out.length ∧ insK (keyB s.1) a out = out.take m ++ a :: out.drop m ∧ ∀ A : Type, loopN (A := A) big spec_StartOrder_L0 (a, out, (out.length : Int), i, n, s, ()) = some (.exit (Sum.inl (b, a, out, (m : Int), i, n, s, ()))) := by
  have hb : ∀ y, ∀ hy : y ∈ out, ∃ b, getI s.1 y = some b ∧ keyB s.1 a y = ltZ k b := fun y hy => by
    obtain ⟨b, hb⟩ := hk y hy
    refine ⟨b, hb, ?_⟩
    unfold keyB
    rw [ha, hb]
  rcases one_loop (F := spec_StartOrder_L0) (fun j (_ : Unit) => (a, out, ((out.length - j : Nat) : Int), i, n, s, ())) out.length (fun j _ => ∀ x ∈ out.drop (out.length - j), keyB s.1 a x = true)
    (fun b => ∃ m b0, m ≤ out.length ∧ insK (keyB s.1) a out = out.take m ++ a :: out.drop m ∧ b = Sum.inl (b0, a, out, (m : Int), i, n, s, ())) (fun _ => False) (by omega)
    (fun j _ hj hI => by
      have hspl : ∀ m, m ≤ out.length → (∀ x ∈ out.drop m, keyB s.1 a x = true) → (∀ hm : 0 < m, ∀ hm' : m - 1 < out.length, keyB s.1 a out[m - 1] = false) → insK (keyB s.1) a out = out.take m ++ a :: out.drop m := fun m hm h1 h2 => by
        have := insK_split (p := keyB s.1) (n := a) (A := out.take m) (B := out.drop m) h1 (fun A' y e => by
          have hl : (out.take m).length = A'.length + 1 := by rw [e]; simp
          rw [List.length_take] at hl
          have hm0 : 0 < m := by omega
          have := h2 hm0 (by omega)
          have hy : out[m - 1]'(by omega) = y := by
            have h3 : (out.take m)[m - 1]? = some y := by
              rw [e, List.getElem?_append_right (by omega)]
              simp [show m - 1 - A'.length = 0 by omega]
            rw [List.getElem?_take, if_pos (by omega), List.getElem?_eq_getElem (by omega)] at h3
            exact Option.some.inj h3
          rw [← hy]; exact this)
        rw [List.take_append_drop] at this
        exact this
      rcases Nat.lt_or_ge 0 (out.length - j) with hp | hp
      · obtain ⟨m, hm⟩ : ∃ m, out.length - j = m + 1 := ⟨out.length - j - 1, by omega⟩
        have hml : m < out.length := by omega
        have e0 : ltZ 0 ((m + 1 : Nat) : Int) = true := by rw [ltZ_iff]; omega
        have e1 := idx_pred m (by omega)
        obtain ⟨b, hb1, hb2⟩ := hb _ (List.getElem_mem hml)
        rw [hm] at hI
        rcases tf (ltZ k b) with q | q
        · refine .inr (.inl ⟨Sum.inl (false, a, out, ((m + 1 : Nat) : Int), i, n, s, ()), ?_, m + 1, false, by omega, hspl (m + 1) (by omega) hI (fun _ _ => by
            show keyB s.1 a out[m] = false
            rw [hb2]; exact q), rfl⟩)
          unfold spec_StartOrder_L0
          simp only [hm, e0, if_true, e1, getI_lt hml, hb1, ha, some_bind', q, Bool.false_eq_true, if_false]
        · refine .inl ⟨(), by omega, ?_, ?_⟩
          · have hm2 : out.length - (j + 1) = m := by omega
            unfold spec_StartOrder_L0
            simp only [hm, hm2, e0, if_true, e1, getI_lt hml, hb1, ha, some_bind', q]
          · rw [show out.length - (j + 1) = m by omega]
            intro x hx
            rw [List.drop_eq_getElem_cons hml] at hx
            rcases List.mem_cons.1 hx with rfl | hx
            · rw [hb2]; exact q
            · exact hI x hx
      · have hz : out.length - j = 0 := by omega
        refine .inr (.inl ⟨Sum.inl (false, a, out, 0, i, n, s, ()), ?_, 0, false, by omega, hspl 0 (by omega) (by rw [hz] at hI; exact hI) (fun h => by omega), rfl⟩)
        have e0 : ltZ 0 ((0 : Nat) : Int) = false := rfl
        unfold spec_StartOrder_L0
        simp only [hz, e0, Bool.false_eq_true, if_false, some_bind']
        rfl)
    (a := ()) (s := (a, out, (out.length : Int), i, n, s, ())) (by simp) (by simp) with ⟨b, e, m, b0, h1, h2, rfl⟩ | ⟨_, _, hf⟩
  · exact ⟨m, b0, h1, h2, e⟩
  · exact hf.elim
theorem StartOrder_spec (s : D_Schedule) (u : Unit) (h : s.1.length ≤ 19) : spec_StartOrder (s, u) () = some (ordV s, ()) := by
  have l0 := fun A : Type => (fold_list (A := A) (F := spec_StartOrder_L1) (fun i out => ((i : Int), (s.1.length : Int), s, out, ())) (iotaI s.1.length) (fun i out => out.length = i ∧ ∀ y ∈ out, ∃ j : Nat, y = (j : Int) ∧ j < s.1.length) (fun out x => insK (keyB s.1) x out) (fun out => Sum.inl (false, (s.1.length : Int), (s.1.length : Int), s, out, ())) (by rw [iotaI_length]; omega)
    (fun i out hi ho => by
      obtain ⟨ho1, ho2⟩ := ho
      have hi' : i < s.1.length := by rw [iotaI_length] at hi; exact hi
      rw [iotaI_get]
      obtain ⟨m, b, hm, hins, e⟩ := Order_inner s out (i : Int) (i : Int) (s.1.length : Int) (by omega) (fun y hy => by
        obtain ⟨j, rfl, hj⟩ := ho2 y hy
        exact ⟨_, getI_lt hj⟩) (getI_lt hi')
      have c1 : cutI out 0 (m : Int) = some (out.take m) := by
        unfold cutI
        rw [if_pos ⟨by omega, by omega, by omega⟩]
        simp
      have c2 : cutI out (m : Int) (lenI out) = some (out.drop m) := by
        unfold cutI
        rw [lenI_eq, if_pos ⟨by omega, by omega, by omega⟩]
        simp
      have lt : (out.take m).length ≤ m := by simp; omega
      have ld : (out.drop m).length = out.length - m := by simp
      have a1 := add_nil (out.take m) (by omega)
      have a2 := add_one (out.take m) (i : Int) (by omega)
      have a3 : addI (out.take m ++ [(i : Int)]) (out.drop m) = some (out.take m ++ [(i : Int)] ++ out.drop m) := addI_ok (by rw [room_eq]; simp; omega)
      refine ⟨?_, ?_, fun y hy => ?_⟩
      · unfold spec_StartOrder_L1
        simp only [lt_yes hi', if_true, lenI_eq, e, some_bind'] at *
        simp only [c1, c2, a1, a2, a3, some_bind', hins, idxN hi' (show s.1.length ≤ 1099511627776 by omega) (Nat.le_refl _), List.append_assoc, List.singleton_append]
      · rw [(insK_perm _ _ _).length_eq]; simp; omega
      · rcases List.mem_cons.1 ((insK_perm _ _ _).mem_iff.1 hy) with rfl | hy
        · exact ⟨i, rfl, hi'⟩
        · exact ho2 y hy)
    (fun out _ => by
      rw [iotaI_length]
      unfold spec_StartOrder_L1
      simp only [lt_no, Bool.false_eq_true, if_false])
    (a := []) (s := (0, (s.1.length : Int), s, [], ())) rfl ⟨rfl, by simp⟩).1
  unfold spec_StartOrder
  simp only [lenI_eq, l0, some_bind']
  rfl
end Go.Proofs.YtafnhdfjcocpgaaGreat
