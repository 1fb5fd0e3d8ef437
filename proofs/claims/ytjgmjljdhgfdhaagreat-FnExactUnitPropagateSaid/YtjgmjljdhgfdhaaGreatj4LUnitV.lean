/-
  Plain laws: what a literal says in a domain; what a clause says; the first clause that says something. Condition: no list is longer than 2 to the 20.
-/
import Derived.Test.YtjgmjljdhgfdhaaGreatj4LNegated
import Derived.Test.YtjgmjljdhgfdhaaGreatj4LSetM
import Derived.Test.YtjgmjljdhgfdhaaGreatj4LDom
namespace Go.Proofs.YtjgmjljdhgfdhaaGreat
open Go.Abs
set_option linter.unusedVariables false
set_option linter.unusedSimpArgs false

theorem eqL_intU (x y : List Int) : eqLB eqZ x y = decide (x = y) := by
  rw [Bool.eq_iff_iff, decide_eq_true_eq]
  unfold eqLB
  rw [Bool.and_eq_true, decide_eq_true_eq, List.all_eq_true]
  constructor
  · rintro ⟨h1, h2⟩
    refine List.ext_getElem h1 fun i a b => ?_
    have := h2 i (by simpa using a)
    rw [List.getElem?_eq_getElem a, List.getElem?_eq_getElem b, eqZ_iff] at this
    exact this
  · rintro rfl
    refine ⟨rfl, fun i hi => ?_⟩
    have hi : i < x.length := by simpa using hi
    rw [List.getElem?_eq_getElem hi]
    exact eqZ_self _
theorem Equal_intU (x y : List Int) (u : Unit) (hx : x.length ≤ 1099511627776) : slices_Equal_int_int (x, y, u) () = some (decide (x = y), ()) := by
  rw [← eqL_intU]
  unfold slices_Equal_int_int
  simp only [lenI_eq]
  by_cases h : x.length = y.length
  · have e : eqZ (x.length : Int) (y.length : Int) = true := by rw [eqZ_iff, h]
    have l0 := fun A : Type => pairS (A := A) (F := slices_Equal_int_int_L0) (fun i => ((i : Int), (x.length : Int), x, y, ())) (0, (x.length : Int), x, y, ()) x y h eqZ (Sum.inl (false, (x.length : Int), (x.length : Int), x, y, ())) (false, ()) rfl hx
      (fun i hi hi' => by
        unfold slices_Equal_int_int_L0
        simp only [lt_yes hi, if_true, getI_lt hi, getI_lt hi', some_bind', idxN hi hx (Nat.le_refl _)]
        cases eqZ x[i] y[i] <;> rfl)
      (by unfold slices_Equal_int_int_L0; simp only [lt_no, Bool.false_eq_true, if_false])
    simp only [e, notB_true, Bool.false_eq_true, if_false, l0]
    cases eqLB eqZ x y <;> rfl
  · have e : eqZ (x.length : Int) (y.length : Int) = false := by
      rw [Bool.eq_false_iff, Ne, eqZ_iff]
      intro he
      exact h (Int.ofNat.inj he)
    simp only [e, notB_false, if_true, eqLB_len h]
def valU (a b : Bool) : Int := if a = true then 1 else if b = true then -1 else 0
theorem valueOf_U (a b : Bool) (u : Unit) : impl_valueOf (a, b, u) () = some (valU a b, ()) := by
  unfold impl_valueOf valU
  cases a <;> cases b <;> rfl
theorem known_U (a b : Bool) (u : Unit) : spec_l12Known (a, b, u) () = some (valU a b, ()) := by
  unfold spec_l12Known valU
  cases a <;> cases b <;> rfl
def litQ (b : D_Domain) (l : D_Literal) : Int :=
  if hasV b l.2.1 = true then
    match getI b.1 l.2.1, getI b.2.1 l.2.1, getI b.2.2.1 l.2.1 with
    | some x, some y, some m => if eqZ l.1 1 = true then valU (leZ l.2.2.1 x) (ltZ y l.2.2.1) else if eqZ l.1 2 = true then valU (leZ y l.2.2.1) (ltZ l.2.2.1 x) else if eqZ l.1 3 = true then valU (decide (m = [l.2.2.1])) (notB (hasB m l.2.2.1)) else
      if eqZ l.1 4 = true then valU (notB (hasB m l.2.2.1)) (decide (m = [l.2.2.1])) else 1
    | _, _, _ => 1
  else 1
theorem just_eq (m : List Int) (v : Int) : (if eqZ (lenI m) 1 = true then Option.bind (getI m 0) fun x => some (eqZ x v) else some false) = some (decide (m = [v])) := by
  match m with
  | [] => rfl
  | [x] =>
    have : (decide ([x] = [v])) = eqZ x v := by rw [eqZ_dec]; simp
    rw [this]
    rfl
  | x :: y :: r =>
    have : eqZ (lenI (x :: y :: r)) 1 = false := by
      rw [Bool.eq_false_iff, Ne, eqZ_iff, lenI_eq]
      simp only [List.length_cons]
      omega
    have h2 : decide (x :: y :: r = [v]) = false := by simp
    rw [this, h2]
    rfl
theorem LiteralValue_sU (b : D_Domain) (l : D_Literal) (u : Unit) (hb : Sm_Domain 1099511627776 b) : spec_LiteralValue (b, l, u) () = some (litQ b l, ()) := by
  obtain ⟨k, a, v, u'⟩ := l
  unfold spec_LiteralValue litQ
  simp only [There_s _ _ _ hb, some_bind']
  rcases tf (hasV b a) with h | h
  · simp only [h, notB_false, if_true, Bool.false_eq_true, if_false]
  obtain ⟨i, rfl, h1, h2, h3⟩ := hasV_at h
  have hm := (hb.2.2.1.2 _ (List.getElem_mem h3)).1
  have hh := fun u => SetHas_spec b.2.2.1[i] v u hm
  simp only [h, notB_true, Bool.false_eq_true, if_false, if_true, getI_lt h1, getI_lt h2, getI_lt h3, some_bind']
  have hj := just_eq b.2.2.1[i] v
  rcases tf (eqZ (lenI b.2.2.1[i]) 1) with e | e
  · rw [if_neg (by rw [e]; exact Bool.false_ne_true)] at hj
    have hj := Option.some.inj hj
    simp only [e, Bool.false_eq_true, if_false, some_bind', hh, known_U, getI_lt h1, getI_lt h2, ← hj]
    rcases tf (eqZ k 1) with q | q
    · rcases tf (eqZ k 2) with q2 | q2
      · rcases tf (eqZ k 3) with q3 | q3
        · rcases tf (eqZ k 4) with q4 | q4 <;> simp only [q, q2, q3, q4, Bool.false_eq_true, if_false, if_true]
        · simp only [q, q2, q3, Bool.false_eq_true, if_false, if_true]
      · simp only [q, q2, Bool.false_eq_true, if_false, if_true]
    · simp only [q, if_true]
  · rw [if_pos e] at hj
    obtain ⟨x, hx, hj⟩ := Option.bind_eq_some_iff.1 hj
    have hj := Option.some.inj hj
    simp only [e, if_true, some_bind', hh, hx, known_U, getI_lt h1, getI_lt h2, hj]
    rcases tf (eqZ k 1) with q | q
    · rcases tf (eqZ k 2) with q2 | q2
      · rcases tf (eqZ k 3) with q3 | q3
        · rcases tf (eqZ k 4) with q4 | q4 <;> simp only [q, q2, q3, q4, Bool.false_eq_true, if_false, if_true]
        · simp only [q, q2, q3, Bool.false_eq_true, if_false, if_true]
      · simp only [q, q2, Bool.false_eq_true, if_false, if_true]
    · simp only [q, if_true]
theorem LiteralValue_iU (b : D_Domain) (l : D_Literal) (u : Unit) (hb : Sm_Domain 1099511627776 b) : impl_LiteralValue (b, l, u) () = some (litQ b l, ()) := by
  obtain ⟨k, a, v, u'⟩ := l
  unfold impl_LiteralValue litQ
  simp only [has_i, some_bind']
  rcases tf (hasV b a) with h | h
  · simp only [h, notB_false, if_true, Bool.false_eq_true, if_false]
  obtain ⟨i, rfl, h1, h2, h3⟩ := hasV_at h
  have hm := (hb.2.2.1.2 _ (List.getElem_mem h3)).1
  have hh := fun u => SetHas_impl b.2.2.1[i] v u hm
  have he : ∀ u, impl_SetEqual (b.2.2.1[i], [v], u) () = some (decide (b.2.2.1[i] = [v]), ()) := fun u => by
    unfold impl_SetEqual
    simp only [Equal_intU _ _ _ hm, some_bind']
  simp only [h, notB_true, Bool.false_eq_true, if_false, if_true, getI_lt h1, getI_lt h2, getI_lt h3, some_bind', hh, he, valueOf_U]
  have h4 : subZ .i64 0 (valU (decide (b.2.2.1[i] = [v])) (notB (hasB b.2.2.1[i] v))) = valU (notB (hasB b.2.2.1[i] v)) (decide (b.2.2.1[i] = [v])) := by
    by_cases hd : b.2.2.1[i] = [v]
    · have : hasB b.2.2.1[i] v = true := by
        rw [hd]
        unfold hasB
        simp [eqZ_self]
      rw [this, decide_eq_true hd]
      rfl
    · rw [decide_eq_false hd]
      cases hasB b.2.2.1[i] v <;> rfl
  rcases tf (eqZ k 1) with q | q
  · rcases tf (eqZ k 2) with q2 | q2
    · rcases tf (eqZ k 3) with q3 | q3
      · rcases tf (eqZ k 4) with q4 | q4 <;> simp only [q, q2, q3, q4, Bool.false_eq_true, if_false, if_true, h4]
      · simp only [q, q2, q3, Bool.false_eq_true, if_false, if_true]
    · simp only [q, q2, Bool.false_eq_true, if_false, if_true]
  · simp only [q, if_true]
/-- a literal that is open is of one of the four kinds -/
theorem litQ_kind {b : D_Domain} {l : D_Literal} (h : litQ b l = 0) : l.1 ≠ 0 := fun h0 => by
  unfold litQ at h
  rw [h0] at h
  have e : ∀ k : Int, k ≠ 0 → eqZ 0 k = false := fun k hk => by
    rw [Bool.eq_false_iff, Ne, eqZ_iff]
    exact fun h => hk h.symm
  simp only [e 1 (by decide), e 2 (by decide), e 3 (by decide), e 4 (by decide), Bool.false_eq_true, if_false] at h
  split at h
  · split at h <;> cases h
  · cases h
abbrev zL : D_Literal := (0, 0, 0, ())
/-- what a clause says -/
def statV (f : D_Literal → Int) (l : List D_Literal) : Int × D_Literal :=
  if l.any (fun x => eqZ (f x) 1) = true then (1, zL) else match l.filter fun x => eqZ (f x) 0 with
    | [] => (-1, zL)
    | [x] => (0, x)
    | _ => (0, zL)
theorem stat_loop {σ A B C : Type} {F : σ → Option (Out σ B C)} (emb : Nat → Int → D_Literal → σ) (l : List D_Literal) (f : D_Literal → Int) (c : C) (b : Int → D_Literal → B) (hn : l.length ≤ 1099511627776)
    (hs : ∀ i (n : Int) o (h : i < l.length), F (emb i n o) = some (if eqZ (f l[i]) 1 = true then .ret c else if eqZ (f l[i]) 0 = true then .norm (emb (i + 1) (addZ .i64 n 1) l[i]) else .norm (emb (i + 1) n o))) (he : ∀ n o, F (emb l.length n o) = some (.exit (b n o))) :
    loopN (A := A) big F (emb 0 0 zL) = some (if l.any (fun x => eqZ (f x) 1) = true then .ret c else .exit (b (l.filter fun x => eqZ (f x) 0).length ((l.filter fun x => eqZ (f x) 0).getLastD zL))) := by
  have key : ∀ (rest pre : List D_Literal) (N n : Nat) (o : D_Literal), l = pre ++ rest → n ≤ pre.length → rest.length < N →
      loopN (A := A) N F (emb pre.length (n : Int) o) = some (if rest.any (fun x => eqZ (f x) 1) = true then .ret c else .exit (b ((n + (rest.filter fun x => eqZ (f x) 0).length : Nat) : Int) ((rest.filter fun x => eqZ (f x) 0).getLastD o))) := by
    intro rest
    induction rest with
    | nil =>
      intro pre N n o hl hnp hN
      obtain ⟨N, rfl⟩ : ∃ M, N = M + 1 := ⟨N - 1, by simp at hN; omega⟩
      have : pre.length = l.length := by rw [hl]; simp
      rw [this]
      simp only [loopN, he]
      rfl
    | cons x rest ih =>
      intro pre N n o hl hnp hN
      obtain ⟨N, rfl⟩ : ∃ M, N = M + 1 := ⟨N - 1, by simp at hN; omega⟩
      have hlt : pre.length < l.length := by rw [hl]; simp
      have hx : l[pre.length] = x := by simp [hl]
      have hl2 : l = (pre ++ [x]) ++ rest := by rw [hl]; simp
      have hlen : (pre ++ [x]).length = pre.length + 1 := by simp
      have ha : addZ .i64 (n : Int) 1 = ((n + 1 : Nat) : Int) := by
        have h1 : pre.length < 1099511627776 := by omega
        exact idxN (n := 1099511627776) (by omega) (Nat.le_refl _) (Nat.le_refl _)
      simp only [List.length_cons] at hN
      simp only [loopN, hs _ _ _ hlt, hx, List.any_cons, List.filter_cons]
      rcases tf (eqZ (f x) 1) with h1 | h1
      · rcases tf (eqZ (f x) 0) with h0 | h0
        · have := ih (pre ++ [x]) N n o hl2 (by omega) (by omega)
          rw [hlen] at this
          simp only [h1, h0, Bool.false_eq_true, if_false, Bool.false_or, Option.bind_some, this]
        · have := ih (pre ++ [x]) N (n + 1) x hl2 (by omega) (by omega)
          rw [hlen] at this
          simp only [h1, h0, Bool.false_eq_true, if_false, if_true, Bool.false_or, Option.bind_some, ha, this, List.length_cons, List.getLastD_cons]
          rw [show n + 1 + (rest.filter fun x => eqZ (f x) 0).length = n + ((rest.filter fun x => eqZ (f x) 0).length + 1) by omega]
      · simp only [h1, if_true, Bool.true_or, Option.bind_some]
  have := key l [] big 0 zL rfl (Nat.le_refl _) (lt_bigN hn)
  rw [Nat.zero_add] at this
  exact this
theorem ClauseStatus_sU (b : D_Domain) (l : List D_Literal) (u : Unit) (hb : Sm_Domain 1099511627776 b) (hl : l.length ≤ 1099511627776) : spec_ClauseStatus (b, l, u) () = some (((statV (litQ b) l).1, (statV (litQ b) l).2, ()), ()) := by
  unfold spec_ClauseStatus
  have l0 := fun A : Type => stat_loop (A := A) (F := spec_ClauseStatus_L0) (fun i n o => ((i : Int), (l.length : Int), l, b, n, o, zL, ())) l (litQ b) ((1, zL, ()), ()) (fun n o => Sum.inl (false, (l.length : Int), (l.length : Int), l, b, n, o, zL, ())) hl
    (fun i n o hi => by
      unfold spec_ClauseStatus_L0
      simp only [lt_yes hi, if_true, getI_lt hi, some_bind', LiteralValue_sU _ _ _ hb, idxN hi hl (Nat.le_refl _)]
      rcases tf (eqZ (litQ b l[i]) 1) with h1 | h1
      · rcases tf (eqZ (litQ b l[i]) 0) with h0 | h0 <;> simp only [h1, h0, Bool.false_eq_true, if_false, if_true, some_bind', idxN hi hl (Nat.le_refl _)]
      · simp only [h1, if_true])
    (fun n o => by
      unfold spec_ClauseStatus_L0
      simp only [lt_no, Bool.false_eq_true, if_false])
  have e0 : (((0 : Nat) : Int), (l.length : Int), l, b, (0 : Int), zL, zL, ()) = ((0 : Int), (l.length : Int), l, b, (0 : Int), zL, zL, ()) := rfl
  rw [e0] at l0
  simp only [lenI_eq, l0, some_bind']
  unfold statV
  rcases tf (l.any fun x => eqZ (litQ b x) 1) with h | h
  · simp only [h, Bool.false_eq_true, if_false]
    match hf : l.filter fun x => eqZ (litQ b x) 0 with
    | [] => rfl
    | [x] => rfl
    | x :: y :: r =>
      have e1 : eqZ (((x :: y :: r).length : Nat) : Int) 0 = false := by
        rw [Bool.eq_false_iff, Ne, eqZ_iff]; simp only [List.length_cons]; omega
      have e2 : ltZ 1 (((x :: y :: r).length : Nat) : Int) = true := by
        rw [ltZ_iff]; simp only [List.length_cons]; omega
      simp only [e1, e2, Bool.false_eq_true, if_false, if_true]
  · simp only [h, if_true]
theorem ClauseStatus_iU (b : D_Domain) (l : List D_Literal) (u : Unit) (hb : Sm_Domain 1099511627776 b) (hl : l.length ≤ 1099511627776) : impl_ClauseStatus (b, l, u) () = some (((statV (litQ b) l).1, (statV (litQ b) l).2, ()), ()) := by
  unfold impl_ClauseStatus
  have l0 := fun A : Type => stat_loop (A := A) (F := impl_ClauseStatus_L0) (fun i n o => ((i : Int), (l.length : Int), l, b, n, o, zL, ())) l (litQ b) ((1, zL, ()), ()) (fun n o => Sum.inl (false, (l.length : Int), (l.length : Int), l, b, n, o, zL, ())) hl
    (fun i n o hi => by
      unfold impl_ClauseStatus_L0
      simp only [lt_yes hi, if_true, getI_lt hi, some_bind', LiteralValue_iU _ _ _ hb, idxN hi hl (Nat.le_refl _)]
      rcases tf (eqZ (litQ b l[i]) 1) with h1 | h1
      · rcases tf (eqZ (litQ b l[i]) 0) with h0 | h0 <;> simp only [h1, h0, Bool.false_eq_true, if_false, if_true, some_bind', idxN hi hl (Nat.le_refl _)]
      · simp only [h1, if_true])
    (fun n o => by
      unfold impl_ClauseStatus_L0
      simp only [lt_no, Bool.false_eq_true, if_false])
  have e0 : (((0 : Nat) : Int), (l.length : Int), l, b, (0 : Int), zL, zL, ()) = ((0 : Int), (l.length : Int), l, b, (0 : Int), zL, zL, ()) := rfl
  rw [e0] at l0
  simp only [lenI_eq, l0, some_bind']
  unfold statV
  rcases tf (l.any fun x => eqZ (litQ b x) 1) with h | h
  · simp only [h, Bool.false_eq_true, if_false]
    match hf : l.filter fun x => eqZ (litQ b x) 0 with
    | [] => rfl
    | [x] => rfl
    | x :: y :: r =>
      have e1 : eqZ (((x :: y :: r).length : Nat) : Int) 0 = false := by
        rw [Bool.eq_false_iff, Ne, eqZ_iff]; simp only [List.length_cons]; omega
      have e2 : eqZ (((x :: y :: r).length : Nat) : Int) 1 = false := by
        rw [Bool.eq_false_iff, Ne, eqZ_iff]; simp only [List.length_cons]; omega
      simp only [e1, e2, Bool.false_eq_true, if_false]
  · simp only [h, if_true]
/-- a clause says something: it is broken, or one literal is left -/
def hitV (f : D_Literal → Int) (l : List D_Literal) : Bool := ltZ (statV f l).1 0 || (eqZ (statV f l).1 0 && notB (eqZ (statV f l).2.1 0))
theorem statV_cases (f : D_Literal → Int) (l : List D_Literal) : statV f l = (1, zL) ∨ statV f l = (-1, zL) ∨ statV f l = (0, zL) ∨ ∃ x ∈ l, f x = 0 ∧ statV f l = (0, x) := by
  unfold statV
  rcases tf (l.any fun x => eqZ (f x) 1) with h | h
  · rw [if_neg (by rw [h]; exact Bool.false_ne_true)]
    match hf : l.filter fun x => eqZ (f x) 0 with
    | [] => exact .inr (.inl rfl)
    | [x] =>
      have hx : x ∈ l.filter fun x => eqZ (f x) 0 := by rw [hf]; exact List.mem_cons_self ..
      obtain ⟨h1, h2⟩ := List.mem_filter.1 hx
      exact .inr (.inr (.inr ⟨x, h1, eqZ_iff.1 h2, rfl⟩))
    | x :: y :: r => exact .inr (.inr (.inl rfl))
  · rw [if_pos h]
    exact .inl rfl
end Go.Proofs.YtjgmjljdhgfdhaaGreat
