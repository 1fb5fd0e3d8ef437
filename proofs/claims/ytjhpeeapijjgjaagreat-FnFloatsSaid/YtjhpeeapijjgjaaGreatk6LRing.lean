/-
  Plain laws: the reference's search for a positive cycle ends: with a list. Condition: no list is longer than 2 to the 40; at most three activities.
-/
import Derived.Test.YtjhpeeapijjgjaaGreatk6LRunM
import Derived.Test.YtjhpeeapijjgjaaGreatk6LLeastM
import Derived.Test.YtjhpeeapijjgjaaGreatk6LSetM
namespace Go.Proofs.YtjhpeeapijjgjaaGreat
open Go.Abs
set_option linter.unusedVariables false
set_option linter.unusedSimpArgs false

theorem ModeIdx_T (a : D_Activity) (u : Unit) (h : a.2.2.1.length ≤ 200) : spec_ModeIndexes (a, u) () = some (iotaI a.2.2.1.length, ()) := by
  unfold spec_ModeIndexes
  simp only [lenI_eq, rangeN_s _ _ h, some_bind']
theorem MinDur_T {p : D_Project} (h : projB p = true) {i : Nat} (hi : i < p.2.1.length) (u : Unit) : ∃ v, spec_MinDuration (p.2.1[i], iotaI p.2.1[i].2.2.1.length, u) () = some (v, ()) ∧ 0 ≤ v ∧ v ≤ 12 := by
  have ha := mode_len h hi
  refine ⟨_, MinDuration_spec _ _ _ (by omega) (by rw [iotaI_length]; omega), ?_⟩
  rw [dur_lst]
  exact lstV_in _ (by omega) (by omega) fun m hm => by
    obtain ⟨h1, h2, -⟩ := mode_atM h hi m hm
    omega
theorem l08Short_T {p : D_Project} (h : projB p = true) {i : Nat} (hi : i < p.2.1.length) (u : Unit) : ∃ v, spec_l08Short (p, (i : Int), u) () = some (v, ()) ∧ 0 ≤ v ∧ v ≤ 12 := by
  have ha := mode_len h hi
  obtain ⟨v, e, h1, h2⟩ := MinDur_T h hi ()
  refine ⟨v, ?_, h1, h2⟩
  unfold spec_l08Short
  simp only [getI_lt hi, some_bind', ModeIdx_T _ _ (show p.2.1[i].2.2.1.length ≤ 200 by omega), e]
theorem l07All_T {p : D_Project} (hp : Sm_Project 1099511627776 p) (h : projB p = true) {k : Nat} (hk : k < p.2.2.1.length) (u : Unit) : ∃ v, spec_l07All (p, (k : Int), u) () = some (v, ()) ∧ -60 ≤ v ∧ v ≤ 72 := by
  obtain ⟨f, t, ef, et, hf, ht, -, g1, g2⟩ := link_at hp h hk
  have ha := mode_len h hf
  obtain ⟨v, e, h1, h2⟩ := MinDur_T h hf ()
  rcases tf p.2.2.1[k].2.2.1 with q | q
  · refine ⟨p.2.2.1[k].2.2.2.1, ?_, by omega, by omega⟩
    unfold spec_l07All spec_l07Gap
    simp only [getI_lt hk, ef, getI_lt hf, some_bind', ModeIdx_T _ _ (show p.2.1[f].2.2.1.length ≤ 200 by omega), q, Bool.false_eq_true, if_false]
  · refine ⟨addZ .i64 p.2.2.1[k].2.2.2.1 v, ?_, by rw [addZ64 (by omega) (by omega)]; omega, by rw [addZ64 (by omega) (by omega)]; omega⟩
    unfold spec_l07All spec_l07Gap
    simp only [getI_lt hk, ef, getI_lt hf, some_bind', ModeIdx_T _ _ (show p.2.1[f].2.2.1.length ≤ 200 by omega), q, if_true, e]
/-- a way: links of the project -/
def wayOk (p : D_Project) (w : List Int) : Prop := ∀ x ∈ w, ∃ k : Nat, x = (k : Int) ∧ k < p.2.2.1.length
theorem wayOk.at {p : D_Project} {w : List Int} (h : wayOk p w) {i : Nat} (hi : i < w.length) : ∃ k : Nat, getI w (i : Int) = some (k : Int) ∧ k < p.2.2.1.length := by
  obtain ⟨k, e, hk⟩ := h _ (List.getElem_mem hi)
  exact ⟨k, by rw [getI_lt hi, e], hk⟩

theorem add_nilT (l : List Int) (h : l.length ≤ 1000000) : addI [] l = some l := by
  rw [addI_ok (by rw [room_eq]; simp; omega)]
  rfl
theorem cut_T (l : List Int) {k : Nat} (h : k ≤ l.length) : cutI l 0 (k : Int) = some (l.take k) := by
  unfold cutI
  simp
  omega
theorem ring_L0_r1 {p : D_Project} (hp : Sm_Project 1099511627776 p) (h : projB p = true) {w : List Int} (hw : wayOk p w) (hl : w.length ≤ 10) (most : Int) : ∃ s, ∀ A : Type, loopN (A := A) big spec_l07Ring_r1_L0 (0, (w.length : Int), w, p, 0, most, w, ()) = some (.exit (Sum.inl (false, (w.length : Int), (w.length : Int), w, p, s, most, w, ()))) := by
  rcases one_loop (F := spec_l07Ring_r1_L0) (fun i (s : Int) => ((i : Int), (w.length : Int), w, p, s, most, w, ())) w.length (fun _ _ => True)
    (fun b => ∃ s, b = Sum.inl (false, (w.length : Int), (w.length : Int), w, p, s, most, w, ())) (fun _ => False) (by omega)
    (fun i s hi _ => by
      by_cases hi' : i < w.length
      · obtain ⟨k, g, hk⟩ := hw.at hi'
        obtain ⟨v, e, -⟩ := l07All_T hp h hk ()
        refine .inl ⟨addZ .i64 s v, hi', ?_, trivial⟩
        unfold spec_l07Ring_r1_L0
        simp only [lt_yes hi', if_true, g, some_bind', e, idxN hi' (Nat.le_refl _) (show w.length ≤ 1099511627776 by omega)]
      · obtain rfl : i = w.length := by omega
        refine .inr (.inl ⟨_, ?_, s, rfl⟩)
        unfold spec_l07Ring_r1_L0
        simp only [lt_no, Bool.false_eq_true, if_false])
    (a := 0) rfl trivial with ⟨b, e, s, rfl⟩ | ⟨c, -, hc⟩
  · exact ⟨s, e⟩
  · exact absurd hc id
theorem ring_r1 {p : D_Project} (hp : Sm_Project 1099511627776 p) (h : projB p = true) {w : List Int} (hw : wayOk p w) (h1 : 1 ≤ w.length) {most : Nat} (hm : w.length ≤ most) (hk : most ≤ w.length + 0) (hm9 : most ≤ 6) (u : Unit) : ∃ l, spec_l07Ring_r1 (p, w, (most : Int), u) () = some (l, ()) := by
  obtain ⟨k0, g0, h0⟩ := hw.at (show 0 < w.length by omega)
  obtain ⟨k1, g1, hk1⟩ := hw.at (show w.length - 1 < w.length by omega)
  have z : ((0 : Nat) : Int) = 0 := rfl
  rw [z] at g0
  have es : subZ .i64 (lenI w) 1 = ((w.length - 1 : Nat) : Int) := by rw [lenI_eq, subZ64 (by omega) (by omega)]; omega
  unfold spec_l07Ring_r1
  simp only [g0, some_bind', getI_lt h0, es, g1, getI_lt hk1]
  rcases tf (eqZ p.2.2.1[k1].2.1 p.2.2.1[k0].1) with q | q
  · simp only [q, Bool.false_eq_true, if_false]
    rcases tf (eqZ (lenI w) (most : Int)) with q2 | q2
    · exfalso
      rw [Bool.eq_false_iff, Ne, eqZ_iff, lenI_eq] at q2
      omega
    · simp only [q2, if_true]
      exact ⟨_, rfl⟩
  · obtain ⟨s, e⟩ := ring_L0_r1 hp h hw (by omega) (most : Int)
    simp only [q, if_true, lenI_eq, e, some_bind']
    rcases tf (ltZ 0 s) with q2 | q2
    · simp only [q2, Bool.false_eq_true, if_false, some_bind']
      exact ⟨_, rfl⟩
    · simp only [q2, if_true, some_bind']
      rcases tf (eqZ (w.length : Int) (most : Int)) with q3 | q3
      · simp only [q3, Bool.false_eq_true, if_false]
        exact ⟨_, rfl⟩
      · simp only [q3, if_true]
        exact ⟨_, rfl⟩
theorem ring_L0_r2 {p : D_Project} (hp : Sm_Project 1099511627776 p) (h : projB p = true) {w : List Int} (hw : wayOk p w) (hl : w.length ≤ 10) (most : Int) : ∃ s, ∀ A : Type, loopN (A := A) big spec_l07Ring_r2_L0 (0, (w.length : Int), w, p, 0, most, w, ()) = some (.exit (Sum.inl (false, (w.length : Int), (w.length : Int), w, p, s, most, w, ()))) := by
  rcases one_loop (F := spec_l07Ring_r2_L0) (fun i (s : Int) => ((i : Int), (w.length : Int), w, p, s, most, w, ())) w.length (fun _ _ => True)
    (fun b => ∃ s, b = Sum.inl (false, (w.length : Int), (w.length : Int), w, p, s, most, w, ())) (fun _ => False) (by omega)
    (fun i s hi _ => by
      by_cases hi' : i < w.length
      · obtain ⟨k, g, hk⟩ := hw.at hi'
        obtain ⟨v, e, -⟩ := l07All_T hp h hk ()
        refine .inl ⟨addZ .i64 s v, hi', ?_, trivial⟩
        unfold spec_l07Ring_r2_L0
        simp only [lt_yes hi', if_true, g, some_bind', e, idxN hi' (Nat.le_refl _) (show w.length ≤ 1099511627776 by omega)]
      · obtain rfl : i = w.length := by omega
        refine .inr (.inl ⟨_, ?_, s, rfl⟩)
        unfold spec_l07Ring_r2_L0
        simp only [lt_no, Bool.false_eq_true, if_false])
    (a := 0) rfl trivial with ⟨b, e, s, rfl⟩ | ⟨c, -, hc⟩
  · exact ⟨s, e⟩
  · exact absurd hc id
theorem ring_L1_r2 {p : D_Project} (hp : Sm_Project 1099511627776 p) (h : projB p = true) {w : List Int} (hw : wayOk p w) (hl : w.length ≤ 10) (last : Int) (x : List Int) (most : Int) :
    (∀ A : Type, loopN (A := A) big spec_l07Ring_r2_L1 (0, (w.length : Int), w, last, p, x, most, ()) = some (.exit (Sum.inl (false, (w.length : Int), (w.length : Int), w, last, p, x, most, ())))) ∨ ∀ A : Type, loopN (A := A) big spec_l07Ring_r2_L1 (0, (w.length : Int), w, last, p, x, most, ()) = some (.ret ([], ())) := by
  rcases one_loop (F := spec_l07Ring_r2_L1) (fun i (_ : Unit) => ((i : Int), (w.length : Int), w, last, p, x, most, ())) w.length (fun _ _ => True)
    (fun b => b = Sum.inl (false, (w.length : Int), (w.length : Int), w, last, p, x, most, ())) (fun c => c = ([], ())) (by omega)
    (fun i s hi _ => by
      by_cases hi' : i < w.length
      · obtain ⟨k, g, hk⟩ := hw.at hi'
        rcases tf (eqZ p.2.2.1[k].2.1 last) with q | q
        · refine .inl ⟨(), hi', ?_, trivial⟩
          unfold spec_l07Ring_r2_L1
          simp only [lt_yes hi', if_true, g, some_bind', getI_lt hk, q, Bool.false_eq_true, if_false, idxN hi' (Nat.le_refl _) (show w.length ≤ 1099511627776 by omega)]
        · refine .inr (.inr ⟨_, ?_, rfl⟩)
          unfold spec_l07Ring_r2_L1
          simp only [lt_yes hi', if_true, g, some_bind', getI_lt hk, q]
      · obtain rfl : i = w.length := by omega
        refine .inr (.inl ⟨_, ?_, rfl⟩)
        unfold spec_l07Ring_r2_L1
        simp only [lt_no, Bool.false_eq_true, if_false])
    (a := ()) rfl trivial with ⟨b, e, rfl⟩ | ⟨c, e, rfl⟩
  · exact .inl e
  · exact .inr e
theorem ring_L2_r2 {p : D_Project} (hp : Sm_Project 1099511627776 p) (h : projB p = true) {w : List Int} (hw : wayOk p w) (h1 : 1 ≤ w.length) {most : Nat} (hm : w.length < most) (hk : most ≤ w.length + 1) (hm9 : most ≤ 6) (last : Int) :
    (∀ A : Type, loopN (A := A) big spec_l07Ring_r2_L2 (0, (p.2.2.1.length : Int), p.2.2.1, last, p, w, (most : Int), ()) = some (.exit (Sum.inl (false, (p.2.2.1.length : Int), (p.2.2.1.length : Int), p.2.2.1, last, p, w, (most : Int), ())))) ∨ ∃ l, ∀ A : Type, loopN (A := A) big spec_l07Ring_r2_L2 (0, (p.2.2.1.length : Int), p.2.2.1, last, p, w, (most : Int), ()) = some (.ret (l, ())) := by
  have hl := hp.2.2.1.1
  rcases one_loop (F := spec_l07Ring_r2_L2) (fun i (_ : Unit) => ((i : Int), (p.2.2.1.length : Int), p.2.2.1, last, p, w, (most : Int), ())) p.2.2.1.length (fun _ _ => True)
    (fun b => b = Sum.inl (false, (p.2.2.1.length : Int), (p.2.2.1.length : Int), p.2.2.1, last, p, w, (most : Int), ())) (fun c => ∃ l, c = (l, ())) hl
    (fun i s hi _ => by
      by_cases hi' : i < p.2.2.1.length
      · obtain ⟨k0, g0, -⟩ := hw.at (show 0 < w.length by omega)
        have z : ((0 : Nat) : Int) = 0 := rfl
        rw [z] at g0
        have a1 := add_nilT w (by omega)
        have a2 : addI w [(i : Int)] = some (w ++ [(i : Int)]) := addI_ok (by rw [room_eq]; simp; omega)
        have hw2 : wayOk p (w ++ [(i : Int)]) := fun x hx => by
          rcases List.mem_append.1 hx with hx | hx
          · exact hw x hx
          · rw [List.mem_singleton.1 hx]; exact ⟨i, rfl, hi'⟩
        obtain ⟨l, er⟩ := ring_r1 hp h hw2 (by simp) (most := most) (by simp; omega) (by simp; omega) hm9 ()
        rcases tf (notB (eqZ p.2.2.1[i].1 last)) with q | q
        · rcases tf (leZ (i : Int) (k0 : Int)) with q2 | q2
          · rcases tf (ltZ 0 (lenI l)) with q3 | q3
            · refine .inl ⟨(), hi', ?_, trivial⟩
              unfold spec_l07Ring_r2_L2
              simp only [lt_yes hi', if_true, getI_lt hi', some_bind', q, Bool.false_eq_true, if_false, g0, q2, a1, a2, er, q3, idxN hi' (Nat.le_refl _) (show p.2.2.1.length ≤ 1099511627776 by omega)]
            · refine .inr (.inr ⟨_, ?_, l, rfl⟩)
              unfold spec_l07Ring_r2_L2
              simp only [lt_yes hi', if_true, getI_lt hi', some_bind', q, Bool.false_eq_true, if_false, g0, q2, a1, a2, er, q3]
          · refine .inl ⟨(), hi', ?_, trivial⟩
            unfold spec_l07Ring_r2_L2
            simp only [lt_yes hi', if_true, getI_lt hi', some_bind', q, Bool.false_eq_true, if_false, g0, q2, idxN hi' (Nat.le_refl _) (show p.2.2.1.length ≤ 1099511627776 by omega)]
        · refine .inl ⟨(), hi', ?_, trivial⟩
          unfold spec_l07Ring_r2_L2
          simp only [lt_yes hi', if_true, getI_lt hi', some_bind', q, idxN hi' (Nat.le_refl _) (show p.2.2.1.length ≤ 1099511627776 by omega)]
      · obtain rfl : i = p.2.2.1.length := by omega
        refine .inr (.inl ⟨_, ?_, rfl⟩)
        unfold spec_l07Ring_r2_L2
        simp only [lt_no, Bool.false_eq_true, if_false])
    (a := ()) rfl trivial with ⟨b, e, rfl⟩ | ⟨c, e, l, rfl⟩
  · exact .inl e
  · exact .inr ⟨l, e⟩
theorem ring_r2 {p : D_Project} (hp : Sm_Project 1099511627776 p) (h : projB p = true) {w : List Int} (hw : wayOk p w) (h1 : 1 ≤ w.length) {most : Nat} (hm : w.length ≤ most) (hk : most ≤ w.length + 1) (hm9 : most ≤ 6) (u : Unit) : ∃ l, spec_l07Ring_r2 (p, w, (most : Int), u) () = some (l, ()) := by
  obtain ⟨k0, g0, h0⟩ := hw.at (show 0 < w.length by omega)
  obtain ⟨k1, g1, hk1⟩ := hw.at (show w.length - 1 < w.length by omega)
  have z : ((0 : Nat) : Int) = 0 := rfl
  rw [z] at g0
  have es : subZ .i64 (lenI w) 1 = ((w.length - 1 : Nat) : Int) := by rw [lenI_eq, subZ64 (by omega) (by omega)]; omega
  unfold spec_l07Ring_r2
  simp only [g0, some_bind', getI_lt h0, es, g1, getI_lt hk1]
  rcases tf (eqZ p.2.2.1[k1].2.1 p.2.2.1[k0].1) with q | q
  · simp only [q, Bool.false_eq_true, if_false]
    rcases tf (eqZ (lenI w) (most : Int)) with q2 | q2
    · have : w.length < most := by
        rw [Bool.eq_false_iff, Ne, eqZ_iff, lenI_eq] at q2
        omega
      rw [lenI_eq] at q2
      have hcut : cutI w 0 ((w.length - 1 : Nat) : Int) = some (w.take (w.length - 1)) := cut_T w (by omega)
      have hwt : wayOk p (w.take (w.length - 1)) := fun x hx => hw x (List.mem_of_mem_take hx)
      have hlt : (w.take (w.length - 1)).length ≤ 10 := by rw [List.length_take]; omega
      simp only [q2, Bool.false_eq_true, if_false, hcut, some_bind', lenI_eq]
      rcases ring_L1_r2 hp h hwt hlt p.2.2.1[k1].2.1 w (most : Int) with e | e
      · simp only [e, some_bind']
        rcases ring_L2_r2 hp h hw h1 this (by omega) hm9 p.2.2.1[k1].2.1 with e2 | ⟨l, e2⟩
        · simp only [e2, some_bind']
          exact ⟨_, rfl⟩
        · simp only [e2, some_bind']
          exact ⟨_, rfl⟩
      · simp only [e, some_bind']
        exact ⟨_, rfl⟩
    · simp only [q2, if_true]
      exact ⟨_, rfl⟩
  · obtain ⟨s, e⟩ := ring_L0_r2 hp h hw (by omega) (most : Int)
    simp only [q, if_true, lenI_eq, e, some_bind']
    rcases tf (ltZ 0 s) with q2 | q2
    · simp only [q2, Bool.false_eq_true, if_false, some_bind']
      exact ⟨_, rfl⟩
    · simp only [q2, if_true, some_bind']
      rcases tf (eqZ (w.length : Int) (most : Int)) with q3 | q3
      · simp only [q3, Bool.false_eq_true, if_false]
        exact ⟨_, rfl⟩
      · simp only [q3, if_true]
        exact ⟨_, rfl⟩
theorem ring_L0_top {p : D_Project} (hp : Sm_Project 1099511627776 p) (h : projB p = true) {w : List Int} (hw : wayOk p w) (hl : w.length ≤ 10) (most : Int) : ∃ s, ∀ A : Type, loopN (A := A) big spec_l07Ring_L0 (0, (w.length : Int), w, p, 0, most, w, ()) = some (.exit (Sum.inl (false, (w.length : Int), (w.length : Int), w, p, s, most, w, ()))) := by
  rcases one_loop (F := spec_l07Ring_L0) (fun i (s : Int) => ((i : Int), (w.length : Int), w, p, s, most, w, ())) w.length (fun _ _ => True)
    (fun b => ∃ s, b = Sum.inl (false, (w.length : Int), (w.length : Int), w, p, s, most, w, ())) (fun _ => False) (by omega)
    (fun i s hi _ => by
      by_cases hi' : i < w.length
      · obtain ⟨k, g, hk⟩ := hw.at hi'
        obtain ⟨v, e, -⟩ := l07All_T hp h hk ()
        refine .inl ⟨addZ .i64 s v, hi', ?_, trivial⟩
        unfold spec_l07Ring_L0
        simp only [lt_yes hi', if_true, g, some_bind', e, idxN hi' (Nat.le_refl _) (show w.length ≤ 1099511627776 by omega)]
      · obtain rfl : i = w.length := by omega
        refine .inr (.inl ⟨_, ?_, s, rfl⟩)
        unfold spec_l07Ring_L0
        simp only [lt_no, Bool.false_eq_true, if_false])
    (a := 0) rfl trivial with ⟨b, e, s, rfl⟩ | ⟨c, -, hc⟩
  · exact ⟨s, e⟩
  · exact absurd hc id
theorem ring_L1_top {p : D_Project} (hp : Sm_Project 1099511627776 p) (h : projB p = true) {w : List Int} (hw : wayOk p w) (hl : w.length ≤ 10) (last : Int) (x : List Int) (most : Int) :
    (∀ A : Type, loopN (A := A) big spec_l07Ring_L1 (0, (w.length : Int), w, last, p, x, most, ()) = some (.exit (Sum.inl (false, (w.length : Int), (w.length : Int), w, last, p, x, most, ())))) ∨ ∀ A : Type, loopN (A := A) big spec_l07Ring_L1 (0, (w.length : Int), w, last, p, x, most, ()) = some (.ret ([], ())) := by
  rcases one_loop (F := spec_l07Ring_L1) (fun i (_ : Unit) => ((i : Int), (w.length : Int), w, last, p, x, most, ())) w.length (fun _ _ => True)
    (fun b => b = Sum.inl (false, (w.length : Int), (w.length : Int), w, last, p, x, most, ())) (fun c => c = ([], ())) (by omega)
    (fun i s hi _ => by
      by_cases hi' : i < w.length
      · obtain ⟨k, g, hk⟩ := hw.at hi'
        rcases tf (eqZ p.2.2.1[k].2.1 last) with q | q
        · refine .inl ⟨(), hi', ?_, trivial⟩
          unfold spec_l07Ring_L1
          simp only [lt_yes hi', if_true, g, some_bind', getI_lt hk, q, Bool.false_eq_true, if_false, idxN hi' (Nat.le_refl _) (show w.length ≤ 1099511627776 by omega)]
        · refine .inr (.inr ⟨_, ?_, rfl⟩)
          unfold spec_l07Ring_L1
          simp only [lt_yes hi', if_true, g, some_bind', getI_lt hk, q]
      · obtain rfl : i = w.length := by omega
        refine .inr (.inl ⟨_, ?_, rfl⟩)
        unfold spec_l07Ring_L1
        simp only [lt_no, Bool.false_eq_true, if_false])
    (a := ()) rfl trivial with ⟨b, e, rfl⟩ | ⟨c, e, rfl⟩
  · exact .inl e
  · exact .inr e
theorem ring_L2_top {p : D_Project} (hp : Sm_Project 1099511627776 p) (h : projB p = true) {w : List Int} (hw : wayOk p w) (h1 : 1 ≤ w.length) {most : Nat} (hm : w.length < most) (hk : most ≤ w.length + 2) (hm9 : most ≤ 6) (last : Int) :
    (∀ A : Type, loopN (A := A) big spec_l07Ring_L2 (0, (p.2.2.1.length : Int), p.2.2.1, last, p, w, (most : Int), ()) = some (.exit (Sum.inl (false, (p.2.2.1.length : Int), (p.2.2.1.length : Int), p.2.2.1, last, p, w, (most : Int), ())))) ∨ ∃ l, ∀ A : Type, loopN (A := A) big spec_l07Ring_L2 (0, (p.2.2.1.length : Int), p.2.2.1, last, p, w, (most : Int), ()) = some (.ret (l, ())) := by
  have hl := hp.2.2.1.1
  rcases one_loop (F := spec_l07Ring_L2) (fun i (_ : Unit) => ((i : Int), (p.2.2.1.length : Int), p.2.2.1, last, p, w, (most : Int), ())) p.2.2.1.length (fun _ _ => True)
    (fun b => b = Sum.inl (false, (p.2.2.1.length : Int), (p.2.2.1.length : Int), p.2.2.1, last, p, w, (most : Int), ())) (fun c => ∃ l, c = (l, ())) hl
    (fun i s hi _ => by
      by_cases hi' : i < p.2.2.1.length
      · obtain ⟨k0, g0, -⟩ := hw.at (show 0 < w.length by omega)
        have z : ((0 : Nat) : Int) = 0 := rfl
        rw [z] at g0
        have a1 := add_nilT w (by omega)
        have a2 : addI w [(i : Int)] = some (w ++ [(i : Int)]) := addI_ok (by rw [room_eq]; simp; omega)
        have hw2 : wayOk p (w ++ [(i : Int)]) := fun x hx => by
          rcases List.mem_append.1 hx with hx | hx
          · exact hw x hx
          · rw [List.mem_singleton.1 hx]; exact ⟨i, rfl, hi'⟩
        obtain ⟨l, er⟩ := ring_r2 hp h hw2 (by simp) (most := most) (by simp; omega) (by simp; omega) hm9 ()
        rcases tf (notB (eqZ p.2.2.1[i].1 last)) with q | q
        · rcases tf (leZ (i : Int) (k0 : Int)) with q2 | q2
          · rcases tf (ltZ 0 (lenI l)) with q3 | q3
            · refine .inl ⟨(), hi', ?_, trivial⟩
              unfold spec_l07Ring_L2
              simp only [lt_yes hi', if_true, getI_lt hi', some_bind', q, Bool.false_eq_true, if_false, g0, q2, a1, a2, er, q3, idxN hi' (Nat.le_refl _) (show p.2.2.1.length ≤ 1099511627776 by omega)]
            · refine .inr (.inr ⟨_, ?_, l, rfl⟩)
              unfold spec_l07Ring_L2
              simp only [lt_yes hi', if_true, getI_lt hi', some_bind', q, Bool.false_eq_true, if_false, g0, q2, a1, a2, er, q3]
          · refine .inl ⟨(), hi', ?_, trivial⟩
            unfold spec_l07Ring_L2
            simp only [lt_yes hi', if_true, getI_lt hi', some_bind', q, Bool.false_eq_true, if_false, g0, q2, idxN hi' (Nat.le_refl _) (show p.2.2.1.length ≤ 1099511627776 by omega)]
        · refine .inl ⟨(), hi', ?_, trivial⟩
          unfold spec_l07Ring_L2
          simp only [lt_yes hi', if_true, getI_lt hi', some_bind', q, idxN hi' (Nat.le_refl _) (show p.2.2.1.length ≤ 1099511627776 by omega)]
      · obtain rfl : i = p.2.2.1.length := by omega
        refine .inr (.inl ⟨_, ?_, rfl⟩)
        unfold spec_l07Ring_L2
        simp only [lt_no, Bool.false_eq_true, if_false])
    (a := ()) rfl trivial with ⟨b, e, rfl⟩ | ⟨c, e, l, rfl⟩
  · exact .inl e
  · exact .inr ⟨l, e⟩
theorem ring_top {p : D_Project} (hp : Sm_Project 1099511627776 p) (h : projB p = true) {w : List Int} (hw : wayOk p w) (h1 : 1 ≤ w.length) {most : Nat} (hm : w.length ≤ most) (hk : most ≤ w.length + 2) (hm9 : most ≤ 6) (u : Unit) : ∃ l, spec_l07Ring (p, w, (most : Int), u) () = some (l, ()) := by
  obtain ⟨k0, g0, h0⟩ := hw.at (show 0 < w.length by omega)
  obtain ⟨k1, g1, hk1⟩ := hw.at (show w.length - 1 < w.length by omega)
  have z : ((0 : Nat) : Int) = 0 := rfl
  rw [z] at g0
  have es : subZ .i64 (lenI w) 1 = ((w.length - 1 : Nat) : Int) := by rw [lenI_eq, subZ64 (by omega) (by omega)]; omega
  unfold spec_l07Ring
  simp only [g0, some_bind', getI_lt h0, es, g1, getI_lt hk1]
  rcases tf (eqZ p.2.2.1[k1].2.1 p.2.2.1[k0].1) with q | q
  · simp only [q, Bool.false_eq_true, if_false]
    rcases tf (eqZ (lenI w) (most : Int)) with q2 | q2
    · have : w.length < most := by
        rw [Bool.eq_false_iff, Ne, eqZ_iff, lenI_eq] at q2
        omega
      rw [lenI_eq] at q2
      have hcut : cutI w 0 ((w.length - 1 : Nat) : Int) = some (w.take (w.length - 1)) := cut_T w (by omega)
      have hwt : wayOk p (w.take (w.length - 1)) := fun x hx => hw x (List.mem_of_mem_take hx)
      have hlt : (w.take (w.length - 1)).length ≤ 10 := by rw [List.length_take]; omega
      simp only [q2, Bool.false_eq_true, if_false, hcut, some_bind', lenI_eq]
      rcases ring_L1_top hp h hwt hlt p.2.2.1[k1].2.1 w (most : Int) with e | e
      · simp only [e, some_bind']
        rcases ring_L2_top hp h hw h1 this (by omega) hm9 p.2.2.1[k1].2.1 with e2 | ⟨l, e2⟩
        · simp only [e2, some_bind']
          exact ⟨_, rfl⟩
        · simp only [e2, some_bind']
          exact ⟨_, rfl⟩
      · simp only [e, some_bind']
        exact ⟨_, rfl⟩
    · simp only [q2, if_true]
      exact ⟨_, rfl⟩
  · obtain ⟨s, e⟩ := ring_L0_top hp h hw (by omega) (most : Int)
    simp only [q, if_true, lenI_eq, e, some_bind']
    rcases tf (ltZ 0 s) with q2 | q2
    · simp only [q2, Bool.false_eq_true, if_false, some_bind']
      exact ⟨_, rfl⟩
    · simp only [q2, if_true, some_bind']
      rcases tf (eqZ (w.length : Int) (most : Int)) with q3 | q3
      · simp only [q3, Bool.false_eq_true, if_false]
        exact ⟨_, rfl⟩
      · simp only [q3, if_true]
        exact ⟨_, rfl⟩
theorem PositiveCycle_T {p : D_Project} (hp : Sm_Project 1099511627776 p) (h3 : p.2.1.length ≤ 3) (u : Unit) : ∃ l, spec_PositiveCycle (p, u) () = some (l, ()) := by
  unfold spec_PositiveCycle
  simp only [ProjectOk_spec _ _ hp, some_bind']
  rcases tf (projB p) with h | h
  · simp only [h, notB_false, if_true]
    exact ⟨_, rfl⟩
  have l0 : ∀ most : Nat, 2 ≤ most → most ≤ 3 → (∀ A : Type, loopN (A := A) big spec_PositiveCycle_L0 (0, (p.2.2.1.length : Int), (most : Int), p, ()) = some (.exit (Sum.inl (false, (p.2.2.1.length : Int), (p.2.2.1.length : Int), (most : Int), p, ())))) ∨ ∃ l, ∀ A : Type, loopN (A := A) big spec_PositiveCycle_L0 (0, (p.2.2.1.length : Int), (most : Int), p, ()) = some (.ret (l, ())) := fun most m2 m3 => by
    rcases one_loop (F := spec_PositiveCycle_L0) (fun i (_ : Unit) => ((i : Int), (p.2.2.1.length : Int), (most : Int), p, ())) p.2.2.1.length (fun _ _ => True)
      (fun b => b = Sum.inl (false, (p.2.2.1.length : Int), (p.2.2.1.length : Int), (most : Int), p, ())) (fun c => ∃ l, c = (l, ())) hp.2.2.1.1
      (fun i s hi _ => by
        by_cases hi' : i < p.2.2.1.length
        · obtain ⟨l, er⟩ := ring_top hp h (w := [(i : Int)]) (fun x hx => by rw [List.mem_singleton.1 hx]; exact ⟨i, rfl, hi'⟩) (by simp) (most := most) (by simp; omega) (by simp; omega) (by omega) ()
          rcases tf (ltZ 0 (lenI l)) with q | q
          · refine .inl ⟨(), hi', ?_, trivial⟩
            unfold spec_PositiveCycle_L0
            simp only [lt_yes hi', if_true, er, some_bind', q, Bool.false_eq_true, if_false, idxN hi' (Nat.le_refl _) hp.2.2.1.1]
          · refine .inr (.inr ⟨_, ?_, l, rfl⟩)
            unfold spec_PositiveCycle_L0
            simp only [lt_yes hi', if_true, er, some_bind', q]
        · obtain rfl : i = p.2.2.1.length := by omega
          refine .inr (.inl ⟨_, ?_, rfl⟩)
          unfold spec_PositiveCycle_L0
          simp only [lt_no, Bool.false_eq_true, if_false])
      (a := ()) rfl trivial with ⟨b, e, rfl⟩ | ⟨c, e, l, rfl⟩
    · exact .inl e
    · exact .inr ⟨l, e⟩
  have z2 : ((2 : Nat) : Int) = 2 := rfl
  have l1 : (∃ m : Int, ∃ bo : Bool, ∀ A : Type, loopN (A := A) big spec_PositiveCycle_L1 (2, p, ()) = some (.exit (Sum.inl (bo, m, p, ())))) ∨ ∃ l, ∀ A : Type, loopN (A := A) big spec_PositiveCycle_L1 (2, p, ()) = some (.ret (l, ())) := by
    rcases one_loop (F := spec_PositiveCycle_L1) (fun i (_ : Unit) => (((2 + i : Nat) : Int), p, ())) 2 (fun _ _ => True)
      (fun b => ∃ (bo : Bool) (m : Int), b = Sum.inl (bo, m, p, ())) (fun c => ∃ l, c = (l, ())) (by omega)
      (fun i s hi _ => by
        rcases tf (leZ ((2 + i : Nat) : Int) (lenI p.2.1)) with q | q
        · refine .inr (.inl ⟨Sum.inl (false, ((2 + i : Nat) : Int), p, ()), ?_, false, _, rfl⟩)
          unfold spec_PositiveCycle_L1
          simp only [q, Bool.false_eq_true, if_false]
        · have hm : 2 + i ≤ 3 := by rw [leZ_iff, lenI_eq] at q; omega
          have e1 : addZ .i64 ((2 + i : Nat) : Int) 1 = ((2 + (i + 1) : Nat) : Int) := by rw [addZ64 (by omega) (by omega)]; omega
          rcases l0 (2 + i) (by omega) hm with e | ⟨l, e⟩
          · refine .inl ⟨(), by omega, ?_, trivial⟩
            unfold spec_PositiveCycle_L1
            simp only [q, if_true, lenI_eq, e, some_bind', e1]
            rw [← lenI_eq, q]
            simp only [if_true]
          · refine .inr (.inr ⟨_, ?_, l, rfl⟩)
            unfold spec_PositiveCycle_L1
            simp only [q, if_true]
            simp only [lenI_eq, e, some_bind'])
      (a := ()) rfl trivial with ⟨b, e, bo, m, rfl⟩ | ⟨c, e, l, rfl⟩
    · exact .inl ⟨m, bo, e⟩
    · exact .inr ⟨l, e⟩
  simp only [h, notB_true, Bool.false_eq_true, if_false]
  rcases l1 with ⟨m, bo, e⟩ | ⟨l, e⟩
  · simp only [e, some_bind']
    exact ⟨_, rfl⟩
  · simp only [e, some_bind']
    exact ⟨_, rfl⟩
end Go.Proofs.YtjhpeeapijjgjaaGreat
