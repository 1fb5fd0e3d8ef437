/-
  Plain laws: the reference's distances, latest starts and orders of activities are found, whatever they are. Condition: no list is longer than 2 to the 40; at most three activities.
-/
import Derived.Test.YtjhpeeapijjgjaaGreatk6LRing
import Derived.Test.YtjhpeeapijjgjaaGreatk6LRunM
namespace Go.Proofs.YtjhpeeapijjgjaaGreat
open Go.Abs
set_option linter.unusedVariables false
set_option linter.unusedSimpArgs false

/-- a square of numbers -/
structure MatN (n : Nat) (m : List (List Int)) : Prop where
  l : m.length = n
  r : ∀ row ∈ m, row.length = n
theorem MatN.get {n : Nat} {m : List (List Int)} (h : MatN n m) {i k : Nat} (hi : i < n) (hk : k < n) : ∃ row v, getI m (i : Int) = some row ∧ getI row (k : Int) = some v := by
  have hl := h.l
  have hi' : i < m.length := by omega
  have hr := h.r _ (List.getElem_mem hi')
  exact ⟨m[i], m[i][k], getI_lt hi', getI_lt (by omega)⟩
theorem MatN.set {n : Nat} {m : List (List Int)} (h : MatN n m) (i k : Nat) (v : Int) : MatN n (setI m (i : Int) (fun row => setI row (k : Int) (fun _ => v))) := by
  refine ⟨by rw [setI_length]; exact h.l, fun row hr => ?_⟩
  rw [setI_nat] at hr
  obtain ⟨j, hj, rfl⟩ := List.mem_iff_getElem.1 hr
  rw [List.length_modify] at hj
  rw [List.getElem_modify]
  split
  · rw [setI_length]; exact h.r _ (List.getElem_mem hj)
  · exact h.r _ (List.getElem_mem hj)
theorem min_specT (x y : Int) (u : Unit) : ∃ v, spec_l02Min (x, y, u) () = some (v, ()) := by
  unfold spec_l02Min
  rcases tf (ltZ x y) with h | h
  · exact ⟨y, by simp [h]⟩
  · exact ⟨x, by simp [h]⟩
theorem dist_row (n : Nat) (hn : n ≤ 6) (i : Int) (out : List (List Int)) (a b : Int) (p : D_Project) (hp : p.2.1.length = n) : ∃ row : List Int, row.length = n ∧ ∀ A : Type, loopN (A := A) big spec_l08Dist_L0 (0, (n : Int), i, out, [], a, b, p, ()) = some (.exit (Sum.inl (false, (n : Int), (n : Int), i, out, row, a, b, p, ()))) := by
  rcases one_loop (F := spec_l08Dist_L0) (fun k (row : List Int) => ((k : Int), (n : Int), i, out, row, a, b, p, ())) n (fun k row => row.length = k)
    (fun o => ∃ row : List Int, row.length = n ∧ o = Sum.inl (false, (n : Int), (n : Int), i, out, row, a, b, p, ())) (fun _ => False) (by omega)
    (fun k row hk hr => by
      by_cases hk' : k < n
      · have ad : ∀ v : Int, addI row [v] = some (row ++ [v]) := fun v => addI_ok (by rw [room_eq]; simp; omega)
        rcases tf (eqZ i (k : Int)) with q | q
        · refine .inl ⟨row ++ [-1000], hk', ?_, by simp [hr]⟩
          unfold spec_l08Dist_L0
          simp only [lt_yes hk', if_true, q, Bool.false_eq_true, if_false, some_bind', ad, idxN hk' (Nat.le_refl _) (show n ≤ 1099511627776 by omega)]
        · refine .inl ⟨row ++ [0], hk', ?_, by simp [hr]⟩
          unfold spec_l08Dist_L0
          simp only [lt_yes hk', if_true, q, some_bind', ad, idxN hk' (Nat.le_refl _) (show n ≤ 1099511627776 by omega)]
      · obtain rfl : k = n := by omega
        refine .inr (.inl ⟨_, ?_, row, hr, rfl⟩)
        unfold spec_l08Dist_L0
        simp only [lt_no, Bool.false_eq_true, if_false])
    (a := []) rfl rfl with ⟨o, e, row, hr, rfl⟩ | ⟨c, -, hc⟩
  · exact ⟨row, hr, e⟩
  · exact absurd hc id
theorem dist_start {p : D_Project} {n : Nat} (hn : n ≤ 6) (hp : p.2.1.length = n) : ∃ m, MatN n m ∧ ∀ A : Type, loopN (A := A) big spec_l08Dist_L1 (0, (n : Int), p, [], ()) = some (.exit (Sum.inl (false, (n : Int), (n : Int), p, m, ()))) := by
  rcases one_loop (F := spec_l08Dist_L1) (fun i (m : List (List Int)) => ((i : Int), (n : Int), p, m, ())) n (fun i m => m.length = i ∧ ∀ row ∈ m, row.length = n)
    (fun o => ∃ m, MatN n m ∧ o = Sum.inl (false, (n : Int), (n : Int), p, m, ())) (fun _ => False) (by omega)
    (fun i m hi hI => by
      obtain ⟨h1, h2⟩ := hI
      by_cases hi' : i < n
      · obtain ⟨row, hr, e⟩ := dist_row n hn (i : Int) m (i : Int) (n : Int) p hp
        have ad : addI m [row] = some (m ++ [row]) := addI_ok (by rw [room_eq]; simp; omega)
        refine .inl ⟨m ++ [row], hi', ?_, by simp [h1], fun r hr' => ?_⟩
        · unfold spec_l08Dist_L1
          simp only [lt_yes hi', if_true, lenI_eq, hp, e, some_bind', ad, idxN hi' (Nat.le_refl _) (show n ≤ 1099511627776 by omega)]
        · rcases List.mem_append.1 hr' with hr' | hr'
          · exact h2 r hr'
          · rw [List.mem_singleton.1 hr']; exact hr
      · obtain rfl : i = n := by omega
        refine .inr (.inl ⟨_, ?_, m, ⟨h1, h2⟩, rfl⟩)
        unfold spec_l08Dist_L1
        simp only [lt_no, Bool.false_eq_true, if_false])
    (a := []) rfl ⟨rfl, fun r hr => absurd hr (by simp)⟩ with ⟨o, e, m, hm, rfl⟩ | ⟨c, -, hc⟩
  · exact ⟨m, hm, e⟩
  · exact absurd hc id
theorem dist_links {p : D_Project} (hp : Sm_Project 1099511627776 p) (h : projB p = true) {m : List (List Int)} (hm : MatN p.2.1.length m) : ∃ m', MatN p.2.1.length m' ∧ ∀ A : Type, loopN (A := A) big spec_l08Dist_L2 (0, (p.2.2.1.length : Int), p.2.2.1, p, m, ()) = some (.exit (Sum.inl (false, (p.2.2.1.length : Int), (p.2.2.1.length : Int), p.2.2.1, p, m', ()))) := by
  rcases one_loop (F := spec_l08Dist_L2) (fun i (m : List (List Int)) => ((i : Int), (p.2.2.1.length : Int), p.2.2.1, p, m, ())) p.2.2.1.length (fun i m => MatN p.2.1.length m)
    (fun o => ∃ m, MatN p.2.1.length m ∧ o = Sum.inl (false, (p.2.2.1.length : Int), (p.2.2.1.length : Int), p.2.2.1, p, m, ())) (fun _ => False) hp.2.2.1.1
    (fun i m hi hI => by
      by_cases hi' : i < p.2.2.1.length
      · obtain ⟨f, t, ef, et, hf, ht, -⟩ := link_at hp h hi'
        obtain ⟨row, v, g1, g2⟩ := hI.get hf ht
        obtain ⟨w, e, -⟩ := l07All_T hp h hi' ()
        refine .inl ⟨_, hi', ?_, hI.set f t (maxI v w)⟩
        unfold spec_l08Dist_L2
        simp only [lt_yes hi', if_true, getI_lt hi', some_bind', ef, et, g1, g2, e, max_spec, idxN hi' (Nat.le_refl _) hp.2.2.1.1]
      · obtain rfl : i = p.2.2.1.length := by omega
        refine .inr (.inl ⟨_, ?_, m, hI, rfl⟩)
        unfold spec_l08Dist_L2
        simp only [lt_no, Bool.false_eq_true, if_false])
    (a := m) rfl hm with ⟨o, e, m', hm', rfl⟩ | ⟨c, -, hc⟩
  · exact ⟨m', hm', e⟩
  · exact absurd hc id
theorem dist_3 {n : Nat} (hn : n ≤ 6) {i m : Nat} (hi : i < n) (hm : m < n) (p : D_Project) {M : List (List Int)} (hM : MatN n M) : ∃ M', MatN n M' ∧ ∀ A : Type, loopN (A := A) big spec_l08Dist_L3 (0, (n : Int), (i : Int), (i : Int), (n : Int), (m : Int), (m : Int), (n : Int), p, M, ()) = some (.exit (Sum.inl (false, (n : Int), (n : Int), (i : Int), (i : Int), (n : Int), (m : Int), (m : Int), (n : Int), p, M', ()))) := by
  rcases one_loop (F := spec_l08Dist_L3) (fun k (M : List (List Int)) => ((k : Int), (n : Int), (i : Int), (i : Int), (n : Int), (m : Int), (m : Int), (n : Int), p, M, ())) n (fun k M => MatN n M)
    (fun o => ∃ M', MatN n M' ∧ o = Sum.inl (false, (n : Int), (n : Int), (i : Int), (i : Int), (n : Int), (m : Int), (m : Int), (n : Int), p, M', ())) (fun _ => False) (by omega)
    (fun k M hk hI => by
      by_cases hk' : k < n
      · obtain ⟨ri, a, g1, g2⟩ := hI.get hi hm
        obtain ⟨rm, b, g3, g4⟩ := hI.get hm hk'
        obtain ⟨ri', c, g5, g6⟩ := hI.get hi hk'
        rw [g1] at g5
        cases g5
        rcases tf (notB (eqZ a (-1000))) with q | q
        · refine .inl ⟨M, hk', ?_, hI⟩
          unfold spec_l08Dist_L3
          simp only [lt_yes hk', if_true, some_bind', g1, g2, q, Bool.false_eq_true, if_false, idxN hk' (Nat.le_refl _) (show n ≤ 1099511627776 by omega)]
        · rcases tf (notB (eqZ b (-1000))) with q2 | q2
          · refine .inl ⟨M, hk', ?_, hI⟩
            unfold spec_l08Dist_L3
            simp only [lt_yes hk', if_true, some_bind', g1, g2, q, g3, g4, q2, Bool.false_eq_true, if_false, idxN hk' (Nat.le_refl _) (show n ≤ 1099511627776 by omega)]
          · refine .inl ⟨_, hk', ?_, hI.set i k (maxI c (addZ .i64 a b))⟩
            unfold spec_l08Dist_L3
            simp only [lt_yes hk', if_true, some_bind', g1, g2, q, g3, g4, q2, g6, max_spec, idxN hk' (Nat.le_refl _) (show n ≤ 1099511627776 by omega)]
      · obtain rfl : k = n := by omega
        refine .inr (.inl ⟨_, ?_, M, hI, rfl⟩)
        unfold spec_l08Dist_L3
        simp only [lt_no, Bool.false_eq_true, if_false])
    (a := M) rfl hM with ⟨o, e, m', hm', rfl⟩ | ⟨c, -, hc⟩
  · exact ⟨m', hm', e⟩
  · exact absurd hc id
theorem dist_4 {n : Nat} (hn : n ≤ 6) {m : Nat} (hm : m < n) {p : D_Project} (hp : p.2.1.length = n) {M : List (List Int)} (hM : MatN n M) : ∃ M', MatN n M' ∧ ∀ A : Type, loopN (A := A) big spec_l08Dist_L4 (0, (n : Int), (m : Int), (m : Int), (n : Int), p, M, ()) = some (.exit (Sum.inl (false, (n : Int), (n : Int), (m : Int), (m : Int), (n : Int), p, M', ()))) := by
  rcases one_loop (F := spec_l08Dist_L4) (fun k (M : List (List Int)) => ((k : Int), (n : Int), (m : Int), (m : Int), (n : Int), p, M, ())) n (fun k M => MatN n M)
    (fun o => ∃ M', MatN n M' ∧ o = Sum.inl (false, (n : Int), (n : Int), (m : Int), (m : Int), (n : Int), p, M', ())) (fun _ => False) (by omega)
    (fun k M hk hI => by
      by_cases hk' : k < n
      · obtain ⟨M', hM', e⟩ := dist_3 hn hk' hm p hI
        refine .inl ⟨M', hk', ?_, hM'⟩
        unfold spec_l08Dist_L4
        simp only [lt_yes hk', if_true, lenI_eq, hp, e, some_bind', idxN hk' (Nat.le_refl _) (show n ≤ 1099511627776 by omega)]
      · obtain rfl : k = n := by omega
        refine .inr (.inl ⟨_, ?_, M, hI, rfl⟩)
        unfold spec_l08Dist_L4
        simp only [lt_no, Bool.false_eq_true, if_false])
    (a := M) rfl hM with ⟨o, e, m', hm', rfl⟩ | ⟨c, -, hc⟩
  · exact ⟨m', hm', e⟩
  · exact absurd hc id
theorem dist_5 {n : Nat} (hn : n ≤ 6) {p : D_Project} (hp : p.2.1.length = n) {M : List (List Int)} (hM : MatN n M) : ∃ M', MatN n M' ∧ ∀ A : Type, loopN (A := A) big spec_l08Dist_L5 (0, (n : Int), p, M, ()) = some (.exit (Sum.inl (false, (n : Int), (n : Int), p, M', ()))) := by
  rcases one_loop (F := spec_l08Dist_L5) (fun k (M : List (List Int)) => ((k : Int), (n : Int), p, M, ())) n (fun k M => MatN n M)
    (fun o => ∃ M', MatN n M' ∧ o = Sum.inl (false, (n : Int), (n : Int), p, M', ())) (fun _ => False) (by omega)
    (fun k M hk hI => by
      by_cases hk' : k < n
      · obtain ⟨M', hM', e⟩ := dist_4 hn hk' hp hI
        refine .inl ⟨M', hk', ?_, hM'⟩
        unfold spec_l08Dist_L5
        simp only [lt_yes hk', if_true, lenI_eq, hp, e, some_bind', idxN hk' (Nat.le_refl _) (show n ≤ 1099511627776 by omega)]
      · obtain rfl : k = n := by omega
        refine .inr (.inl ⟨_, ?_, M, hI, rfl⟩)
        unfold spec_l08Dist_L5
        simp only [lt_no, Bool.false_eq_true, if_false])
    (a := M) rfl hM with ⟨o, e, m', hm', rfl⟩ | ⟨c, -, hc⟩
  · exact ⟨m', hm', e⟩
  · exact absurd hc id
theorem Distances_T {p : D_Project} (hp : Sm_Project 1099511627776 p) (h : projB p = true) (h3 : p.2.1.length ≤ 3) (u : Unit) : ∃ M, spec_Distances (p, u) () = some (M, ()) ∧ (M = [] ∨ MatN p.2.1.length M) := by
  obtain ⟨l, el⟩ := PositiveCycle_T hp h3 ()
  unfold spec_Distances
  simp only [ProjectOk_spec _ _ hp, h, notB_true, Bool.false_eq_true, if_false, el, some_bind']
  rcases tf (ltZ 0 (lenI l)) with q | q
  · obtain ⟨M1, h1, e1⟩ := dist_start (p := p) (n := p.2.1.length) (by omega) rfl
    obtain ⟨M2, h2, e2⟩ := dist_links hp h h1
    obtain ⟨M3, hM3, e3⟩ := dist_5 (p := p) (n := p.2.1.length) (by omega) rfl h2
    have : ∀ u, spec_l08Dist (p, u) () = some (M3, ()) := fun u => by
      unfold spec_l08Dist
      simp only [lenI_eq, e1, e2, e3, some_bind']
    simp only [q, Bool.false_eq_true, if_false, this, some_bind']
    exact ⟨M3, rfl, .inr hM3⟩
  · simp only [q, if_true]
    exact ⟨[], rfl, .inl rfl⟩
theorem late_row {p : D_Project} (h : projB p = true) {M : List (List Int)} (hM : MatN p.2.1.length M) {i : Nat} (hi : i < p.2.1.length) (out : List Int) (t acc a b : Int) : ∃ v : Int, ∀ A : Type, loopN (A := A) big spec_LatestStarts_L0 (0, (M.length : Int), (i : Int), out, acc, a, b, t, p, M, ()) = some (.exit (Sum.inl (false, (M.length : Int), (M.length : Int), (i : Int), out, v, a, b, t, p, M, ()))) := by
  have hl := hM.l
  have h6 := (proj_acts h).2
  rcases one_loop (F := spec_LatestStarts_L0) (fun k (acc : Int) => ((k : Int), (M.length : Int), (i : Int), out, acc, a, b, t, p, M, ())) M.length (fun k _ => True)
    (fun o => ∃ v, o = Sum.inl (false, (M.length : Int), (M.length : Int), (i : Int), out, v, a, b, t, p, M, ())) (fun _ => False) (by omega)
    (fun k acc hk _ => by
      by_cases hk' : k < M.length
      · obtain ⟨ri, x, g1, g2⟩ := hM.get hi (show k < p.2.1.length by omega)
        obtain ⟨w, e, -⟩ := l08Short_T h (show k < p.2.1.length by omega) ()
        rcases tf (notB (eqZ x (-1000))) with q | q
        · refine .inl ⟨acc, hk', ?_, trivial⟩
          unfold spec_LatestStarts_L0
          simp only [lt_yes hk', if_true, some_bind', g1, g2, q, Bool.false_eq_true, if_false, idxN hk' (Nat.le_refl _) (show M.length ≤ 1099511627776 by omega)]
        · obtain ⟨v, ev⟩ := min_specT acc (subZ .i64 (subZ .i64 t w) x) ()
          refine .inl ⟨v, hk', ?_, trivial⟩
          unfold spec_LatestStarts_L0
          simp only [lt_yes hk', if_true, some_bind', g1, g2, q, e, ev, idxN hk' (Nat.le_refl _) (show M.length ≤ 1099511627776 by omega)]
      · obtain rfl : k = M.length := by omega
        refine .inr (.inl ⟨_, ?_, acc, rfl⟩)
        unfold spec_LatestStarts_L0
        simp only [lt_no, Bool.false_eq_true, if_false])
    (a := acc) rfl trivial with ⟨o, e, v, rfl⟩ | ⟨c, -, hc⟩
  · exact ⟨v, e⟩
  · exact absurd hc id
theorem LatestStarts_T {p : D_Project} (hp : Sm_Project 1099511627776 p) (h : projB p = true) (h3 : p.2.1.length ≤ 3) (t : Int) (u : Unit) : ∃ l, spec_LatestStarts (p, t, u) () = some (l, ()) ∧ (l = [] ∨ l.length = p.2.1.length) := by
  obtain ⟨M, eM, hM⟩ := Distances_T hp h h3 ()
  have key : ∃ l : List Int, (∀ A : Type, loopN (A := A) big spec_LatestStarts_L1 (0, (M.length : Int), t, p, M, [], ()) = some (.exit (Sum.inl (false, (M.length : Int), (M.length : Int), t, p, M, l, ())))) ∧ l.length = M.length := by
    have hlen : M.length ≤ 6 := by
      rcases hM with rfl | hM
      · simp
      · rw [hM.l]; omega
    rcases one_loop (F := spec_LatestStarts_L1) (fun i (out : List Int) => ((i : Int), (M.length : Int), t, p, M, out, ())) M.length (fun i out => out.length = i)
      (fun o => ∃ l : List Int, o = Sum.inl (false, (M.length : Int), (M.length : Int), t, p, M, l, ()) ∧ l.length = M.length) (fun _ => False) (by omega)
      (fun i out hi ho => by
        by_cases hi' : i < M.length
        · have hMN : MatN p.2.1.length M := by
            rcases hM with rfl | hM
            · simp at hi'
            · exact hM
          have hl := hMN.l
          obtain ⟨w, e, -⟩ := l08Short_T h (show i < p.2.1.length by omega) ()
          obtain ⟨v, ev⟩ := late_row h hMN (show i < p.2.1.length by omega) out t (subZ .i64 t w) (i : Int) (M.length : Int)
          have ad : addI out [v] = some (out ++ [v]) := addI_ok (by rw [room_eq]; simp; omega)
          refine .inl ⟨out ++ [v], hi', ?_, by simp [ho]⟩
          unfold spec_LatestStarts_L1
          simp only [lt_yes hi', if_true, e, some_bind', lenI_eq, ev, ad, idxN hi' (Nat.le_refl _) (show M.length ≤ 1099511627776 by omega)]
        · obtain rfl : i = M.length := by omega
          refine .inr (.inl ⟨_, ?_, out, rfl, ho⟩)
          unfold spec_LatestStarts_L1
          simp only [lt_no, Bool.false_eq_true, if_false])
      (a := []) rfl rfl with ⟨o, e, l, rfl, hl⟩ | ⟨c, -, hc⟩
    · exact ⟨l, e, hl⟩
    · exact absurd hc id
  obtain ⟨l, e, hl⟩ := key
  refine ⟨l, ?_, ?_⟩
  · unfold spec_LatestStarts
    simp only [eM, some_bind', lenI_eq, e]
  · rcases hM with rfl | hM
    · exact .inl (List.eq_nil_of_length_eq_zero hl)
    · exact .inr (by rw [hl, hM.l])
theorem TailLength_T {p : D_Project} (hp : Sm_Project 1099511627776 p) (h : projB p = true) (h3 : p.2.1.length ≤ 3) {a : Nat} (ha : a < p.2.1.length) (u : Unit) : ∃ v, spec_TailLength (p, (a : Int), u) () = some (v, ()) := by
  obtain ⟨M, eM, hM⟩ := Distances_T hp h h3 ()
  unfold spec_TailLength
  simp only [eM, some_bind', l01In_eq]
  rcases tf (inB (a : Int) 0 (subZ .i64 (lenI M) 1)) with q | q
  · simp only [q, notB_false, if_true]
    exact ⟨_, rfl⟩
  have hMN : MatN p.2.1.length M := by
    rcases hM with rfl | hM
    · have := inB_iff.1 q
      rw [lenI_eq, subZ64 (by simp) (by simp)] at this
      simp at this
      omega
    · exact hM
  have hl := hMN.l
  have key : ∃ v : Int, ∀ A : Type, loopN (A := A) big spec_TailLength_L0 (0, (M.length : Int), M, (a : Int), p, 0, ()) = some (.exit (Sum.inl (false, (M.length : Int), (M.length : Int), M, (a : Int), p, v, ()))) := by
    rcases one_loop (F := spec_TailLength_L0) (fun k (v : Int) => ((k : Int), (M.length : Int), M, (a : Int), p, v, ())) M.length (fun _ _ => True)
      (fun o => ∃ v, o = Sum.inl (false, (M.length : Int), (M.length : Int), M, (a : Int), p, v, ())) (fun _ => False) (by omega)
      (fun k v hk _ => by
        by_cases hk' : k < M.length
        · obtain ⟨ri, x, g1, g2⟩ := hMN.get ha (show k < p.2.1.length by omega)
          obtain ⟨w, e, -⟩ := l08Short_T h (show k < p.2.1.length by omega) ()
          rcases tf (notB (eqZ x (-1000))) with q | q
          · refine .inl ⟨v, hk', ?_, trivial⟩
            unfold spec_TailLength_L0
            simp only [lt_yes hk', if_true, some_bind', g1, g2, q, Bool.false_eq_true, if_false, idxN hk' (Nat.le_refl _) (show M.length ≤ 1099511627776 by omega)]
          · refine .inl ⟨maxI v (addZ .i64 x w), hk', ?_, trivial⟩
            unfold spec_TailLength_L0
            simp only [lt_yes hk', if_true, some_bind', g1, g2, q, e, max_spec, idxN hk' (Nat.le_refl _) (show M.length ≤ 1099511627776 by omega)]
        · obtain rfl : k = M.length := by omega
          refine .inr (.inl ⟨_, ?_, v, rfl⟩)
          unfold spec_TailLength_L0
          simp only [lt_no, Bool.false_eq_true, if_false])
      (a := 0) rfl trivial with ⟨o, e, v, rfl⟩ | ⟨c, -, hc⟩
    · exact ⟨v, e⟩
    · exact absurd hc id
  obtain ⟨v, e⟩ := key
  rw [lenI_eq] at q
  simp only [q, notB_true, Bool.false_eq_true, if_false, lenI_eq, e, some_bind']
  exact ⟨_, rfl⟩
theorem l25Key_T {p : D_Project} (hp : Sm_Project 1099511627776 p) (h : projB p = true) (h3 : p.2.1.length ≤ 3) (rule : Int) {late : List Int} (hl : late.length = p.2.1.length) {a : Nat} (ha : a < p.2.1.length) (u : Unit) : ∃ v, spec_l25Key (p, rule, late, (a : Int), u) () = some (v, ()) := by
  obtain ⟨v1, e1⟩ := TailLength_T hp h h3 ha ()
  obtain ⟨v2, e2, -⟩ := l08Short_T h ha ()
  have g := getI_lt (l := late) (i := a) (by omega)
  unfold spec_l25Key
  rcases tf (eqZ rule 2) with q | q <;> rcases tf (eqZ rule 3) with q2 | q2 <;> rcases tf (eqZ rule 4) with q3 | q3 <;> simp only [q, q2, q3, Bool.false_eq_true, if_false, if_true, g, e1, e2, some_bind'] <;> exact ⟨_, rfl⟩
theorem cut_end (l : List Int) {k : Nat} (h : k ≤ l.length) : cutI l (k : Int) (l.length : Int) = some ((l.take l.length).drop k) := by
  unfold cutI
  simp
  omega
theorem PriorityOrder_T {p : D_Project} (hp : Sm_Project 1099511627776 p) (h : projB p = true) (h3 : p.2.1.length ≤ 3) {rule : Nat} (hr : 1 ≤ rule ∧ rule ≤ 4) (u : Unit) : ∃ l, spec_PriorityOrder (p, (rule : Int), u) () = some (l, ()) ∧ l.length ≤ 6 := by
  obtain ⟨late, eL, hL⟩ := LatestStarts_T hp h h3 p.1 ()
  have hn : ∃ nm, spec_PriorityName ((rule : Int), ()) () = some (nm, ()) := by
    have hi : inB (rule : Int) 1 4 = true := by rw [inB_iff]; omega
    rcases (show rule = 1 ∨ rule = 2 ∨ rule = 3 ∨ rule = 4 by omega) with rfl | rfl | rfl | rfl <;> exact ⟨_, rfl⟩
  obtain ⟨nm, en⟩ := hn
  unfold spec_PriorityOrder
  simp only [eL, en, some_bind']
  rcases tf (eqS nm []) with q | q
  rotate_left
  · simp only [q, if_true, some_bind']
    exact ⟨_, rfl, by simp⟩
  simp only [q, Bool.false_eq_true, if_false, some_bind']
  rcases tf (eqZ (lenI late) 0) with q2 | q2
  rotate_left
  · simp only [q2, if_true]
    exact ⟨_, rfl, by simp⟩
  simp only [q2, Bool.false_eq_true, if_false]
  have hl : late.length = p.2.1.length := by
    rcases hL with rfl | hL
    · cases q2
    · exact hL
  have inner : ∀ (a : Nat) (ha : a < p.2.1.length) (out : List Int), out.length ≤ 6 → (∀ x ∈ out, ∃ i : Nat, x = (i : Int) ∧ i < p.2.1.length) → ∃ (bo : Bool) (k : Nat), k ≤ out.length ∧ ∀ A : Type, loopN (A := A) big spec_PriorityOrder_L0 ((a : Int), out, (out.length : Int), (a : Int), (p.2.1.length : Int), p, (rule : Int), late, ()) = some (.exit (Sum.inl (bo, (a : Int), out, (k : Int), (a : Int), (p.2.1.length : Int), p, (rule : Int), late, ()))) := fun a ha out ho hx => by
    rcases one_loop (F := spec_PriorityOrder_L0) (fun i (_ : Unit) => ((a : Int), out, ((out.length - i : Nat) : Int), (a : Int), (p.2.1.length : Int), p, (rule : Int), late, ())) out.length (fun _ _ => True)
      (fun o => ∃ (bo : Bool) (k : Nat), k ≤ out.length ∧ o = Sum.inl (bo, (a : Int), out, (k : Int), (a : Int), (p.2.1.length : Int), p, (rule : Int), late, ())) (fun _ => False) (by omega)
      (fun i _ hi _ => by
        by_cases hi' : i < out.length
        · have h0 : ltZ 0 ((out.length - i : Nat) : Int) = true := by rw [ltZ_iff]; omega
          have hs : subZ .i64 ((out.length - i : Nat) : Int) 1 = ((out.length - (i + 1) : Nat) : Int) := by rw [subZ64 (by omega) (by omega)]; omega
          have hlt : out.length - (i + 1) < out.length := by omega
          obtain ⟨x, ex, hxl⟩ := hx _ (List.getElem_mem hlt)
          have g : getI out ((out.length - (i + 1) : Nat) : Int) = some (x : Int) := by rw [getI_lt hlt, ex]
          obtain ⟨k1, e1⟩ := l25Key_T hp h h3 (rule : Int) hl hxl ()
          obtain ⟨k2, e2⟩ := l25Key_T hp h h3 (rule : Int) hl ha ()
          rcases tf (ltZ k2 k1) with q | q
          · refine .inr (.inl ⟨_, ?_, false, out.length - i, by omega, rfl⟩)
            unfold spec_PriorityOrder_L0
            simp only [h0, if_true, hs, g, some_bind', e1, e2, q, Bool.false_eq_true, if_false]
          · refine .inl ⟨(), hi', ?_, trivial⟩
            unfold spec_PriorityOrder_L0
            simp only [h0, if_true, hs, g, some_bind', e1, e2, q]
        · have e0 : out.length - i = 0 := by omega
          have h0 : ltZ 0 ((0 : Nat) : Int) = false := rfl
          refine .inr (.inl ⟨_, ?_, false, 0, by omega, rfl⟩)
          unfold spec_PriorityOrder_L0
          simp only [e0, h0, Bool.false_eq_true, if_false, some_bind'])
      (a := ()) rfl trivial with ⟨o, e, bo, k, hk, rfl⟩ | ⟨c, -, hc⟩
    · exact ⟨bo, k, hk, e⟩
    · exact absurd hc id
  have outer : ∃ l : List Int, l.length ≤ 6 ∧ ∀ A : Type, loopN (A := A) big spec_PriorityOrder_L1 (0, (p.2.1.length : Int), p, (rule : Int), late, [], ()) = some (.exit (Sum.inl (false, (p.2.1.length : Int), (p.2.1.length : Int), p, (rule : Int), late, l, ()))) := by
    rcases one_loop (F := spec_PriorityOrder_L1) (fun i (out : List Int) => ((i : Int), (p.2.1.length : Int), p, (rule : Int), late, out, ())) p.2.1.length (fun i out => out.length = i ∧ ∀ x ∈ out, ∃ i : Nat, x = (i : Int) ∧ i < p.2.1.length)
      (fun o => ∃ l : List Int, l.length ≤ 6 ∧ o = Sum.inl (false, (p.2.1.length : Int), (p.2.1.length : Int), p, (rule : Int), late, l, ())) (fun _ => False) (by omega)
      (fun i out hi hI => by
        obtain ⟨h1, h2⟩ := hI
        by_cases hi' : i < p.2.1.length
        · obtain ⟨bo, k, hk, e⟩ := inner i hi' out (by omega) h2
          have c1 := cut_T out hk
          have c2 := cut_end out hk
          have a1 := add_nilT (out.take k) (by rw [List.length_take]; omega)
          have a2 : addI (out.take k) [(i : Int)] = some (out.take k ++ [(i : Int)]) := addI_ok (by rw [room_eq, List.length_take]; simp; omega)
          have a3 : addI (out.take k ++ [(i : Int)]) ((out.take out.length).drop k) = some (out.take k ++ [(i : Int)] ++ (out.take out.length).drop k) := addI_ok (by rw [room_eq]; simp; omega)
          refine .inl ⟨out.take k ++ [(i : Int)] ++ (out.take out.length).drop k, hi', ?_, by simp; omega, fun x hx => ?_⟩
          · unfold spec_PriorityOrder_L1
            simp only [lt_yes hi', if_true, lenI_eq, e, some_bind', c1, c2, a1, a2, a3, idxN hi' (Nat.le_refl _) (show p.2.1.length ≤ 1099511627776 by omega)]
          · rcases List.mem_append.1 hx with hx | hx
            · rcases List.mem_append.1 hx with hx | hx
              · exact h2 x (List.mem_of_mem_take hx)
              · rw [List.mem_singleton.1 hx]; exact ⟨i, rfl, hi'⟩
            · exact h2 x (List.mem_of_mem_take (List.mem_of_mem_drop hx))
        · obtain rfl : i = p.2.1.length := by omega
          refine .inr (.inl ⟨_, ?_, out, by omega, rfl⟩)
          unfold spec_PriorityOrder_L1
          simp only [lt_no, Bool.false_eq_true, if_false])
      (a := []) rfl ⟨rfl, fun x hx => absurd hx (by simp)⟩ with ⟨o, e, l, hl, rfl⟩ | ⟨c, -, hc⟩
    · exact ⟨l, hl, e⟩
    · exact absurd hc id
  obtain ⟨l, hll, e⟩ := outer
  refine ⟨l, ?_, hll⟩
  simp only [lenI_eq, e, some_bind']
end Go.Proofs.YtjhpeeapijjgjaaGreat
