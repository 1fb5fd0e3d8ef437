/-
  Plain laws: the activities that are drawn. No condition.
-/
import Derived.Test.Ytmbknefcilojkaag3LGen2
namespace Go.Proofs.Ytmbknefcilojkaa
open Go.Abs
set_option linter.unusedVariables false
set_option linter.unusedSimpArgs false

theorem l04Name_eq (c : D_l01Cur) : ∀ i : Nat, i < 6 → spec_l04Name (c, ((i : Int), ())) () = some (genName i, ())
  | 0, _ => rfl
  | 1, _ => rfl
  | 2, _ => rfl
  | 3, _ => rfl
  | 4, _ => rfl
  | 5, _ => rfl
  | n + 6, h => absurd h (by omega)
theorem l04Draw_L0_eq (d : Int) (cs : List Int) (k : Int) (n : Nat) (hn : n ≤ 2) (st : Int) (a a2 : D_Activity) (c : D_l01Cur) (h : CurOk c) :
    ∃ bo u c', loopN (A := (D_Mode × (Int × (Int × (Int × (D_Activity × (D_Activity × (D_l01Cur × Unit)))))))) big spec_l04Draw_L0 ((d, ([], (cs, ()))), (k, ((n : Int), (st, (a, (a2, (c, ()))))))) = some (.exit (.inl (bo, ((d, (u, (cs, ()))), (k, ((n : Int), (st, (a, (a2, (c', ()))))))))) ) ∧ Row4 n u ∧ CurOk c' := by
  obtain ⟨o, ho, hR⟩ := loopN_count (A := (D_Mode × (Int × (Int × (Int × (D_Activity × (D_Activity × (D_l01Cur × Unit)))))))) (F := spec_l04Draw_L0) n
    (fun j s => ∃ u cc, s = ((d, (u, (cs, ()))), (k, ((n : Int), (st, (a, (a2, (cc, ()))))))) ∧ Row4 j u ∧ CurOk cc)
    (fun o => ∃ bo u c', o = .exit (.inl (bo, ((d, (u, (cs, ()))), (k, ((n : Int), (st, (a, (a2, (c', ()))))))))) ∧ Row4 n u ∧ CurOk c') (fun j s hj hI => by
      obtain ⟨u, cc, rfl, hr, hc⟩ := hI
      unfold spec_l04Draw_L0
      simp only
      by_cases hlt : ltZ (lenI u) (n : Int) = true
      · rw [if_pos hlt]
        have hjn : j < n := by rw [ltZ_iff, lenI_eq, hr.1] at hlt; omega
        obtain ⟨x, hx, c2, hc2, e2⟩ := l01Below_eq cc hc 3 (by omega) (by omega)
        have e2' : spec_l01Below (cc, (3, ())) () = some ((x : Int), c2) := e2
        have hroom : addI u ((x : Int) :: []) = some (u ++ [(x : Int)]) := addI_ok (by simp only [List.length_singleton, hr.1]; exact Nat.le_trans (show j + 1 ≤ 4 by omega) (by decide))
        simp only [e2', Option.bind_some, hroom]
        exact ⟨_, rfl, hjn, _, _, rfl, hr.snoc ⟨by omega, by omega⟩, hc2⟩
      · rw [if_neg hlt]
        have : j = n := by
          have : ¬ (j : Int) < n := fun hh => hlt (ltZ_iff.2 (by rw [lenI_eq, hr.1]; exact hh))
          omega
        subst this
        exact ⟨_, rfl, _, _, _, rfl, hr, hc⟩)
    (s := ((d, ([], (cs, ()))), (k, ((n : Int), (st, (a, (a2, (c, ())))))))) ⟨_, _, rfl, ⟨rfl, by simp⟩, h⟩ (Nat.lt_of_le_of_lt hn (by decide))
  obtain ⟨bo, u, c', rfl, h1, h2⟩ := hR
  exact ⟨bo, u, c', ho, h1, h2⟩
theorem l04Draw_L1_eq (d : Int) (us : List Int) (k : Int) (rs : Int) (n : Nat) (hn : n ≤ 2) (a a2 : D_Activity) (c : D_l01Cur) (h : CurOk c) :
    ∃ bo u c', loopN (A := (D_Mode × (Int × (Int × (Int × (D_Activity × (D_Activity × (D_l01Cur × Unit)))))))) big spec_l04Draw_L1 ((d, (us, ([], ()))), (k, (rs, ((n : Int), (a, (a2, (c, ()))))))) = some (.exit (.inl (bo, ((d, (us, (u, ()))), (k, (rs, ((n : Int), (a, (a2, (c', ()))))))))) ) ∧ Row4 n u ∧ CurOk c' := by
  obtain ⟨o, ho, hR⟩ := loopN_count (A := (D_Mode × (Int × (Int × (Int × (D_Activity × (D_Activity × (D_l01Cur × Unit)))))))) (F := spec_l04Draw_L1) n
    (fun j s => ∃ u cc, s = ((d, (us, (u, ()))), (k, (rs, ((n : Int), (a, (a2, (cc, ()))))))) ∧ Row4 j u ∧ CurOk cc)
    (fun o => ∃ bo u c', o = .exit (.inl (bo, ((d, (us, (u, ()))), (k, (rs, ((n : Int), (a, (a2, (c', ()))))))))) ∧ Row4 n u ∧ CurOk c') (fun j s hj hI => by
      obtain ⟨u, cc, rfl, hr, hc⟩ := hI
      unfold spec_l04Draw_L1
      simp only
      by_cases hlt : ltZ (lenI u) (n : Int) = true
      · rw [if_pos hlt]
        have hjn : j < n := by rw [ltZ_iff, lenI_eq, hr.1] at hlt; omega
        obtain ⟨x, hx, c2, hc2, e2⟩ := l01Below_eq cc hc 3 (by omega) (by omega)
        have e2' : spec_l01Below (cc, (3, ())) () = some ((x : Int), c2) := e2
        have hroom : addI u ((x : Int) :: []) = some (u ++ [(x : Int)]) := addI_ok (by simp only [List.length_singleton, hr.1]; exact Nat.le_trans (show j + 1 ≤ 4 by omega) (by decide))
        simp only [e2', Option.bind_some, hroom]
        exact ⟨_, rfl, hjn, _, _, rfl, hr.snoc ⟨by omega, by omega⟩, hc2⟩
      · rw [if_neg hlt]
        have : j = n := by
          have : ¬ (j : Int) < n := fun hh => hlt (ltZ_iff.2 (by rw [lenI_eq, hr.1]; exact hh))
          omega
        subst this
        exact ⟨_, rfl, _, _, _, rfl, hr, hc⟩)
    (s := ((d, (us, ([], ()))), (k, (rs, ((n : Int), (a, (a2, (c, ())))))))) ⟨_, _, rfl, ⟨rfl, by simp⟩, h⟩ (Nat.lt_of_le_of_lt hn (by decide))
  obtain ⟨bo, u, c', rfl, h1, h2⟩ := hR
  exact ⟨bo, u, c', ho, h1, h2⟩
theorem l04Draw_eq (c : D_l01Cur) (h : CurOk c) (i : Nat) (hi : i < 6) (r s : Nat) (hr : r ≤ 2) (hs : s ≤ 2) : ∃ a c', GenA r s i a ∧ CurOk c' ∧ spec_l04Draw (c, ((i : Int), ((r : Int), ((s : Int), ())))) () = some (a, c') := by
  unfold spec_l04Draw
  obtain ⟨k0, hk0, c0, hc0, e0⟩ := l01Below_eq c h 2 (by omega) (by omega)
  obtain ⟨k1, hk1, c1, hc1, e1⟩ := l01Below_eq c0 hc0 4 (by omega) (by omega)
  have e0' : spec_l01Below (c, (2, ())) () = some ((k0 : Int), c0) := e0
  have e1' : spec_l01Below (c0, (4, ())) () = some ((k1 : Int), c1) := e1
  have eq : quoZ .i64 (k1 : Int) 2 = some ((k1 / 2 : Nat) : Int) := by
    unfold quoZ
    rw [if_neg (by decide)]
    have : ((k1 : Int).tdiv 2) = ((k1 / 2 : Nat) : Int) := rfl
    rw [this]
    exact congrArg some (wrap64 (by omega) (by omega))
  obtain ⟨m, hm⟩ : ∃ m, m = 1 + k1 / 2 := ⟨_, rfl⟩
  have hm2 : m ≤ 2 := by omega
  have hadd : addZ .i64 1 ((k1 / 2 : Nat) : Int) = (m : Int) := by rw [addZ64 (by omega) (by omega)]; omega
  simp only [l04Name_eq c i hi, e0', Option.bind_some, e1', eq, hadd]
  obtain ⟨a2, ha2⟩ : ∃ a2 : D_Activity, a2 = ([], (0, ([], ()))) := ⟨_, rfl⟩
  obtain ⟨o, ho, hR⟩ := loopN_count (A := (Int × (Int × (Int × (D_Activity × (D_Activity × (D_l01Cur × Unit))))))) (F := spec_l04Draw_L2) m
    (fun j st => ∃ ms cc, st = (((m : Int) - (j : Int)), ((r : Int), ((s : Int), ((genName i, ((k0 : Int), (ms, ()))), (a2, (cc, ())))))) ∧ ms.length = j ∧ (∀ x ∈ ms, GenM r s x) ∧ CurOk cc)
    (fun o => ∃ bo k ms c', o = .exit (.inl (bo, (k, ((r : Int), ((s : Int), ((genName i, ((k0 : Int), (ms, ()))), (a2, (c', ())))))))) ∧ ms.length = m ∧ (∀ x ∈ ms, GenM r s x) ∧ CurOk c') (fun j st hj hI => by
      obtain ⟨ms, cc, rfl, hl, hg, hc⟩ := hI
      unfold spec_l04Draw_L2
      simp only
      by_cases hlt : ltZ 0 ((m : Int) - (j : Int)) = true
      · rw [if_pos hlt]
        have hjm : j < m := by rw [ltZ_iff] at hlt; omega
        obtain ⟨x, hx, c2, hc2, e2⟩ := l01Below_eq cc hc 4 (by omega) (by omega)
        have e2' : spec_l01Below (cc, (4, ())) () = some ((x : Int), c2) := e2
        have hd : addZ .i64 1 (x : Int) = 1 + (x : Int) := addZ64 (by omega) (by omega)
        obtain ⟨b3, u, c3, e3, hu, hc3⟩ := l04Draw_L0_eq (1 + (x : Int)) [] ((m : Int) - (j : Int)) r hr (s : Int) (genName i, ((k0 : Int), (ms, ()))) a2 c2 hc2
        obtain ⟨b4, w, c4, e4, hw, hc4⟩ := l04Draw_L1_eq (1 + (x : Int)) u ((m : Int) - (j : Int)) (r : Int) s hs (genName i, ((k0 : Int), (ms, ()))) a2 c3 hc3
        have hsub : subZ .i64 ((m : Int) - (j : Int)) 1 = (m : Int) - ((j + 1 : Nat) : Int) := by rw [subZ64 (by omega) (by omega)]; omega
        have hroom : ∀ y : D_Mode, addI ms (y :: []) = some (ms ++ [y]) := fun y => addI_ok (by simp only [List.length_singleton, hl]; exact Nat.le_trans (show j + 1 ≤ 4 by omega) (by decide))
        simp only [e2', Option.bind_some, hd, e3, e4, hroom, hsub]
        refine ⟨_, rfl, hjm, _, _, rfl, by simp [hl], fun y hy => ?_, hc4⟩
        rcases List.mem_append.1 hy with hy | hy
        · exact hg y hy
        · rw [List.mem_singleton.1 hy]
          exact ⟨⟨by simp only; omega, by simp only; omega⟩, hu.1, hu.2, hw.1, hw.2⟩
      · rw [if_neg hlt]
        have : j = m := by
          have : ¬ (0 : Int) < (m : Int) - j := fun hh => hlt (ltZ_iff.2 hh)
          omega
        subst this
        exact ⟨_, rfl, _, _, _, _, rfl, hl, hg, hc⟩)
    (s := ((m : Int), ((r : Int), ((s : Int), ((genName i, ((k0 : Int), ([], ()))), (a2, (c1, ()))))))) ⟨[], c1, by simp, rfl, by simp, hc1⟩ (Nat.lt_of_le_of_lt hm2 (by decide))
  obtain ⟨bo, k, ms, c', rfl, h1, h2, h3⟩ := hR
  rw [ha2] at ho
  rw [ho]
  exact ⟨_, c', ⟨rfl, ⟨by simp only; omega, by simp only; omega⟩, ⟨by simp only; omega, by simp only; omega⟩, h2⟩, h3, rfl⟩
end Go.Proofs.Ytmbknefcilojkaa
