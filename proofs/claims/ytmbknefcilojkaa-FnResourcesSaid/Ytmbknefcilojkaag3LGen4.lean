/-
  Plain laws: the resources, activities and links that are drawn. No condition.
-/
import Derived.Test.Ytmbknefcilojkaag3LGen3
namespace Go.Proofs.Ytmbknefcilojkaa
open Go.Abs
set_option linter.unusedVariables false
set_option linter.unusedSimpArgs false

theorem l05Draw_L0_eq (most dl : Int) (p2 : D_Project) (m : Nat) (hm2 : m ≤ 2) (c : D_l01Cur) (h : CurOk c) :
    ∃ bo k rs c', loopN (A := (Int × (Int × (D_Project × (D_Project × (D_l01Cur × Unit)))))) big spec_l05Draw_L0 ((m : Int), (most, ((dl, ([], ([], ([], ([], ()))))), (p2, (c, ()))))) = some (.exit (.inl (bo, (k, (most, ((dl, ([], ([], (rs, ([], ()))))), (p2, (c', ())))))))) ∧ rs.length = m ∧ (∀ x ∈ rs, GenR x) ∧ CurOk c' := by
  obtain ⟨o, ho, hR⟩ := loopN_count (A := (Int × (Int × (D_Project × (D_Project × (D_l01Cur × Unit)))))) (F := spec_l05Draw_L0) m
    (fun j st => ∃ rs cc, st = ((m : Int) - (j : Int), (most, ((dl, ([], ([], (rs, ([], ()))))), (p2, (cc, ()))))) ∧ rs.length = j ∧ (∀ x ∈ rs, GenR x) ∧ CurOk cc)
    (fun o => ∃ bo k rs c', o = .exit (.inl (bo, (k, (most, ((dl, ([], ([], (rs, ([], ()))))), (p2, (c', ()))))))) ∧ rs.length = m ∧ (∀ x ∈ rs, GenR x) ∧ CurOk c') (fun j st hj hI => by
      obtain ⟨rs, cc, rfl, hl, hg, hc⟩ := hI
      unfold spec_l05Draw_L0
      simp only
      by_cases hlt : ltZ 0 ((m : Int) - (j : Int)) = true
      · rw [if_pos hlt]
        have hjm : j < m := by rw [ltZ_iff] at hlt; omega
        obtain ⟨l, c2, hl1, hl2, hc2, e2⟩ := l03Draw_eq cc hc
        obtain ⟨b, c3, hc3, e3⟩ := l01Once_eq c2 hc2 3 (by omega) (by omega)
        have e3' : spec_l01Once (c2, (3, ())) () = some (b, c3) := e3
        obtain ⟨t, c4, ht, hc4, e4⟩ := l05Setup_eq c3 hc3
        have hsub : subZ .i64 ((m : Int) - (j : Int)) 1 = (m : Int) - ((j + 1 : Nat) : Int) := by rw [subZ64 (by omega) (by omega)]; omega
        have hroom : ∀ y : D_Resource, addI rs (y :: []) = some (rs ++ [y]) := fun y => addI_ok (by simp only [List.length_singleton, hl]; exact Nat.le_trans (show j + 1 ≤ 4 by omega) (by decide))
        have hin : ∀ y : D_Resource, GenR y → ∀ x ∈ rs ++ [y], GenR x := fun y hy x hx => by
          rcases List.mem_append.1 hx with hx | hx
          · exact hg x hx
          · rw [List.mem_singleton.1 hx]; exact hy
        cases b with
        | true =>
          simp only [e2, e3', e4, Option.bind_some, if_true, hroom, hsub]
          exact ⟨_, rfl, hjm, _, _, rfl, by simp [hl], hin _ ⟨hl1, hl2, .inr ht⟩, hc4⟩
        | false =>
          simp only [e2, e3', e4, Option.bind_some, Bool.false_eq_true, if_false, hroom, hsub]
          exact ⟨_, rfl, hjm, _, _, rfl, by simp [hl], hin _ ⟨hl1, hl2, .inl rfl⟩, hc3⟩
      · rw [if_neg hlt]
        have : j = m := by
          have : ¬ (0 : Int) < (m : Int) - j := fun hh => hlt (ltZ_iff.2 hh)
          omega
        subst this
        exact ⟨_, rfl, _, _, _, _, rfl, hl, hg, hc⟩)
    (s := ((m : Int), (most, ((dl, ([], ([], ([], ([], ()))))), (p2, (c, ())))))) ⟨[], c, by simp, rfl, by simp, h⟩ (Nat.lt_of_le_of_lt hm2 (by decide))
  obtain ⟨bo, k, rs, c', rfl, h1, h2, h3⟩ := hR
  exact ⟨bo, k, rs, c', ho, h1, h2, h3⟩
theorem l05Draw_L1_eq (dl : Int) (ks : List D_Link) (rs : List D_Resource) (ss : List Int) (hr : rs.length ≤ 2) (hs : ss.length ≤ 2) (p2 : D_Project) (m : Nat) (hm : m ≤ 6) (c : D_l01Cur) (h : CurOk c) :
    ∃ bo k acs c', loopN (A := (Int × (D_Project × (D_Project × (D_l01Cur × Unit))))) big spec_l05Draw_L1 ((m : Int), ((dl, ([], (ks, (rs, (ss, ()))))), (p2, (c, ())))) = some (.exit (.inl (bo, (k, ((dl, (acs, (ks, (rs, (ss, ()))))), (p2, (c', ()))))))) ∧ acs.length = m ∧ (∀ i (hi : i < acs.length), GenA rs.length ss.length i acs[i]) ∧ CurOk c' := by
  obtain ⟨o, ho, hR⟩ := loopN_count (A := (Int × (D_Project × (D_Project × (D_l01Cur × Unit))))) (F := spec_l05Draw_L1) m
    (fun j st => ∃ acs cc, st = ((m : Int) - (j : Int), ((dl, (acs, (ks, (rs, (ss, ()))))), (p2, (cc, ())))) ∧ acs.length = j ∧ (∀ i (hi : i < acs.length), GenA rs.length ss.length i acs[i]) ∧ CurOk cc)
    (fun o => ∃ bo k acs c', o = .exit (.inl (bo, (k, ((dl, (acs, (ks, (rs, (ss, ()))))), (p2, (c', ())))))) ∧ acs.length = m ∧ (∀ i (hi : i < acs.length), GenA rs.length ss.length i acs[i]) ∧ CurOk c') (fun j st hj hI => by
      obtain ⟨acs, cc, rfl, hl, hg, hc⟩ := hI
      unfold spec_l05Draw_L1
      simp only
      by_cases hlt : ltZ 0 ((m : Int) - (j : Int)) = true
      · rw [if_pos hlt]
        have hjm : j < m := by rw [ltZ_iff] at hlt; omega
        obtain ⟨a, c2, ha, hc2, e2⟩ := l04Draw_eq cc hc j (by omega) rs.length ss.length hr hs
        have hsub : subZ .i64 ((m : Int) - (j : Int)) 1 = (m : Int) - ((j + 1 : Nat) : Int) := by rw [subZ64 (by omega) (by omega)]; omega
        have hroom : addI acs (a :: []) = some (acs ++ [a]) := addI_ok (by simp only [List.length_singleton, hl]; exact Nat.le_trans (show j + 1 ≤ 8 by omega) (by decide))
        simp only [lenI_eq, hl, e2, Option.bind_some, hroom, hsub]
        refine ⟨_, rfl, hjm, _, _, rfl, by simp [hl], fun i hi => ?_, hc2⟩
        by_cases hil : i < acs.length
        · rw [List.getElem_append_left hil]; exact hg i hil
        · have : i = acs.length := by simp at hi; omega
          subst this
          rw [List.getElem_append_right (Nat.le_refl _)]
          simp only [Nat.sub_self, List.getElem_cons_zero]
          rw [hl]; exact ha
      · rw [if_neg hlt]
        have : j = m := by
          have : ¬ (0 : Int) < (m : Int) - j := fun hh => hlt (ltZ_iff.2 hh)
          omega
        subst this
        exact ⟨_, rfl, _, _, _, _, rfl, hl, hg, hc⟩)
    (s := ((m : Int), ((dl, ([], (ks, (rs, (ss, ()))))), (p2, (c, ()))))) ⟨[], c, by simp, rfl, by simp, h⟩ (Nat.lt_of_le_of_lt hm (by decide))
  obtain ⟨bo, k, acs, c', rfl, h1, h2, h3⟩ := hR
  exact ⟨bo, k, acs, c', ho, h1, h2, h3⟩
end Go.Proofs.Ytmbknefcilojkaa
