/-
  Plain laws: the links that are drawn; a project that is drawn. No condition.
-/
import Derived.Test.Ytmbknefcilojkaag3LGen4
namespace Go.Proofs.Ytmbknefcilojkaa
open Go.Abs
set_option linter.unusedVariables false
set_option linter.unusedSimpArgs false

theorem l05Draw_L2_eq (dl : Int) (acs : List D_Activity) (rs : List D_Resource) (ss : List Int) (n : Nat) (hn : n ≤ 6) (p2 : D_Project) (m : Nat) (hm : m ≤ 3) (c : D_l01Cur) (h : CurOk c) :
    ∃ bo k n' ks c', loopN (A := (Int × (Int × (D_Project × (D_Project × (D_l01Cur × Unit)))))) big spec_l05Draw_L2 ((m : Int), ((n : Int), ((dl, (acs, ([], (rs, (ss, ()))))), (p2, (c, ()))))) = some (.exit (.inl (bo, (k, (n', ((dl, (acs, (ks, (rs, (ss, ()))))), (p2, (c', ())))))))) ∧ ks.length ≤ 3 ∧ (∀ x ∈ ks, linkB (n : Int) x = true) ∧ CurOk c' := by
  obtain ⟨o, ho, hR⟩ := loopN_count (A := (Int × (Int × (D_Project × (D_Project × (D_l01Cur × Unit)))))) (F := spec_l05Draw_L2) m
    (fun j st => ∃ ks cc, st = ((m : Int) - (j : Int), ((n : Int), ((dl, (acs, (ks, (rs, (ss, ()))))), (p2, (cc, ()))))) ∧ ks.length = j ∧ (∀ x ∈ ks, linkB (n : Int) x = true) ∧ CurOk cc)
    (fun o => ∃ bo k n' ks c', o = .exit (.inl (bo, (k, (n', ((dl, (acs, (ks, (rs, (ss, ()))))), (p2, (c', ()))))))) ∧ ks.length ≤ 3 ∧ (∀ x ∈ ks, linkB (n : Int) x = true) ∧ CurOk c') (fun j st hj hI => by
      obtain ⟨ks, cc, rfl, hl, hg, hc⟩ := hI
      unfold spec_l05Draw_L2
      simp only
      by_cases hlt : ltZ 0 ((m : Int) - (j : Int)) = true
      · rw [if_pos hlt]
        have hjm : j < m := by rw [ltZ_iff] at hlt; omega
        simp only [Option.bind_some]
        by_cases h2 : ltZ 1 (n : Int) = true
        · rw [if_pos h2]
          have hn2 : 2 ≤ n := by rw [ltZ_iff] at h2; omega
          obtain ⟨a, ha, c2, hc2, e2⟩ := l01Below_eq cc hc (n - 1) (by omega) (by omega)
          obtain ⟨b, hb, c3, hc3, e3⟩ := l01Below_eq c2 hc2 (n - 1 - a) (by omega) (by omega)
          obtain ⟨q, c4, hc4, e4⟩ := l01Once_eq c3 hc3 3 (by omega) (by omega)
          obtain ⟨lg, hlg, c5, hc5, e5⟩ := l01Below_eq c4 hc4 3 (by omega) (by omega)
          obtain ⟨q2, c6, hc6, e6⟩ := l01Once_eq c5 hc5 6 (by omega) (by omega)
          obtain ⟨bk, hbk, c7, hc7, e7⟩ := l01Below_eq c6 hc6 9 (by omega) (by omega)
          have e4' : spec_l01Once (c3, (3, ())) () = some (q, c4) := e4
          have e5' : spec_l01Below (c4, (3, ())) () = some ((lg : Int), c5) := e5
          have e6' : spec_l01Once (c5, (6, ())) () = some (q2, c6) := e6
          have e7' : spec_l01Below (c6, (9, ())) () = some ((bk : Int), c7) := e7
          have s1 : subZ .i64 (n : Int) 1 = ((n - 1 : Nat) : Int) := by rw [subZ64 (by omega) (by omega)]; omega
          have s2 : subZ .i64 ((n - 1 : Nat) : Int) (a : Int) = ((n - 1 - a : Nat) : Int) := by rw [subZ64 (by omega) (by omega)]; omega
          have s3 : addZ .i64 (addZ .i64 (a : Int) 1) (b : Int) = (a : Int) + 1 + b := by rw [addZ64 (x := (a : Int)) (by omega) (by omega), addZ64 (by omega) (by omega)]
          have s4 : subZ .i64 (-4) (bk : Int) = -4 - (bk : Int) := subZ64 (by omega) (by omega)
          have hsub : subZ .i64 ((m : Int) - (j : Int)) 1 = (m : Int) - ((j + 1 : Nat) : Int) := by rw [subZ64 (by omega) (by omega)]; omega
          have hroom : ∀ y : D_Link, addI ks (y :: []) = some (ks ++ [y]) := fun y => addI_ok (by simp only [List.length_singleton, hl]; exact Nat.le_trans (show j + 1 ≤ 8 by omega) (by decide))
          have hin : ∀ y : D_Link, linkB (n : Int) y = true → ∀ x ∈ ks ++ [y], linkB (n : Int) x = true := fun y hy x hx => by
            rcases List.mem_append.1 hx with hx | hx
            · exact hg x hx
            · rw [List.mem_singleton.1 hx]; exact hy
          have mk : ∀ (x y : Int) (f : Bool) (z : Int), 0 ≤ x → x < n → 0 ≤ y → y < n → x ≠ y → -60 ≤ z → z ≤ 60 → linkB (n : Int) (x, (y, (f, (z, ())))) = true := fun x y f z a1 a2 a3 a4 a5 a6 a7 => by
            unfold linkB
            simp only [s1, Bool.and_eq_true]
            have : eqZ x y = false := by rw [Bool.eq_false_iff, Ne, eqZ_iff]; exact a5
            exact ⟨⟨⟨inB_iff.2 (by omega), inB_iff.2 (by omega)⟩, by rw [this]; rfl⟩, inB_iff.2 ⟨a6, a7⟩⟩
          cases q2 with
          | true =>
            simp only [s1, e2, Option.bind_some, s2, e3, e4', e5', e6', e7', s3, s4, hroom, hsub, if_true]
            exact ⟨_, rfl, hjm, _, _, rfl, by simp [hl], hin _ (mk _ _ _ _ (by omega) (by omega) (by omega) (by omega) (by omega) (by omega) (by omega)), hc7⟩
          | false =>
            simp only [s1, e2, Option.bind_some, s2, e3, e4', e5', e6', e7', s3, s4, hroom, hsub, Bool.false_eq_true, if_false]
            exact ⟨_, rfl, hjm, _, _, rfl, by simp [hl], hin _ (mk _ _ _ _ (by omega) (by omega) (by omega) (by omega) (by omega) (by omega) (by omega)), hc6⟩
        · rw [if_neg h2]
          exact ⟨_, rfl, _, _, _, _, _, rfl, by omega, hg, hc⟩
      · rw [if_neg hlt]
        simp only [Option.bind_some, Bool.false_eq_true, if_false]
        exact ⟨_, rfl, _, _, _, _, _, rfl, by omega, hg, hc⟩)
    (s := ((m : Int), ((n : Int), ((dl, (acs, ([], (rs, (ss, ()))))), (p2, (c, ())))))) ⟨[], c, by simp, rfl, by simp, h⟩ (Nat.lt_of_le_of_lt hm (by decide))
  obtain ⟨bo, k, n', ks, c', rfl, h1, h2, h3⟩ := hR
  exact ⟨bo, k, n', ks, c', ho, h1, h2, h3⟩
theorem l05Draw_eq (c : D_l01Cur) (h : CurOk c) (most : Nat) (h0 : 1 ≤ most) (h6 : most ≤ 6) : ∃ p c', GenP most p ∧ CurOk c' ∧ spec_l05Draw (c, ((most : Int), ())) () = some (p, c') := by
  unfold spec_l05Draw
  obtain ⟨k0, hk0, c0, hc0, e0⟩ := l01Below_eq c h 12 (by omega) (by omega)
  obtain ⟨k1, hk1, c1, hc1, e1⟩ := l01Below_eq c0 hc0 4 (by omega) (by omega)
  have e0' : spec_l01Below (c, (12, ())) () = some ((k0 : Int), c0) := e0
  have e1' : spec_l01Below (c0, (4, ())) () = some ((k1 : Int), c1) := e1
  have eq : quoZ .i64 (k1 : Int) 2 = some ((k1 / 2 : Nat) : Int) := by
    unfold quoZ
    rw [if_neg (by decide)]
    have : ((k1 : Int).tdiv 2) = ((k1 / 2 : Nat) : Int) := rfl
    rw [this]
    exact congrArg some (wrap64 (by omega) (by omega))
  obtain ⟨m, hm⟩ : ∃ m, m = 1 + k1 / 2 := ⟨_, rfl⟩
  have hadd : addZ .i64 1 ((k1 / 2 : Nat) : Int) = (m : Int) := by rw [addZ64 (by omega) (by omega)]; omega
  have hdl : addZ .i64 12 (k0 : Int) = 12 + (k0 : Int) := addZ64 (by omega) (by omega)
  obtain ⟨b2, i2, rs, c2, e2, hr1, hr2, hc2⟩ := l05Draw_L0_eq (most : Int) (12 + (k0 : Int)) (0, ([], ([], ([], ([], ()))))) m (by omega) c1 hc1
  obtain ⟨q, c3, hc3, e3⟩ := l01Once_eq c2 hc2 3 (by omega) (by omega)
  have e3' : spec_l01Once (c2, (3, ())) () = some (q, c3) := e3
  obtain ⟨k4, hk4, c4, hc4, e4⟩ := l01Below_eq c3 hc3 6 (by omega) (by omega)
  have e4' : spec_l01Below (c3, (6, ())) () = some ((k4 : Int), c4) := e4
  have rest : ∀ (ss : List Int) (cc : D_l01Cur), CurOk cc → ss.length ≤ 1 → (∀ x ∈ ss, 0 ≤ x ∧ x ≤ 5) → ∃ p c' k5 b6 i6 acs c6 c5 k7 c7 b8 i8 n8 ks, GenP most p ∧ CurOk c' ∧
      spec_l01Below (cc, ((most : Int), ())) () = some ((k5 : Int), c5) ∧
      loopN (A := (Int × (D_Project × (D_Project × (D_l01Cur × Unit))))) big spec_l05Draw_L1 ((addZ .i64 1 (k5 : Int)), ((12 + (k0 : Int), ([], ([], (rs, (ss, ()))))), ((0, ([], ([], ([], ([], ()))))), (c5, ())))) = some (.exit (.inl (b6, (i6, ((12 + (k0 : Int), (acs, ([], (rs, (ss, ()))))), ((0, ([], ([], ([], ([], ()))))), (c6, ()))))))) ∧
      spec_l01Below (c6, (4, ())) () = some ((k7 : Int), c7) ∧
      loopN (A := (Int × (Int × (D_Project × (D_Project × (D_l01Cur × Unit)))))) big spec_l05Draw_L2 ((k7 : Int), ((lenI acs), ((12 + (k0 : Int), (acs, ([], (rs, (ss, ()))))), ((0, ([], ([], ([], ([], ()))))), (c7, ()))))) = some (.exit (.inl (b8, (i8, (n8, ((12 + (k0 : Int), (acs, (ks, (rs, (ss, ()))))), ((0, ([], ([], ([], ([], ()))))), (c', ())))))))) ∧
      p = (12 + (k0 : Int), (acs, (ks, (rs, (ss, ()))))) := fun ss cc hcc hs1 hs2 => by
    obtain ⟨k5, hk5, c5, hc5, e5⟩ := l01Below_eq cc hcc most (by omega) (by omega)
    have ha : addZ .i64 1 (k5 : Int) = ((1 + k5 : Nat) : Int) := by rw [addZ64 (by omega) (by omega)]; omega
    obtain ⟨b6, i6, acs, c6, e6, ha1, ha2, hc6⟩ := l05Draw_L1_eq (12 + (k0 : Int)) [] rs ss (by omega) (by omega) (0, ([], ([], ([], ([], ()))))) (1 + k5) (by omega) c5 hc5
    obtain ⟨k7, hk7, c7, hc7, e7⟩ := l01Below_eq c6 hc6 4 (by omega) (by omega)
    obtain ⟨b8, i8, n8, ks, c8, e8, hk1', hk2', hc8⟩ := l05Draw_L2_eq (12 + (k0 : Int)) acs rs ss acs.length (by omega) (0, ([], ([], ([], ([], ()))))) k7 (by omega) c7 hc7
    exact ⟨_, c8, k5, b6, i6, acs, c6, c5, k7, c7, b8, i8, n8, ks, ⟨by simp only; omega, by simp only; omega, hr2, hs1, hs2, by simp only; omega, ha2, hk1', hk2'⟩, hc8, e5, by rw [ha]; exact e6, e7, by rw [lenI_eq]; exact e8, rfl⟩
  cases q with
  | true =>
    obtain ⟨p, c', k5, b6, i6, acs, c6, c5, k7, c7, b8, i8, n8, ks, hp, hc', f1, f2, f3, f4, rfl⟩ := rest [(k4 : Int)] c4 hc4 (by simp) (fun x hx => by rw [List.mem_singleton.1 hx]; omega)
    simp only [e0', Option.bind_some, e1', eq, hadd, hdl, e2, e3', e4', if_true, f1, f2, f3, f4]
    exact ⟨_, _, hp, hc', rfl⟩
  | false =>
    obtain ⟨p, c', k5, b6, i6, acs, c6, c5, k7, c7, b8, i8, n8, ks, hp, hc', f1, f2, f3, f4, rfl⟩ := rest [] c3 hc3 (by simp) (fun x hx => by simp at hx)
    simp only [e0', Option.bind_some, e1', eq, hadd, hdl, e2, e3', Bool.false_eq_true, if_false, f1, f2, f3, f4]
    exact ⟨_, _, hp, hc', rfl⟩
theorem GenP.mono {a b : Nat} (hab : a ≤ b) {p : D_Project} (h : GenP a p) : GenP b p := ⟨h.dl, h.rl, h.r, h.sl, h.s, ⟨h.al.1, by have := h.al.2; omega⟩, h.a, h.kl, h.k⟩
theorem MakeProject_eq (b : List Int) (hb : b.length ≤ 1048576) : ∃ p, GenP 3 p ∧ spec_MakeProject (b, ()) () = some (p, ()) := by
  unfold spec_MakeProject
  obtain ⟨c, hc, e⟩ := l01New_eq b hb
  obtain ⟨p, c', hp, hc', e2⟩ := l05Draw_eq c hc 3 (by omega) (by omega)
  have e2' : spec_l05Draw (c, (3, ())) () = some (p, c') := e2
  simp only [e, Option.bind_some, e2']
  exact ⟨_, hp, rfl⟩
end Go.Proofs.Ytmbknefcilojkaa
