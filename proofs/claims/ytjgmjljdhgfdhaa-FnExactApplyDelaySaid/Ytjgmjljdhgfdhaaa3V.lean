/-
  Plain laws of the functions by which the laws of this seat mark what a value owns and look whether the marks are held. No condition but those that each law states.
-/
import Derived.Test.YtjgmjljdhgfdhaaN35
import Derived.Test.Ytjgmjljdhgfdhaaa3W
namespace Go.Proofs.Ytjgmjljdhgfdhaa
open Go.Abs
set_option linter.unusedVariables false
set_option linter.unusedSimpArgs false

theorem mtext (k : Int) (h : k ≤ 9000000000000000000) : ∃ s, ∀ u, laws_markText (k, u) () = some (s, ()) := by
  by_cases h0 : k ≤ 0
  · exact ⟨[109, 48], fun u => by unfold laws_markText; simp only [leZ_iff.2 h0, if_true]⟩
  · have hz : leZ k 0 = false := by simp [leZ]; omega
    have hp : ∀ i : Nat, i < 19 → (10 : Int) ^ (19 - i) = 10 * 10 ^ (19 - (i + 1)) := fun i hi => by
      rw [show 19 - i = (19 - (i + 1)) + 1 by omega, Int.pow_succ, Int.mul_comm]
    have hl : ∃ o, loopN (A := Int × List UInt8 × Unit) big laws_markText_L0 (k, [], ()) = some o ∧ ∃ b n out, o = .exit (Sum.inl (b, n, out, ())) ∧ out.length ≤ 19 := by
      refine loopN_count 19 (fun i s => 0 ≤ s.1 ∧ s.1 < 10 ^ (19 - i) ∧ s.2.1.length ≤ i) _ ?_ ⟨by show (0 : Int) ≤ k; omega, by show k < 10 ^ 19; omega, Nat.le_refl _⟩ (by rw [big_eq]; omega)
      rintro i ⟨n, out, u⟩ hi ⟨h1, h2, h3⟩
      replace h1 : (0 : Int) ≤ n := h1
      replace h2 : n < 10 ^ (19 - i) := h2
      replace h3 : out.length ≤ i := h3
      by_cases hn : 0 < n
      · have hi' : i < 19 := by
          by_cases e : i = 19
          · subst e; simp at h2; omega
          · omega
        have ha : ∀ b : Int, addI (ofBytes [b]) out = some (ofBytes [b] ++ out) := fun b => addI_ok (by rw [room_eq]; simp [ofBytes]; omega)
        have hm : remZ n 10 = some (n.tmod 10) := rfl
        have hq : quoZ .i64 n 10 = some (IntKind.i64.wrap (n.tdiv 10)) := rfl
        have hd : n.tdiv 10 = n / 10 := Int.tdiv_eq_ediv_of_nonneg h1
        have h5 : n < 10 ^ 19 := by
          have : (10 : Nat) ^ (19 - i) ≤ 10 ^ 19 := Nat.pow_le_pow_right (by omega) (by omega)
          have h6 : (10 : Int) ^ (19 - i) ≤ 10 ^ 19 := by exact_mod_cast this
          omega
        rw [hp i hi'] at h2
        have h4 : n / 10 < 10 ^ (19 - (i + 1)) := by omega
        have hw : IntKind.i64.wrap (n.tdiv 10) = n / 10 := by
          rw [hd]
          exact wrap64 (by omega) (by omega)
        refine ⟨.norm (n / 10, ofBytes [wrapI .u8 (addZ .i64 48 (n.tmod 10))] ++ out, ()), by unfold laws_markText_L0; simp only [ltZ_iff.2 hn, if_true, hm, hq, ha, some_bind', hw], hi', ?_, h4, ?_⟩
        · show (0 : Int) ≤ n / 10; omega
        · show (ofBytes _ ++ out).length ≤ i + 1
          simp [ofBytes]; omega
      · have hn' : ltZ 0 n = false := by simp [ltZ]; omega
        exact ⟨.exit (Sum.inl (false, n, out, ())), by unfold laws_markText_L0; simp only [hn', Bool.false_eq_true, if_false], _, _, _, rfl, by omega⟩
    obtain ⟨o, ho, b, n, out, rfl, hlen⟩ := hl
    have ha : addI [109] out = some ([109] ++ out) := addI_ok (by rw [room_eq]; simp; omega)
    exact ⟨[109] ++ out, fun u => by unfold laws_markText; simp only [hz, Bool.false_eq_true, if_false, ho, some_bind', ha]⟩
def n_IntS (x : (List Int)) : Nat := cntS (fun e : Int => 1) x
theorem nb_IntS (x : (List Int)) (h : (x.length ≤ 1048576 ∧ ∀ y ∈ x, True)) : n_IntS x ≤ 1048576 := by
  have hc := cntS_bound (fun e : Int => 1) 1 x (fun e he => by
    show 1 ≤ 1
    omega)
  have hx := h.1
  show cntS _ x ≤ _
  have := Nat.mul_le_mul_right 1 hx
  omega
theorem mk_IntS (x : (List Int)) (k : Int) (h : (x.length ≤ 1099511627776 ∧ ∀ y ∈ x, True)) (h0 : 0 ≤ k) (hk : k + ((n_IntS x : Nat) : Int) ≤ 9000000000000000000) : ∃ x' : (List Int), ∀ u, laws_markIntS (x, k, u) () = some (k + ((n_IntS x : Nat) : Int), x') := by
  have hx := h.1
  obtain ⟨x', b, i', e1⟩ := mark_only (F := laws_markIntS_L0) (fun e : Int => 1) x k h0 hk hx
    (fun i hi out k ho hg h0 hk => by
      replace hk : k + ((1 : Nat) : Int) ≤ 9000000000000000000 := hk
      have hK : (k + 1) = k + ((1 : Nat) : Int) := by omega
      refine ⟨k, ?_⟩
      show _ = some (Out.norm (((i + 1 : Nat) : Int), k + ((1 : Nat) : Int), setI out (i : Int) (fun _ => k), ()))
      rw [← hK]
      unfold laws_markIntS_L0
      simp only [lenI_eq, ho, lt_yes hi, if_true, hg, getI_setI, setI_setI, Option.map_some, some_bind', addP (show 0 ≤ k by omega) (show (0 : Int) ≤ 1 by omega) (by omega), idxN hi hx (Nat.le_refl _)]
      try rw [setI_const hg])
    (fun out k ho => ⟨false, (x.length : Int), by unfold laws_markIntS_L0; simp only [lenI_eq, ho, lt_no, Bool.false_eq_true, if_false]⟩)
  exact ⟨x', fun u => by unfold laws_markIntS n_IntS; simp only [e1, some_bind']⟩
theorem mh_IntS (x : (List Int)) (k : Int) (h : (x.length ≤ 1099511627776 ∧ ∀ y ∈ x, True)) (h0 : 0 ≤ k) (hk : k + ((n_IntS x : Nat) : Int) ≤ 9000000000000000000) : ∃ x' : (List Int), (∀ u, laws_markIntS (x, k, u) () = some (k + ((n_IntS x : Nat) : Int), x')) ∧ ∀ u, laws_heldIntS (x', k, u) () = some (k + ((n_IntS x : Nat) : Int), ()) := by
  have hx := h.1
  obtain ⟨x', -, ⟨b, i', e1⟩, ⟨b2, i2, e2⟩⟩ := mark_held (F := laws_markIntS_L0) (G := laws_heldIntS_L0) (fun e : Int => 1) (fun e k e' => (e' = k)) x k h0 hk hx
    (fun i hi out k ho hg h0 hk => by
      replace hk : k + ((1 : Nat) : Int) ≤ 9000000000000000000 := hk
      have hK : (k + 1) = k + ((1 : Nat) : Int) := by omega
      refine ⟨k, rfl, ?_⟩
      show _ = some (Out.norm (((i + 1 : Nat) : Int), k + ((1 : Nat) : Int), setI out (i : Int) (fun _ => k), ()))
      rw [← hK]
      unfold laws_markIntS_L0
      simp only [lenI_eq, ho, lt_yes hi, if_true, hg, getI_setI, setI_setI, Option.map_some, some_bind', addP (show 0 ≤ k by omega) (show (0 : Int) ≤ 1 by omega) (by omega), idxN hi hx (Nat.le_refl _)]
      try rw [setI_const hg])
    (fun out k ho => ⟨false, (x.length : Int), by unfold laws_markIntS_L0; simp only [lenI_eq, ho, lt_no, Bool.false_eq_true, if_false]⟩)
    (fun i hi y k e' hy hg hr h0 hk => by
      replace hk : k + ((1 : Nat) : Int) ≤ 9000000000000000000 := hk
      have hK : (k + 1) = k + ((1 : Nat) : Int) := by omega
      have r0 := hr
      show _ = some (Out.norm (((i + 1 : Nat) : Int), y, k + ((1 : Nat) : Int), ()))
      rw [← hK]
      unfold laws_heldIntS_L0
      simp only [lenI_eq, hy, lt_yes hi, if_true, hg, some_bind', r0, addP (show 0 ≤ k by omega) (show (0 : Int) ≤ 1 by omega) (by omega), eqZ_self, eqS_self, eqB_self, notB_true, Bool.false_eq_true, if_false, idxN hi hx (Nat.le_refl _)])
    (fun y k hy => ⟨false, (x.length : Int), by unfold laws_heldIntS_L0; simp only [lenI_eq, hy, lt_no, Bool.false_eq_true, if_false]⟩)
  exact ⟨x', fun u => by unfold laws_markIntS n_IntS; simp only [e1, some_bind'], fun u => by unfold laws_heldIntS n_IntS; simp only [e2, some_bind']⟩
def n_ModeS (x : (List D_Mode)) : Nat := cntS (fun e : D_Mode => 1 + n_IntS e.2.1 + n_IntS e.2.2.1) x
theorem nb_ModeS (x : (List D_Mode)) (h : (x.length ≤ 1048576 ∧ ∀ y ∈ x, Sm_Mode 1048576 y)) : n_ModeS x ≤ 2199024304128 := by
  have hc := cntS_bound (fun e : D_Mode => 1 + n_IntS e.2.1 + n_IntS e.2.2.1) 2097153 x (fun e he => by
    have b0 := nb_IntS e.2.1 ((h.2 e he).2.1); have b1 := nb_IntS e.2.2.1 ((h.2 e he).2.2.1)
    show 1 + n_IntS e.2.1 + n_IntS e.2.2.1 ≤ 2097153
    omega)
  have hx := h.1
  show cntS _ x ≤ _
  have := Nat.mul_le_mul_right 2097153 hx
  omega
theorem mk_ModeS (x : (List D_Mode)) (k : Int) (h : (x.length ≤ 1099511627776 ∧ ∀ y ∈ x, Sm_Mode 1099511627776 y)) (h0 : 0 ≤ k) (hk : k + ((n_ModeS x : Nat) : Int) ≤ 9000000000000000000) : ∃ x' : (List D_Mode), ∀ u, laws_markModeS (x, k, u) () = some (k + ((n_ModeS x : Nat) : Int), x') := by
  have hx := h.1
  obtain ⟨x', b, i', e1⟩ := mark_only (F := laws_markModeS_L0) (fun e : D_Mode => 1 + n_IntS e.2.1 + n_IntS e.2.2.1) x k h0 hk hx
    (fun i hi out k ho hg h0 hk => by
      replace hk : k + ((1 + n_IntS x[i].2.1 + n_IntS x[i].2.2.1 : Nat) : Int) ≤ 9000000000000000000 := hk
      obtain ⟨z1, m1⟩ := mk_IntS x[i].2.1 (k + 1) (h.2 _ (List.getElem_mem hi)).2.1 (by omega) (by omega)
      obtain ⟨z2, m2⟩ := mk_IntS x[i].2.2.1 ((k + 1) + ((n_IntS x[i].2.1 : Nat) : Int)) (h.2 _ (List.getElem_mem hi)).2.2.1 (by omega) (by omega)
      have hK : (((k + 1) + ((n_IntS x[i].2.1 : Nat) : Int)) + ((n_IntS x[i].2.2.1 : Nat) : Int)) = k + ((1 + n_IntS x[i].2.1 + n_IntS x[i].2.2.1 : Nat) : Int) := by omega
      refine ⟨(k, z1, z2, ()), ?_⟩
      show _ = some (Out.norm (((i + 1 : Nat) : Int), k + ((1 + n_IntS x[i].2.1 + n_IntS x[i].2.2.1 : Nat) : Int), setI out (i : Int) (fun _ => (k, z1, z2, ())), ()))
      rw [← hK]
      unfold laws_markModeS_L0
      simp only [lenI_eq, ho, lt_yes hi, if_true, hg, getI_setI, setI_setI, Option.map_some, some_bind', m1, m2, addP (show 0 ≤ k by omega) (show (0 : Int) ≤ 1 by omega) (by omega), idxN hi hx (Nat.le_refl _)]
      try rw [setI_const hg])
    (fun out k ho => ⟨false, (x.length : Int), by unfold laws_markModeS_L0; simp only [lenI_eq, ho, lt_no, Bool.false_eq_true, if_false]⟩)
  exact ⟨x', fun u => by unfold laws_markModeS n_ModeS; simp only [e1, some_bind']⟩
theorem mh_ModeS (x : (List D_Mode)) (k : Int) (h : (x.length ≤ 1099511627776 ∧ ∀ y ∈ x, Sm_Mode 1099511627776 y)) (h0 : 0 ≤ k) (hk : k + ((n_ModeS x : Nat) : Int) ≤ 9000000000000000000) : ∃ x' : (List D_Mode), (∀ u, laws_markModeS (x, k, u) () = some (k + ((n_ModeS x : Nat) : Int), x')) ∧ ∀ u, laws_heldModeS (x', k, u) () = some (k + ((n_ModeS x : Nat) : Int), ()) := by
  have hx := h.1
  obtain ⟨x', -, ⟨b, i', e1⟩, ⟨b2, i2, e2⟩⟩ := mark_held (F := laws_markModeS_L0) (G := laws_heldModeS_L0) (fun e : D_Mode => 1 + n_IntS e.2.1 + n_IntS e.2.2.1) (fun e k e' => (e'.1 = k) ∧ (∀ u, laws_heldIntS (e'.2.1, (k + 1), u) () = some (((k + 1) + ((n_IntS e.2.1 : Nat) : Int)), ())) ∧ (∀ u, laws_heldIntS (e'.2.2.1, ((k + 1) + ((n_IntS e.2.1 : Nat) : Int)), u) () = some ((((k + 1) + ((n_IntS e.2.1 : Nat) : Int)) + ((n_IntS e.2.2.1 : Nat) : Int)), ()))) x k h0 hk hx
    (fun i hi out k ho hg h0 hk => by
      replace hk : k + ((1 + n_IntS x[i].2.1 + n_IntS x[i].2.2.1 : Nat) : Int) ≤ 9000000000000000000 := hk
      obtain ⟨z1, m1, q1⟩ := mh_IntS x[i].2.1 (k + 1) (h.2 _ (List.getElem_mem hi)).2.1 (by omega) (by omega)
      obtain ⟨z2, m2, q2⟩ := mh_IntS x[i].2.2.1 ((k + 1) + ((n_IntS x[i].2.1 : Nat) : Int)) (h.2 _ (List.getElem_mem hi)).2.2.1 (by omega) (by omega)
      have hK : (((k + 1) + ((n_IntS x[i].2.1 : Nat) : Int)) + ((n_IntS x[i].2.2.1 : Nat) : Int)) = k + ((1 + n_IntS x[i].2.1 + n_IntS x[i].2.2.1 : Nat) : Int) := by omega
      refine ⟨(k, z1, z2, ()), ⟨rfl, q1, q2⟩, ?_⟩
      show _ = some (Out.norm (((i + 1 : Nat) : Int), k + ((1 + n_IntS x[i].2.1 + n_IntS x[i].2.2.1 : Nat) : Int), setI out (i : Int) (fun _ => (k, z1, z2, ())), ()))
      rw [← hK]
      unfold laws_markModeS_L0
      simp only [lenI_eq, ho, lt_yes hi, if_true, hg, getI_setI, setI_setI, Option.map_some, some_bind', m1, m2, addP (show 0 ≤ k by omega) (show (0 : Int) ≤ 1 by omega) (by omega), idxN hi hx (Nat.le_refl _)]
      try rw [setI_const hg])
    (fun out k ho => ⟨false, (x.length : Int), by unfold laws_markModeS_L0; simp only [lenI_eq, ho, lt_no, Bool.false_eq_true, if_false]⟩)
    (fun i hi y k e' hy hg hr h0 hk => by
      replace hk : k + ((1 + n_IntS x[i].2.1 + n_IntS x[i].2.2.1 : Nat) : Int) ≤ 9000000000000000000 := hk
      have hK : (((k + 1) + ((n_IntS x[i].2.1 : Nat) : Int)) + ((n_IntS x[i].2.2.1 : Nat) : Int)) = k + ((1 + n_IntS x[i].2.1 + n_IntS x[i].2.2.1 : Nat) : Int) := by omega
      obtain ⟨r0, r1, r2⟩ := hr
      show _ = some (Out.norm (((i + 1 : Nat) : Int), y, k + ((1 + n_IntS x[i].2.1 + n_IntS x[i].2.2.1 : Nat) : Int), ()))
      rw [← hK]
      unfold laws_heldModeS_L0
      simp only [lenI_eq, hy, lt_yes hi, if_true, hg, some_bind', r0, r1, neg_no (show 0 ≤ ((k + 1) + ((n_IntS x[i].2.1 : Nat) : Int)) by omega), r2, neg_no (show 0 ≤ (((k + 1) + ((n_IntS x[i].2.1 : Nat) : Int)) + ((n_IntS x[i].2.2.1 : Nat) : Int)) by omega), addP (show 0 ≤ k by omega) (show (0 : Int) ≤ 1 by omega) (by omega), eqZ_self, eqS_self, eqB_self, notB_true, Bool.false_eq_true, if_false, idxN hi hx (Nat.le_refl _)])
    (fun y k hy => ⟨false, (x.length : Int), by unfold laws_heldModeS_L0; simp only [lenI_eq, hy, lt_no, Bool.false_eq_true, if_false]⟩)
  exact ⟨x', fun u => by unfold laws_markModeS n_ModeS; simp only [e1, some_bind'], fun u => by unfold laws_heldModeS n_ModeS; simp only [e2, some_bind']⟩
def n_ActivityS (x : (List D_Activity)) : Nat := cntS (fun e : D_Activity => 1 + 1 + n_ModeS e.2.2.1) x
theorem nb_ActivityS (x : (List D_Activity)) (h : (x.length ≤ 1048576 ∧ ∀ y ∈ x, Sm_Activity 1048576 y)) : n_ActivityS x ≤ 2305844108727418880 := by
  have hc := cntS_bound (fun e : D_Activity => 1 + 1 + n_ModeS e.2.2.1) 2199024304130 x (fun e he => by
    have b0 := nb_ModeS e.2.2.1 ((h.2 e he).2.2.1)
    show 1 + 1 + n_ModeS e.2.2.1 ≤ 2199024304130
    omega)
  have hx := h.1
  show cntS _ x ≤ _
  have := Nat.mul_le_mul_right 2199024304130 hx
  omega
theorem mk_ActivityS (x : (List D_Activity)) (k : Int) (h : (x.length ≤ 1099511627776 ∧ ∀ y ∈ x, Sm_Activity 1099511627776 y)) (h0 : 0 ≤ k) (hk : k + ((n_ActivityS x : Nat) : Int) ≤ 9000000000000000000) : ∃ x' : (List D_Activity), ∀ u, laws_markActivityS (x, k, u) () = some (k + ((n_ActivityS x : Nat) : Int), x') := by
  have hx := h.1
  obtain ⟨x', b, i', e1⟩ := mark_only (F := laws_markActivityS_L0) (fun e : D_Activity => 1 + 1 + n_ModeS e.2.2.1) x k h0 hk hx
    (fun i hi out k ho hg h0 hk => by
      replace hk : k + ((1 + 1 + n_ModeS x[i].2.2.1 : Nat) : Int) ≤ 9000000000000000000 := hk
      obtain ⟨s0, t0⟩ := mtext k (by omega)
      obtain ⟨z2, m2⟩ := mk_ModeS x[i].2.2.1 ((k + 1) + 1) (h.2 _ (List.getElem_mem hi)).2.2.1 (by omega) (by omega)
      have hK : (((k + 1) + 1) + ((n_ModeS x[i].2.2.1 : Nat) : Int)) = k + ((1 + 1 + n_ModeS x[i].2.2.1 : Nat) : Int) := by omega
      refine ⟨(s0, (k + 1), z2, ()), ?_⟩
      show _ = some (Out.norm (((i + 1 : Nat) : Int), k + ((1 + 1 + n_ModeS x[i].2.2.1 : Nat) : Int), setI out (i : Int) (fun _ => (s0, (k + 1), z2, ())), ()))
      rw [← hK]
      unfold laws_markActivityS_L0
      simp only [lenI_eq, ho, lt_yes hi, if_true, hg, getI_setI, setI_setI, Option.map_some, some_bind', t0, m2, addP (show 0 ≤ k by omega) (show (0 : Int) ≤ 1 by omega) (by omega), addP (show 0 ≤ (k + 1) by omega) (show (0 : Int) ≤ 1 by omega) (by omega), idxN hi hx (Nat.le_refl _)]
      try rw [setI_const hg])
    (fun out k ho => ⟨false, (x.length : Int), by unfold laws_markActivityS_L0; simp only [lenI_eq, ho, lt_no, Bool.false_eq_true, if_false]⟩)
  exact ⟨x', fun u => by unfold laws_markActivityS n_ActivityS; simp only [e1, some_bind']⟩
theorem mh_ActivityS (x : (List D_Activity)) (k : Int) (h : (x.length ≤ 1099511627776 ∧ ∀ y ∈ x, Sm_Activity 1099511627776 y)) (h0 : 0 ≤ k) (hk : k + ((n_ActivityS x : Nat) : Int) ≤ 9000000000000000000) : ∃ x' : (List D_Activity), (∀ u, laws_markActivityS (x, k, u) () = some (k + ((n_ActivityS x : Nat) : Int), x')) ∧ ∀ u, laws_heldActivityS (x', k, u) () = some (k + ((n_ActivityS x : Nat) : Int), ()) := by
  have hx := h.1
  obtain ⟨x', -, ⟨b, i', e1⟩, ⟨b2, i2, e2⟩⟩ := mark_held (F := laws_markActivityS_L0) (G := laws_heldActivityS_L0) (fun e : D_Activity => 1 + 1 + n_ModeS e.2.2.1) (fun e k e' => (∀ u, laws_markText (k, u) () = some (e'.1, ())) ∧ (e'.2.1 = (k + 1)) ∧ (∀ u, laws_heldModeS (e'.2.2.1, ((k + 1) + 1), u) () = some ((((k + 1) + 1) + ((n_ModeS e.2.2.1 : Nat) : Int)), ()))) x k h0 hk hx
    (fun i hi out k ho hg h0 hk => by
      replace hk : k + ((1 + 1 + n_ModeS x[i].2.2.1 : Nat) : Int) ≤ 9000000000000000000 := hk
      obtain ⟨s0, t0⟩ := mtext k (by omega)
      obtain ⟨z2, m2, q2⟩ := mh_ModeS x[i].2.2.1 ((k + 1) + 1) (h.2 _ (List.getElem_mem hi)).2.2.1 (by omega) (by omega)
      have hK : (((k + 1) + 1) + ((n_ModeS x[i].2.2.1 : Nat) : Int)) = k + ((1 + 1 + n_ModeS x[i].2.2.1 : Nat) : Int) := by omega
      refine ⟨(s0, (k + 1), z2, ()), ⟨t0, rfl, q2⟩, ?_⟩
      show _ = some (Out.norm (((i + 1 : Nat) : Int), k + ((1 + 1 + n_ModeS x[i].2.2.1 : Nat) : Int), setI out (i : Int) (fun _ => (s0, (k + 1), z2, ())), ()))
      rw [← hK]
      unfold laws_markActivityS_L0
      simp only [lenI_eq, ho, lt_yes hi, if_true, hg, getI_setI, setI_setI, Option.map_some, some_bind', t0, m2, addP (show 0 ≤ k by omega) (show (0 : Int) ≤ 1 by omega) (by omega), addP (show 0 ≤ (k + 1) by omega) (show (0 : Int) ≤ 1 by omega) (by omega), idxN hi hx (Nat.le_refl _)]
      try rw [setI_const hg])
    (fun out k ho => ⟨false, (x.length : Int), by unfold laws_markActivityS_L0; simp only [lenI_eq, ho, lt_no, Bool.false_eq_true, if_false]⟩)
    (fun i hi y k e' hy hg hr h0 hk => by
      replace hk : k + ((1 + 1 + n_ModeS x[i].2.2.1 : Nat) : Int) ≤ 9000000000000000000 := hk
      have hK : (((k + 1) + 1) + ((n_ModeS x[i].2.2.1 : Nat) : Int)) = k + ((1 + 1 + n_ModeS x[i].2.2.1 : Nat) : Int) := by omega
      obtain ⟨r0, r1, r2⟩ := hr
      show _ = some (Out.norm (((i + 1 : Nat) : Int), y, k + ((1 + 1 + n_ModeS x[i].2.2.1 : Nat) : Int), ()))
      rw [← hK]
      unfold laws_heldActivityS_L0
      simp only [lenI_eq, hy, lt_yes hi, if_true, hg, some_bind', r0, r1, r2, neg_no (show 0 ≤ (((k + 1) + 1) + ((n_ModeS x[i].2.2.1 : Nat) : Int)) by omega), addP (show 0 ≤ k by omega) (show (0 : Int) ≤ 1 by omega) (by omega), addP (show 0 ≤ (k + 1) by omega) (show (0 : Int) ≤ 1 by omega) (by omega), eqZ_self, eqS_self, eqB_self, notB_true, Bool.false_eq_true, if_false, idxN hi hx (Nat.le_refl _)])
    (fun y k hy => ⟨false, (x.length : Int), by unfold laws_heldActivityS_L0; simp only [lenI_eq, hy, lt_no, Bool.false_eq_true, if_false]⟩)
  exact ⟨x', fun u => by unfold laws_markActivityS n_ActivityS; simp only [e1, some_bind'], fun u => by unfold laws_heldActivityS n_ActivityS; simp only [e2, some_bind']⟩
def n_LinkS (x : (List D_Link)) : Nat := cntS (fun e : D_Link => 1 + 1 + 1 + 1) x
theorem nb_LinkS (x : (List D_Link)) (h : (x.length ≤ 1048576 ∧ ∀ y ∈ x, Sm_Link 1048576 y)) : n_LinkS x ≤ 4194304 := by
  have hc := cntS_bound (fun e : D_Link => 1 + 1 + 1 + 1) 4 x (fun e he => by
    show 1 + 1 + 1 + 1 ≤ 4
    omega)
  have hx := h.1
  show cntS _ x ≤ _
  have := Nat.mul_le_mul_right 4 hx
  omega
theorem mk_LinkS (x : (List D_Link)) (k : Int) (h : (x.length ≤ 1099511627776 ∧ ∀ y ∈ x, Sm_Link 1099511627776 y)) (h0 : 0 ≤ k) (hk : k + ((n_LinkS x : Nat) : Int) ≤ 9000000000000000000) : ∃ x' : (List D_Link), ∀ u, laws_markLinkS (x, k, u) () = some (k + ((n_LinkS x : Nat) : Int), x') := by
  have hx := h.1
  obtain ⟨x', b, i', e1⟩ := mark_only (F := laws_markLinkS_L0) (fun e : D_Link => 1 + 1 + 1 + 1) x k h0 hk hx
    (fun i hi out k ho hg h0 hk => by
      replace hk : k + ((1 + 1 + 1 + 1 : Nat) : Int) ≤ 9000000000000000000 := hk
      obtain ⟨v2, w2⟩ : ∃ v, remZ ((k + 1) + 1) 3 = some v := ⟨_, rfl⟩
      have hK : ((((k + 1) + 1) + 1) + 1) = k + ((1 + 1 + 1 + 1 : Nat) : Int) := by omega
      refine ⟨(k, (k + 1), eqZ v2 0, (((k + 1) + 1) + 1), ()), ?_⟩
      show _ = some (Out.norm (((i + 1 : Nat) : Int), k + ((1 + 1 + 1 + 1 : Nat) : Int), setI out (i : Int) (fun _ => (k, (k + 1), eqZ v2 0, (((k + 1) + 1) + 1), ())), ()))
      rw [← hK]
      unfold laws_markLinkS_L0
      simp only [lenI_eq, ho, lt_yes hi, if_true, hg, getI_setI, setI_setI, Option.map_some, some_bind', w2, addP (show 0 ≤ k by omega) (show (0 : Int) ≤ 1 by omega) (by omega), addP (show 0 ≤ (k + 1) by omega) (show (0 : Int) ≤ 1 by omega) (by omega), addP (show 0 ≤ ((k + 1) + 1) by omega) (show (0 : Int) ≤ 1 by omega) (by omega), addP (show 0 ≤ (((k + 1) + 1) + 1) by omega) (show (0 : Int) ≤ 1 by omega) (by omega), idxN hi hx (Nat.le_refl _)]
      try rw [setI_const hg])
    (fun out k ho => ⟨false, (x.length : Int), by unfold laws_markLinkS_L0; simp only [lenI_eq, ho, lt_no, Bool.false_eq_true, if_false]⟩)
  exact ⟨x', fun u => by unfold laws_markLinkS n_LinkS; simp only [e1, some_bind']⟩
theorem mh_LinkS (x : (List D_Link)) (k : Int) (h : (x.length ≤ 1099511627776 ∧ ∀ y ∈ x, Sm_Link 1099511627776 y)) (h0 : 0 ≤ k) (hk : k + ((n_LinkS x : Nat) : Int) ≤ 9000000000000000000) : ∃ x' : (List D_Link), (∀ u, laws_markLinkS (x, k, u) () = some (k + ((n_LinkS x : Nat) : Int), x')) ∧ ∀ u, laws_heldLinkS (x', k, u) () = some (k + ((n_LinkS x : Nat) : Int), ()) := by
  have hx := h.1
  obtain ⟨x', -, ⟨b, i', e1⟩, ⟨b2, i2, e2⟩⟩ := mark_held (F := laws_markLinkS_L0) (G := laws_heldLinkS_L0) (fun e : D_Link => 1 + 1 + 1 + 1) (fun e k e' => (e'.1 = k) ∧ (e'.2.1 = (k + 1)) ∧ (∀ v, remZ ((k + 1) + 1) 3 = some v → e'.2.2.1 = eqZ v 0) ∧ (e'.2.2.2.1 = (((k + 1) + 1) + 1))) x k h0 hk hx
    (fun i hi out k ho hg h0 hk => by
      replace hk : k + ((1 + 1 + 1 + 1 : Nat) : Int) ≤ 9000000000000000000 := hk
      obtain ⟨v2, w2⟩ : ∃ v, remZ ((k + 1) + 1) 3 = some v := ⟨_, rfl⟩
      have hK : ((((k + 1) + 1) + 1) + 1) = k + ((1 + 1 + 1 + 1 : Nat) : Int) := by omega
      refine ⟨(k, (k + 1), eqZ v2 0, (((k + 1) + 1) + 1), ()), ⟨rfl, rfl, fun v hv => by rw [w2] at hv; cases hv; rfl, rfl⟩, ?_⟩
      show _ = some (Out.norm (((i + 1 : Nat) : Int), k + ((1 + 1 + 1 + 1 : Nat) : Int), setI out (i : Int) (fun _ => (k, (k + 1), eqZ v2 0, (((k + 1) + 1) + 1), ())), ()))
      rw [← hK]
      unfold laws_markLinkS_L0
      simp only [lenI_eq, ho, lt_yes hi, if_true, hg, getI_setI, setI_setI, Option.map_some, some_bind', w2, addP (show 0 ≤ k by omega) (show (0 : Int) ≤ 1 by omega) (by omega), addP (show 0 ≤ (k + 1) by omega) (show (0 : Int) ≤ 1 by omega) (by omega), addP (show 0 ≤ ((k + 1) + 1) by omega) (show (0 : Int) ≤ 1 by omega) (by omega), addP (show 0 ≤ (((k + 1) + 1) + 1) by omega) (show (0 : Int) ≤ 1 by omega) (by omega), idxN hi hx (Nat.le_refl _)]
      try rw [setI_const hg])
    (fun out k ho => ⟨false, (x.length : Int), by unfold laws_markLinkS_L0; simp only [lenI_eq, ho, lt_no, Bool.false_eq_true, if_false]⟩)
    (fun i hi y k e' hy hg hr h0 hk => by
      replace hk : k + ((1 + 1 + 1 + 1 : Nat) : Int) ≤ 9000000000000000000 := hk
      have hK : ((((k + 1) + 1) + 1) + 1) = k + ((1 + 1 + 1 + 1 : Nat) : Int) := by omega
      obtain ⟨v2, w2⟩ : ∃ v, remZ ((k + 1) + 1) 3 = some v := ⟨_, rfl⟩
      obtain ⟨r0, r1, r2, r3⟩ := hr
      show _ = some (Out.norm (((i + 1 : Nat) : Int), y, k + ((1 + 1 + 1 + 1 : Nat) : Int), ()))
      rw [← hK]
      unfold laws_heldLinkS_L0
      simp only [lenI_eq, hy, lt_yes hi, if_true, hg, some_bind', r0, r1, w2, r2 _ w2, r3, addP (show 0 ≤ k by omega) (show (0 : Int) ≤ 1 by omega) (by omega), addP (show 0 ≤ (k + 1) by omega) (show (0 : Int) ≤ 1 by omega) (by omega), addP (show 0 ≤ ((k + 1) + 1) by omega) (show (0 : Int) ≤ 1 by omega) (by omega), addP (show 0 ≤ (((k + 1) + 1) + 1) by omega) (show (0 : Int) ≤ 1 by omega) (by omega), eqZ_self, eqS_self, eqB_self, notB_true, Bool.false_eq_true, if_false, idxN hi hx (Nat.le_refl _)])
    (fun y k hy => ⟨false, (x.length : Int), by unfold laws_heldLinkS_L0; simp only [lenI_eq, hy, lt_no, Bool.false_eq_true, if_false]⟩)
  exact ⟨x', fun u => by unfold laws_markLinkS n_LinkS; simp only [e1, some_bind'], fun u => by unfold laws_heldLinkS n_LinkS; simp only [e2, some_bind']⟩
def n_StepS (x : (List D_Step)) : Nat := cntS (fun e : D_Step => 1 + 1) x
theorem nb_StepS (x : (List D_Step)) (h : (x.length ≤ 1048576 ∧ ∀ y ∈ x, Sm_Step 1048576 y)) : n_StepS x ≤ 2097152 := by
  have hc := cntS_bound (fun e : D_Step => 1 + 1) 2 x (fun e he => by
    show 1 + 1 ≤ 2
    omega)
  have hx := h.1
  show cntS _ x ≤ _
  have := Nat.mul_le_mul_right 2 hx
  omega
theorem mk_StepS (x : (List D_Step)) (k : Int) (h : (x.length ≤ 1099511627776 ∧ ∀ y ∈ x, Sm_Step 1099511627776 y)) (h0 : 0 ≤ k) (hk : k + ((n_StepS x : Nat) : Int) ≤ 9000000000000000000) : ∃ x' : (List D_Step), ∀ u, laws_markStepS (x, k, u) () = some (k + ((n_StepS x : Nat) : Int), x') := by
  have hx := h.1
  obtain ⟨x', b, i', e1⟩ := mark_only (F := laws_markStepS_L0) (fun e : D_Step => 1 + 1) x k h0 hk hx
    (fun i hi out k ho hg h0 hk => by
      replace hk : k + ((1 + 1 : Nat) : Int) ≤ 9000000000000000000 := hk
      have hK : ((k + 1) + 1) = k + ((1 + 1 : Nat) : Int) := by omega
      refine ⟨(k, (k + 1), ()), ?_⟩
      show _ = some (Out.norm (((i + 1 : Nat) : Int), k + ((1 + 1 : Nat) : Int), setI out (i : Int) (fun _ => (k, (k + 1), ())), ()))
      rw [← hK]
      unfold laws_markStepS_L0
      simp only [lenI_eq, ho, lt_yes hi, if_true, hg, getI_setI, setI_setI, Option.map_some, some_bind', addP (show 0 ≤ k by omega) (show (0 : Int) ≤ 1 by omega) (by omega), addP (show 0 ≤ (k + 1) by omega) (show (0 : Int) ≤ 1 by omega) (by omega), idxN hi hx (Nat.le_refl _)]
      try rw [setI_const hg])
    (fun out k ho => ⟨false, (x.length : Int), by unfold laws_markStepS_L0; simp only [lenI_eq, ho, lt_no, Bool.false_eq_true, if_false]⟩)
  exact ⟨x', fun u => by unfold laws_markStepS n_StepS; simp only [e1, some_bind']⟩
theorem mh_StepS (x : (List D_Step)) (k : Int) (h : (x.length ≤ 1099511627776 ∧ ∀ y ∈ x, Sm_Step 1099511627776 y)) (h0 : 0 ≤ k) (hk : k + ((n_StepS x : Nat) : Int) ≤ 9000000000000000000) : ∃ x' : (List D_Step), (∀ u, laws_markStepS (x, k, u) () = some (k + ((n_StepS x : Nat) : Int), x')) ∧ ∀ u, laws_heldStepS (x', k, u) () = some (k + ((n_StepS x : Nat) : Int), ()) := by
  have hx := h.1
  obtain ⟨x', -, ⟨b, i', e1⟩, ⟨b2, i2, e2⟩⟩ := mark_held (F := laws_markStepS_L0) (G := laws_heldStepS_L0) (fun e : D_Step => 1 + 1) (fun e k e' => (e'.1 = k) ∧ (e'.2.1 = (k + 1))) x k h0 hk hx
    (fun i hi out k ho hg h0 hk => by
      replace hk : k + ((1 + 1 : Nat) : Int) ≤ 9000000000000000000 := hk
      have hK : ((k + 1) + 1) = k + ((1 + 1 : Nat) : Int) := by omega
      refine ⟨(k, (k + 1), ()), ⟨rfl, rfl⟩, ?_⟩
      show _ = some (Out.norm (((i + 1 : Nat) : Int), k + ((1 + 1 : Nat) : Int), setI out (i : Int) (fun _ => (k, (k + 1), ())), ()))
      rw [← hK]
      unfold laws_markStepS_L0
      simp only [lenI_eq, ho, lt_yes hi, if_true, hg, getI_setI, setI_setI, Option.map_some, some_bind', addP (show 0 ≤ k by omega) (show (0 : Int) ≤ 1 by omega) (by omega), addP (show 0 ≤ (k + 1) by omega) (show (0 : Int) ≤ 1 by omega) (by omega), idxN hi hx (Nat.le_refl _)]
      try rw [setI_const hg])
    (fun out k ho => ⟨false, (x.length : Int), by unfold laws_markStepS_L0; simp only [lenI_eq, ho, lt_no, Bool.false_eq_true, if_false]⟩)
    (fun i hi y k e' hy hg hr h0 hk => by
      replace hk : k + ((1 + 1 : Nat) : Int) ≤ 9000000000000000000 := hk
      have hK : ((k + 1) + 1) = k + ((1 + 1 : Nat) : Int) := by omega
      obtain ⟨r0, r1⟩ := hr
      show _ = some (Out.norm (((i + 1 : Nat) : Int), y, k + ((1 + 1 : Nat) : Int), ()))
      rw [← hK]
      unfold laws_heldStepS_L0
      simp only [lenI_eq, hy, lt_yes hi, if_true, hg, some_bind', r0, r1, addP (show 0 ≤ k by omega) (show (0 : Int) ≤ 1 by omega) (by omega), addP (show 0 ≤ (k + 1) by omega) (show (0 : Int) ≤ 1 by omega) (by omega), eqZ_self, eqS_self, eqB_self, notB_true, Bool.false_eq_true, if_false, idxN hi hx (Nat.le_refl _)])
    (fun y k hy => ⟨false, (x.length : Int), by unfold laws_heldStepS_L0; simp only [lenI_eq, hy, lt_no, Bool.false_eq_true, if_false]⟩)
  exact ⟨x', fun u => by unfold laws_markStepS n_StepS; simp only [e1, some_bind'], fun u => by unfold laws_heldStepS n_StepS; simp only [e2, some_bind']⟩
def n_IntSS (x : (List (List Int))) : Nat := cntS (fun e : (List Int) => n_IntS e) x
theorem nb_IntSS (x : (List (List Int))) (h : (x.length ≤ 1048576 ∧ ∀ y ∈ x, (y.length ≤ 1048576 ∧ ∀ z ∈ y, True))) : n_IntSS x ≤ 1099511627776 := by
  have hc := cntS_bound (fun e : (List Int) => n_IntS e) 1048576 x (fun e he => by
    have b0 := nb_IntS e ((h.2 e he))
    show n_IntS e ≤ 1048576
    omega)
  have hx := h.1
  show cntS _ x ≤ _
  have := Nat.mul_le_mul_right 1048576 hx
  omega
theorem mk_IntSS (x : (List (List Int))) (k : Int) (h : (x.length ≤ 1099511627776 ∧ ∀ y ∈ x, (y.length ≤ 1099511627776 ∧ ∀ z ∈ y, True))) (h0 : 0 ≤ k) (hk : k + ((n_IntSS x : Nat) : Int) ≤ 9000000000000000000) : ∃ x' : (List (List Int)), ∀ u, laws_markIntSS (x, k, u) () = some (k + ((n_IntSS x : Nat) : Int), x') := by
  have hx := h.1
  obtain ⟨x', b, i', e1⟩ := mark_only (F := laws_markIntSS_L0) (fun e : (List Int) => n_IntS e) x k h0 hk hx
    (fun i hi out k ho hg h0 hk => by
      replace hk : k + ((n_IntS x[i] : Nat) : Int) ≤ 9000000000000000000 := hk
      obtain ⟨z0, m0⟩ := mk_IntS x[i] k (h.2 _ (List.getElem_mem hi)) (by omega) (by omega)
      have hK : (k + ((n_IntS x[i] : Nat) : Int)) = k + ((n_IntS x[i] : Nat) : Int) := by omega
      refine ⟨z0, ?_⟩
      show _ = some (Out.norm (((i + 1 : Nat) : Int), k + ((n_IntS x[i] : Nat) : Int), setI out (i : Int) (fun _ => z0), ()))
      rw [← hK]
      unfold laws_markIntSS_L0
      simp only [lenI_eq, ho, lt_yes hi, if_true, hg, getI_setI, setI_setI, Option.map_some, some_bind', m0, idxN hi hx (Nat.le_refl _)]
      try rw [setI_const hg])
    (fun out k ho => ⟨false, (x.length : Int), by unfold laws_markIntSS_L0; simp only [lenI_eq, ho, lt_no, Bool.false_eq_true, if_false]⟩)
  exact ⟨x', fun u => by unfold laws_markIntSS n_IntSS; simp only [e1, some_bind']⟩
theorem mh_IntSS (x : (List (List Int))) (k : Int) (h : (x.length ≤ 1099511627776 ∧ ∀ y ∈ x, (y.length ≤ 1099511627776 ∧ ∀ z ∈ y, True))) (h0 : 0 ≤ k) (hk : k + ((n_IntSS x : Nat) : Int) ≤ 9000000000000000000) : ∃ x' : (List (List Int)), (∀ u, laws_markIntSS (x, k, u) () = some (k + ((n_IntSS x : Nat) : Int), x')) ∧ ∀ u, laws_heldIntSS (x', k, u) () = some (k + ((n_IntSS x : Nat) : Int), ()) := by
  have hx := h.1
  obtain ⟨x', -, ⟨b, i', e1⟩, ⟨b2, i2, e2⟩⟩ := mark_held (F := laws_markIntSS_L0) (G := laws_heldIntSS_L0) (fun e : (List Int) => n_IntS e) (fun e k e' => (∀ u, laws_heldIntS (e', k, u) () = some ((k + ((n_IntS e : Nat) : Int)), ()))) x k h0 hk hx
    (fun i hi out k ho hg h0 hk => by
      replace hk : k + ((n_IntS x[i] : Nat) : Int) ≤ 9000000000000000000 := hk
      obtain ⟨z0, m0, q0⟩ := mh_IntS x[i] k (h.2 _ (List.getElem_mem hi)) (by omega) (by omega)
      have hK : (k + ((n_IntS x[i] : Nat) : Int)) = k + ((n_IntS x[i] : Nat) : Int) := by omega
      refine ⟨z0, q0, ?_⟩
      show _ = some (Out.norm (((i + 1 : Nat) : Int), k + ((n_IntS x[i] : Nat) : Int), setI out (i : Int) (fun _ => z0), ()))
      rw [← hK]
      unfold laws_markIntSS_L0
      simp only [lenI_eq, ho, lt_yes hi, if_true, hg, getI_setI, setI_setI, Option.map_some, some_bind', m0, idxN hi hx (Nat.le_refl _)]
      try rw [setI_const hg])
    (fun out k ho => ⟨false, (x.length : Int), by unfold laws_markIntSS_L0; simp only [lenI_eq, ho, lt_no, Bool.false_eq_true, if_false]⟩)
    (fun i hi y k e' hy hg hr h0 hk => by
      replace hk : k + ((n_IntS x[i] : Nat) : Int) ≤ 9000000000000000000 := hk
      have hK : (k + ((n_IntS x[i] : Nat) : Int)) = k + ((n_IntS x[i] : Nat) : Int) := by omega
      have r0 := hr
      show _ = some (Out.norm (((i + 1 : Nat) : Int), y, k + ((n_IntS x[i] : Nat) : Int), ()))
      rw [← hK]
      unfold laws_heldIntSS_L0
      simp only [lenI_eq, hy, lt_yes hi, if_true, hg, some_bind', r0, neg_no (show 0 ≤ (k + ((n_IntS x[i] : Nat) : Int)) by omega), eqZ_self, eqS_self, eqB_self, notB_true, Bool.false_eq_true, if_false, idxN hi hx (Nat.le_refl _)])
    (fun y k hy => ⟨false, (x.length : Int), by unfold laws_heldIntSS_L0; simp only [lenI_eq, hy, lt_no, Bool.false_eq_true, if_false]⟩)
  exact ⟨x', fun u => by unfold laws_markIntSS n_IntSS; simp only [e1, some_bind'], fun u => by unfold laws_heldIntSS n_IntSS; simp only [e2, some_bind']⟩
def n_ResourceS (x : (List D_Resource)) : Nat := cntS (fun e : D_Resource => n_StepS e.1 + n_IntSS e.2.1) x
theorem nb_ResourceS (x : (List D_Resource)) (h : (x.length ≤ 1048576 ∧ ∀ y ∈ x, Sm_Resource 1048576 y)) : n_ResourceS x ≤ 1152923703630102528 := by
  have hc := cntS_bound (fun e : D_Resource => n_StepS e.1 + n_IntSS e.2.1) 1099513724928 x (fun e he => by
    have b0 := nb_StepS e.1 ((h.2 e he).1); have b1 := nb_IntSS e.2.1 ((h.2 e he).2.1)
    show n_StepS e.1 + n_IntSS e.2.1 ≤ 1099513724928
    omega)
  have hx := h.1
  show cntS _ x ≤ _
  have := Nat.mul_le_mul_right 1099513724928 hx
  omega
theorem mk_ResourceS (x : (List D_Resource)) (k : Int) (h : (x.length ≤ 1099511627776 ∧ ∀ y ∈ x, Sm_Resource 1099511627776 y)) (h0 : 0 ≤ k) (hk : k + ((n_ResourceS x : Nat) : Int) ≤ 9000000000000000000) : ∃ x' : (List D_Resource), ∀ u, laws_markResourceS (x, k, u) () = some (k + ((n_ResourceS x : Nat) : Int), x') := by
  have hx := h.1
  obtain ⟨x', b, i', e1⟩ := mark_only (F := laws_markResourceS_L0) (fun e : D_Resource => n_StepS e.1 + n_IntSS e.2.1) x k h0 hk hx
    (fun i hi out k ho hg h0 hk => by
      replace hk : k + ((n_StepS x[i].1 + n_IntSS x[i].2.1 : Nat) : Int) ≤ 9000000000000000000 := hk
      obtain ⟨z0, m0⟩ := mk_StepS x[i].1 k (h.2 _ (List.getElem_mem hi)).1 (by omega) (by omega)
      obtain ⟨z1, m1⟩ := mk_IntSS x[i].2.1 (k + ((n_StepS x[i].1 : Nat) : Int)) (h.2 _ (List.getElem_mem hi)).2.1 (by omega) (by omega)
      have hK : ((k + ((n_StepS x[i].1 : Nat) : Int)) + ((n_IntSS x[i].2.1 : Nat) : Int)) = k + ((n_StepS x[i].1 + n_IntSS x[i].2.1 : Nat) : Int) := by omega
      refine ⟨(z0, z1, ()), ?_⟩
      show _ = some (Out.norm (((i + 1 : Nat) : Int), k + ((n_StepS x[i].1 + n_IntSS x[i].2.1 : Nat) : Int), setI out (i : Int) (fun _ => (z0, z1, ())), ()))
      rw [← hK]
      unfold laws_markResourceS_L0
      simp only [lenI_eq, ho, lt_yes hi, if_true, hg, getI_setI, setI_setI, Option.map_some, some_bind', m0, m1, idxN hi hx (Nat.le_refl _)]
      try rw [setI_const hg])
    (fun out k ho => ⟨false, (x.length : Int), by unfold laws_markResourceS_L0; simp only [lenI_eq, ho, lt_no, Bool.false_eq_true, if_false]⟩)
  exact ⟨x', fun u => by unfold laws_markResourceS n_ResourceS; simp only [e1, some_bind']⟩
theorem mh_ResourceS (x : (List D_Resource)) (k : Int) (h : (x.length ≤ 1099511627776 ∧ ∀ y ∈ x, Sm_Resource 1099511627776 y)) (h0 : 0 ≤ k) (hk : k + ((n_ResourceS x : Nat) : Int) ≤ 9000000000000000000) : ∃ x' : (List D_Resource), (∀ u, laws_markResourceS (x, k, u) () = some (k + ((n_ResourceS x : Nat) : Int), x')) ∧ ∀ u, laws_heldResourceS (x', k, u) () = some (k + ((n_ResourceS x : Nat) : Int), ()) := by
  have hx := h.1
  obtain ⟨x', -, ⟨b, i', e1⟩, ⟨b2, i2, e2⟩⟩ := mark_held (F := laws_markResourceS_L0) (G := laws_heldResourceS_L0) (fun e : D_Resource => n_StepS e.1 + n_IntSS e.2.1) (fun e k e' => (∀ u, laws_heldStepS (e'.1, k, u) () = some ((k + ((n_StepS e.1 : Nat) : Int)), ())) ∧ (∀ u, laws_heldIntSS (e'.2.1, (k + ((n_StepS e.1 : Nat) : Int)), u) () = some (((k + ((n_StepS e.1 : Nat) : Int)) + ((n_IntSS e.2.1 : Nat) : Int)), ()))) x k h0 hk hx
    (fun i hi out k ho hg h0 hk => by
      replace hk : k + ((n_StepS x[i].1 + n_IntSS x[i].2.1 : Nat) : Int) ≤ 9000000000000000000 := hk
      obtain ⟨z0, m0, q0⟩ := mh_StepS x[i].1 k (h.2 _ (List.getElem_mem hi)).1 (by omega) (by omega)
      obtain ⟨z1, m1, q1⟩ := mh_IntSS x[i].2.1 (k + ((n_StepS x[i].1 : Nat) : Int)) (h.2 _ (List.getElem_mem hi)).2.1 (by omega) (by omega)
      have hK : ((k + ((n_StepS x[i].1 : Nat) : Int)) + ((n_IntSS x[i].2.1 : Nat) : Int)) = k + ((n_StepS x[i].1 + n_IntSS x[i].2.1 : Nat) : Int) := by omega
      refine ⟨(z0, z1, ()), ⟨q0, q1⟩, ?_⟩
      show _ = some (Out.norm (((i + 1 : Nat) : Int), k + ((n_StepS x[i].1 + n_IntSS x[i].2.1 : Nat) : Int), setI out (i : Int) (fun _ => (z0, z1, ())), ()))
      rw [← hK]
      unfold laws_markResourceS_L0
      simp only [lenI_eq, ho, lt_yes hi, if_true, hg, getI_setI, setI_setI, Option.map_some, some_bind', m0, m1, idxN hi hx (Nat.le_refl _)]
      try rw [setI_const hg])
    (fun out k ho => ⟨false, (x.length : Int), by unfold laws_markResourceS_L0; simp only [lenI_eq, ho, lt_no, Bool.false_eq_true, if_false]⟩)
    (fun i hi y k e' hy hg hr h0 hk => by
      replace hk : k + ((n_StepS x[i].1 + n_IntSS x[i].2.1 : Nat) : Int) ≤ 9000000000000000000 := hk
      have hK : ((k + ((n_StepS x[i].1 : Nat) : Int)) + ((n_IntSS x[i].2.1 : Nat) : Int)) = k + ((n_StepS x[i].1 + n_IntSS x[i].2.1 : Nat) : Int) := by omega
      obtain ⟨r0, r1⟩ := hr
      show _ = some (Out.norm (((i + 1 : Nat) : Int), y, k + ((n_StepS x[i].1 + n_IntSS x[i].2.1 : Nat) : Int), ()))
      rw [← hK]
      unfold laws_heldResourceS_L0
      simp only [lenI_eq, hy, lt_yes hi, if_true, hg, some_bind', r0, neg_no (show 0 ≤ (k + ((n_StepS x[i].1 : Nat) : Int)) by omega), r1, neg_no (show 0 ≤ ((k + ((n_StepS x[i].1 : Nat) : Int)) + ((n_IntSS x[i].2.1 : Nat) : Int)) by omega), eqZ_self, eqS_self, eqB_self, notB_true, Bool.false_eq_true, if_false, idxN hi hx (Nat.le_refl _)])
    (fun y k hy => ⟨false, (x.length : Int), by unfold laws_heldResourceS_L0; simp only [lenI_eq, hy, lt_no, Bool.false_eq_true, if_false]⟩)
  exact ⟨x', fun u => by unfold laws_markResourceS n_ResourceS; simp only [e1, some_bind'], fun u => by unfold laws_heldResourceS n_ResourceS; simp only [e2, some_bind']⟩
def n_Project (x : D_Project) : Nat := n_ActivityS x.2.1 + n_LinkS x.2.2.1 + n_ResourceS x.2.2.2.1 + n_IntS x.2.2.2.2.1
theorem nb_Project (x : D_Project) (h : Sm_Project 1048576 x) : n_Project x ≤ 3458767812362764288 := by
  have b1 := nb_ActivityS x.2.1 h.2.1
  have b2 := nb_LinkS x.2.2.1 h.2.2.1
  have b3 := nb_ResourceS x.2.2.2.1 h.2.2.2.1
  have b4 := nb_IntS x.2.2.2.2.1 h.2.2.2.2.1
  unfold n_Project
  omega
theorem mk_Project (x : D_Project) (k : Int) (h : Sm_Project 1099511627776 x) (h0 : 0 ≤ k) (hk : k + ((n_Project x : Nat) : Int) ≤ 9000000000000000000) : ∃ x' : D_Project, ∀ u, laws_markProject (x, k, u) () = some (k + ((n_Project x : Nat) : Int), x') := by
  unfold n_Project at hk
  obtain ⟨z1, m1⟩ := mk_ActivityS x.2.1 k h.2.1 (by omega) (by omega)
  obtain ⟨z2, m2⟩ := mk_LinkS x.2.2.1 (k + ((n_ActivityS x.2.1 : Nat) : Int)) h.2.2.1 (by omega) (by omega)
  obtain ⟨z3, m3⟩ := mk_ResourceS x.2.2.2.1 ((k + ((n_ActivityS x.2.1 : Nat) : Int)) + ((n_LinkS x.2.2.1 : Nat) : Int)) h.2.2.2.1 (by omega) (by omega)
  obtain ⟨z4, m4⟩ := mk_IntS x.2.2.2.2.1 (((k + ((n_ActivityS x.2.1 : Nat) : Int)) + ((n_LinkS x.2.2.1 : Nat) : Int)) + ((n_ResourceS x.2.2.2.1 : Nat) : Int)) h.2.2.2.2.1 (by omega) (by omega)
  have hK : ((((k + ((n_ActivityS x.2.1 : Nat) : Int)) + ((n_LinkS x.2.2.1 : Nat) : Int)) + ((n_ResourceS x.2.2.2.1 : Nat) : Int)) + ((n_IntS x.2.2.2.2.1 : Nat) : Int)) = k + ((n_Project x : Nat) : Int) := by unfold n_Project; omega
  rw [← hK]
  refine ⟨(x.1, z1, z2, z3, z4, ()), fun u => ?_⟩
  unfold laws_markProject
  simp only [m1, m2, m3, m4, some_bind']
  try rfl
theorem mh_Project (x : D_Project) (k : Int) (h : Sm_Project 1099511627776 x) (h0 : 0 ≤ k) (hk : k + ((n_Project x : Nat) : Int) ≤ 9000000000000000000) : ∃ x' : D_Project, (∀ u, laws_markProject (x, k, u) () = some (k + ((n_Project x : Nat) : Int), x')) ∧ ∀ u, laws_heldProject (x', k, u) () = some (k + ((n_Project x : Nat) : Int), ()) := by
  unfold n_Project at hk
  obtain ⟨z1, m1, q1⟩ := mh_ActivityS x.2.1 k h.2.1 (by omega) (by omega)
  obtain ⟨z2, m2, q2⟩ := mh_LinkS x.2.2.1 (k + ((n_ActivityS x.2.1 : Nat) : Int)) h.2.2.1 (by omega) (by omega)
  obtain ⟨z3, m3, q3⟩ := mh_ResourceS x.2.2.2.1 ((k + ((n_ActivityS x.2.1 : Nat) : Int)) + ((n_LinkS x.2.2.1 : Nat) : Int)) h.2.2.2.1 (by omega) (by omega)
  obtain ⟨z4, m4, q4⟩ := mh_IntS x.2.2.2.2.1 (((k + ((n_ActivityS x.2.1 : Nat) : Int)) + ((n_LinkS x.2.2.1 : Nat) : Int)) + ((n_ResourceS x.2.2.2.1 : Nat) : Int)) h.2.2.2.2.1 (by omega) (by omega)
  have hK : ((((k + ((n_ActivityS x.2.1 : Nat) : Int)) + ((n_LinkS x.2.2.1 : Nat) : Int)) + ((n_ResourceS x.2.2.2.1 : Nat) : Int)) + ((n_IntS x.2.2.2.2.1 : Nat) : Int)) = k + ((n_Project x : Nat) : Int) := by unfold n_Project; omega
  rw [← hK]
  refine ⟨(x.1, z1, z2, z3, z4, ()), fun u => ?_, fun u => ?_⟩
  · unfold laws_markProject
    simp only [m1, m2, m3, m4, some_bind']
    try rfl
  · unfold laws_heldProject
    simp only [q1, neg_no (show 0 ≤ (k + ((n_ActivityS x.2.1 : Nat) : Int)) by omega), q2, neg_no (show 0 ≤ ((k + ((n_ActivityS x.2.1 : Nat) : Int)) + ((n_LinkS x.2.2.1 : Nat) : Int)) by omega), q3, neg_no (show 0 ≤ (((k + ((n_ActivityS x.2.1 : Nat) : Int)) + ((n_LinkS x.2.2.1 : Nat) : Int)) + ((n_ResourceS x.2.2.2.1 : Nat) : Int)) by omega), q4, neg_no (show 0 ≤ ((((k + ((n_ActivityS x.2.1 : Nat) : Int)) + ((n_LinkS x.2.2.1 : Nat) : Int)) + ((n_ResourceS x.2.2.2.1 : Nat) : Int)) + ((n_IntS x.2.2.2.2.1 : Nat) : Int)) by omega), some_bind', Bool.false_eq_true, if_false]
end Go.Proofs.Ytjgmjljdhgfdhaa
