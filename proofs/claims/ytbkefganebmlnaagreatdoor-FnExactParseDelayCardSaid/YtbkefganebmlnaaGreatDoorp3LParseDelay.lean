/-
  Plain law: for all data within the bounds of the machine the law FnExactParseDelay returns true.
-/
import Derived.Test.YtbkefganebmlnaaGreatDoorp3LFormatDelay
import Derived.Test.YtbkefganebmlnaaGreatDoorp3LSplit
import Derived.Test.YtbkefganebmlnaaGreatDoorp3LParseI
namespace Go.Proofs.YtbkefganebmlnaaGreatDoor
open Go.Abs
set_option linter.unusedVariables false
set_option linter.unusedSimpArgs false

theorem findA {A : Type} {F : (Int × Int × List D_Activity × List UInt8 × Unit) → Option (Out (Int × Int × List D_Activity × List UInt8 × Unit) ((Bool × Int × Int × List D_Activity × List UInt8 × Unit) ⊕ Empty) (Int × Unit))} (hF : F = spec_ActivityIndex_L0) (l : List D_Activity) (s : List UInt8) (hl : l.length ≤ 1099511627776) :
    loopN (A := A) big F (0, (l.length : Int), l, s, ()) = some (match l.findIdx? (fun a => eqS a.1 s) with | some i => .ret ((i : Int), ()) | none => .exit (Sum.inl (false, (l.length : Int), (l.length : Int), l, s, ()))) := by
  subst hF
  exact findS (F := spec_ActivityIndex_L0) (fun i => ((i : Int), (l.length : Int), l, s, ())) (0, (l.length : Int), l, s, ()) l (fun a => eqS a.1 s) (Sum.inl (false, (l.length : Int), (l.length : Int), l, s, ())) (fun i => ((i : Int), ())) rfl hl
    (fun i hi => by
      unfold spec_ActivityIndex_L0
      simp only [lt_yes hi, if_true, getI_lt hi, some_bind', idxN hi hl (Nat.le_refl _)]
      rcases tf (eqS l[i].1 s) with q | q <;> simp [q])
    (by
      unfold spec_ActivityIndex_L0
      simp only [lt_no, Bool.false_eq_true, if_false])
theorem ActIndex_spec (p : D_Project) (s : List UInt8) (u : Unit) (hp : p.2.1.length ≤ 1099511627776) : spec_ActivityIndex (p, s, u) () = some (idxOf (fun a : D_Activity => eqS a.1 s) p.2.1, ()) := by
  unfold spec_ActivityIndex idxOf
  simp only [lenI_eq, findA rfl p.2.1 s hp]
  cases p.2.1.findIdx? fun a => eqS a.1 s <;> rfl
theorem ActIndex_impl (p : D_Project) (s : List UInt8) (u : Unit) (hp : p.2.1.length ≤ 1099511627776) : impl_ActivityIndex (p, s, u) () = some (idxOf (fun a : D_Activity => eqS a.1 s) p.2.1, ()) := by
  have key : ∀ (f : (D_Activity × Unit) → Option Bool), (∀ a, f (a, ()) = some (eqS a.1 s)) → ∀ u, slices_IndexFunc_impl_Activity_impl_Activity (p.2.1, f, u) () = some (idxOf (fun a : D_Activity => eqS a.1 s) p.2.1, ()) := fun f hf u => by
    unfold slices_IndexFunc_impl_Activity_impl_Activity idxOf
    simp only [lenI_eq]
    rw [findS (F := slices_IndexFunc_impl_Activity_impl_Activity_L0) (fun i => ((i : Int), (p.2.1.length : Int), f, p.2.1, ())) (0, (p.2.1.length : Int), f, p.2.1, ()) p.2.1 (fun a => eqS a.1 s) (Sum.inl (false, (p.2.1.length : Int), (p.2.1.length : Int), f, p.2.1, ())) (fun i => ((i : Int), ())) rfl hp
      (fun i hi => by
        unfold slices_IndexFunc_impl_Activity_impl_Activity_L0
        simp only [lt_yes hi, if_true, getI_lt hi, some_bind', hf, idxN hi hp (Nat.le_refl _)]
        rcases tf (eqS p.2.1[i].1 s) with q | q <;> simp [q])
      (by unfold slices_IndexFunc_impl_Activity_impl_Activity_L0; simp only [lt_no, Bool.false_eq_true, if_false])]
    cases p.2.1.findIdx? (fun a => eqS a.1 s) <;> rfl
  unfold impl_ActivityIndex
  rw [key _ (fun a => rfl)]
  rfl
/-! words without blanks -/
theorem dig_no (u : Nat) : (32 : UInt8) ∉ Lib.decDigits u := fun h => by
  have := (dec_digs u).1 _ h
  unfold isDig at this
  have e : (32 : UInt8).toNat = 32 := rfl
  omega
theorem fmt_no (n : Int) : (32 : UInt8) ∉ fmtV n := fun h => by
  unfold fmtV at h
  split at h
  · unfold Lib.itoa at h
    split at h
    · rcases List.mem_cons.1 h with h | h
      · cases h
      · exact dig_no _ h
    · exact dig_no _ h
  · simp at h
theorem name_no {s : List UInt8} (h : nameB s = true) : (32 : UInt8) ∉ s := fun hm => by
  unfold nameB at h
  rw [Bool.and_eq_true, List.all_eq_true] at h
  obtain ⟨i, hi, e⟩ := List.mem_iff_getElem.1 hm
  have h1 := h.1 i (by simpa using hi)
  unfold nameI at h1
  rw [List.getElem?_eq_getElem hi, e] at h1
  simp only [Bool.not_eq_true', Bool.and_eq_false_iff, Bool.not_eq_false', Bool.and_eq_true, Bool.or_eq_false_iff] at h1
  have e32 : (32 : UInt8).toNat = 32 := rfl
  rcases h1 with h1 | h1
  · have := leZ_iff.1 h1.1
    rw [e32] at this
    omega
  · have h2 := h1.1.2
    rw [Bool.eq_false_iff, Ne, ltZ_iff, e32] at h2
    omega
theorem proj_nameB {p : D_Project} (h : projB p = true) {i : Nat} (hi : i < p.2.1.length) : nameB p.2.1[i].1 = true := by
  unfold projB at h
  simp only [Bool.and_eq_true] at h
  have h1 := List.all_eq_true.1 h.1.1.1.2 i (by simpa using hi)
  unfold actI at h1
  rw [List.getElem?_eq_getElem hi] at h1
  simp only [Bool.and_eq_true] at h1
  have h2 := h1.1
  unfold actB at h2
  simp only [Bool.and_eq_true] at h2
  exact h2.2.1.1
/-- the words of a delay's text -/
theorem delay_words {p : D_Project} {d : D_Delay} (hp : Sm_Project 1099511627776 p) (h : delayB p d = true) : ∃ x y, splR 32 (delayV p d) = [x, y, fmtV d.2.2.1, fmtV d.2.2.2.1] := by
  obtain ⟨k, a, n, t, u⟩ := d
  have hd := h
  unfold delayB at hd
  simp only [Bool.and_eq_true] at hd
  obtain ⟨⟨hok, -⟩, hk⟩ := hd
  have four : ∀ x y z w : List UInt8, (32 : UInt8) ∉ x → (32 : UInt8) ∉ y → (32 : UInt8) ∉ z → (32 : UInt8) ∉ w → splR 32 (Lib.join [x, y, z, w] [32]) = [x, y, z, w] := fun x y z w h1 h2 h3 h4 =>
    splR_join (by simp) fun v hv => by
      simp only [List.mem_cons, List.not_mem_nil, or_false] at hv
      rcases hv with rfl | rfl | rfl | rfl <;> assumption
  unfold delayV
  by_cases h1 : k = 1
  · subst h1
    have e1 : eqZ 1 1 = true := rfl
    simp only [e1, if_true] at hk ⊢
    obtain ⟨i, rfl, hi⟩ := inB_place hp.2.1.1 (Bool.and_eq_true _ _ ▸ hk).1
    simp only [getI_lt hi]
    exact ⟨_, _, four _ _ _ _ (by decide) (name_no (proj_nameB hok hi)) (fmt_no _) (fmt_no _)⟩
  by_cases h2 : k = 2
  · subst h2
    have e1 : eqZ 2 1 = false := rfl
    have e2 : eqZ 2 2 = true := rfl
    simp only [e1, e2, if_true, Bool.false_eq_true, if_false] at hk ⊢
    obtain ⟨i, rfl, hi⟩ := inB_place hp.2.1.1 (Bool.and_eq_true _ _ ▸ hk).1
    simp only [getI_lt hi]
    exact ⟨_, _, four _ _ _ _ (by decide) (name_no (proj_nameB hok hi)) (fmt_no _) (fmt_no _)⟩
  have e1 : eqZ k 1 = false := by rw [Bool.eq_false_iff, Ne, eqZ_iff]; exact h1
  have e2 : eqZ k 2 = false := by rw [Bool.eq_false_iff, Ne, eqZ_iff]; exact h2
  simp only [e1, e2, Bool.false_eq_true, if_false]
  exact ⟨_, _, four _ _ _ _ (by decide) (fmt_no _) (fmt_no _) (fmt_no _)⟩
/-- what a delay reads as -/
def dlyF (p : D_Project) (d : D_Delay) : List UInt8 := if delayB p d = true then delayV p d else []
theorem dly_words {p : D_Project} {d : D_Delay} {s : List UInt8} (hp : Sm_Project 1099511627776 p) (h : dlyF p d = s) (hs : s ≠ []) : ∃ x y, splR 32 s = [x, y, fmtV d.2.2.1, fmtV d.2.2.2.1] := by
  unfold dlyF at h
  split at h
  · rename_i hb
    rw [← h]
    exact delay_words hp hb
  · exact absurd h.symm hs
def readD (p : D_Project) (w0 w1 w2 w3 : List UInt8) : D_Delay :=
  if eqS w0 [108, 97, 116, 101] = true then (1, idxOf (fun a : D_Activity => eqS a.1 w1) p.2.1, (pI w2).1, (pI w3).1, ())
  else if eqS w0 [108, 111, 110, 103] = true then (2, idxOf (fun a : D_Activity => eqS a.1 w1) p.2.1, (pI w2).1, (pI w3).1, ())
  else if eqS w0 [99, 97, 112, 97, 99, 105, 116, 121] = true then (3, (pI w1).1, (pI w2).1, (pI w3).1, ())
  else (0, idxOf (fun a : D_Activity => eqS a.1 w1) p.2.1, (pI w2).1, (pI w3).1, ())
theorem readD_nums (p : D_Project) (w0 w1 w2 w3 : List UInt8) : (readD p w0 w1 w2 w3).2.2.1 = (pI w2).1 ∧ (readD p w0 w1 w2 w3).2.2.2.1 = (pI w3).1 := by
  unfold readD
  repeat' split
  all_goals exact ⟨rfl, rfl⟩
def outD (p : D_Project) (s w0 w1 w2 w3 : List UInt8) : D_Delay × Bool × Unit := if dlyF p (readD p w0 w1 w2 w3) = s ∧ s ≠ [] then (readD p w0 w1 w2 w3, true, ()) else ((0, 0, 0, 0, ()), false, ())
theorem own_num {w : List UInt8} (h : fmtV (pI w).1 = w) (hw : w ≠ []) : (pI w).2 = true := by
  obtain ⟨h1, h2, h3⟩ := fmtV_eq h hw
  have := pI_itoa h1 h2
  rw [h3] at this
  rw [this]
theorem get_at {α : Type} {l : List α} {z : α} {k : Nat} (h : k < l.length) : getI l (k : Int) = some ((l[k]?).getD z) := by
  rw [getI_lt h, List.getElem?_eq_getElem h]
  rfl
theorem ParseDelay_spec (p : D_Project) (s : List UInt8) (u : Unit) (hp : Sm_Project 1099511627776 p) (hl : s.length ≤ 1048576) : ∃ w0 w1 w2 w3, spec_ParseDelay (p, s, u) () = some (outD p s w0 w1 w2 w3, ()) ∧ (∀ a b c d, splR 32 s = [a, b, c, d] → w0 = a ∧ w1 = b ∧ w2 = c ∧ w3 = d) := by
  obtain ⟨W, hW⟩ : ∃ W, W = splR 32 s := ⟨_, rfl⟩
  have hWl : W.length ≤ s.length + 1 := by rw [hW]; exact splR_len 32 s
  have hW1 : 1 ≤ W.length := by
    rw [hW]
    have := splR_ne 32 s
    cases h : splR 32 s with
    | nil => exact absurd h this
    | cons a b => simp
  have hm : ∀ w ∈ W ++ [[], [], []], w.length ≤ 1073741824 := fun w hw => by
    rcases List.mem_append.1 hw with hw | hw
    · rw [hW] at hw
      have := (splR_mem hw).1
      omega
    · simp only [List.mem_cons, List.not_mem_nil, or_false, or_self] at hw
      subst hw
      simp
  have ha : addI W [[], [], []] = some (W ++ [[], [], []]) := addI_ok (by rw [room_eq]; simp; omega)
  obtain ⟨V, hV⟩ : ∃ V, V = W ++ [[], [], []] := ⟨_, rfl⟩
  have hVl : 4 ≤ V.length := by rw [hV, List.length_append]; simp; omega
  rw [← hV] at ha hm
  have g : ∀ k : Nat, k < 4 → getI V (k : Int) = some ((V[k]?).getD []) := fun k hk => get_at (by omega)
  have gm : ∀ k : Nat, k < 4 → ((V[k]?).getD []).length ≤ 1073741824 := fun k hk => by
    rw [List.getElem?_eq_getElem (show k < V.length by omega)]
    exact hm _ (List.getElem_mem _)
  have g0 : getI V 0 = some ((V[0]?).getD []) := g 0 (by omega)
  have g1 : getI V 1 = some ((V[1]?).getD []) := g 1 (by omega)
  have g2 : getI V 2 = some ((V[2]?).getD []) := g 2 (by omega)
  have g3 : getI V 3 = some ((V[3]?).getD []) := g 3 (by omega)
  have m1 := gm 1 (by omega)
  have m2 := gm 2 (by omega)
  have m3 := gm 3 (by omega)
  refine ⟨(V[0]?).getD [], (V[1]?).getD [], (V[2]?).getD [], (V[3]?).getD [], ?_, fun a b c d e => ?_⟩
  · have hS := fun u => Split_spec s 32 u (by omega)
    rw [← hW] at hS
    generalize (V[0]?).getD [] = w0 at g0
    generalize (V[1]?).getD [] = w1 at g1 m1
    generalize (V[2]?).getD [] = w2 at g2 m2
    generalize (V[3]?).getD [] = w3 at g3 m3
    have hF := fun d u => (FormatDelay_both p d u hp).1
    have fin : ∀ d : D_Delay, (if eqS (dlyF p d) [] = true then some (true, d, ((0 : Int), (0 : Int), (0 : Int), (0 : Int), ()), ()) else some (notB (eqS (dlyF p d) s), d, ((0 : Int), (0 : Int), (0 : Int), (0 : Int), ()), ())).bind (fun v51 => if v51.1 = true then some ((((0 : Int), (0 : Int), (0 : Int), (0 : Int), ()), false, ()), ()) else some ((v51.2.1, true, ()), ())) = some ((if dlyF p d = s ∧ s ≠ [] then (d, true, ()) else ((0, 0, 0, 0, ()), false, ())), ()) := fun d => by
      by_cases h1 : dlyF p d = []
      · have e : eqS (dlyF p d) [] = true := by rw [h1]; rfl
        rw [if_pos e, if_neg (fun h => h.2 (h.1.symm.trans h1))]
        rfl
      · have e : eqS (dlyF p d) [] = false := by unfold eqS; simp [h1]
        rw [if_neg (by rw [e]; simp)]
        by_cases h2 : dlyF p d = s
        · have e2 : eqS (dlyF p d) s = true := by unfold eqS; simp [h2]
          rw [e2, if_pos ⟨h2, fun hs => h1 (h2.trans hs)⟩]
          rfl
        · have e2 : eqS (dlyF p d) s = false := by unfold eqS; simp [h2]
          rw [e2, if_neg (fun h => h2 h.1)]
          rfl
    unfold spec_ParseDelay outD readD
    simp only [hS, some_bind', ha, g0, g1, g2, g3, ParseInt_spec _ _ m1, ParseInt_spec _ _ m2, ParseInt_spec _ _ m3, ActIndex_spec _ _ _ hp.2.1.1]
    unfold dlyF at fin ⊢
    rcases tf (eqS w0 [108, 97, 116, 101]) with q1 | q1
    · rcases tf (eqS w0 [108, 111, 110, 103]) with q2 | q2
      · rcases tf (eqS w0 [99, 97, 112, 97, 99, 105, 116, 121]) with q3 | q3
        · simp only [q1, q2, q3, Bool.false_eq_true, if_false, some_bind', hF]
          exact fin _
        · simp only [q1, q2, q3, Bool.false_eq_true, if_false, if_true, some_bind', hF]
          exact fin _
      · simp only [q1, q2, Bool.false_eq_true, if_false, if_true, some_bind', hF]
        exact fin _
    · simp only [q1, if_true, some_bind', hF]
      exact fin _
  · rw [hV, hW, e]
    exact ⟨rfl, rfl, rfl, rfl⟩
theorem ParseDelay_impl (p : D_Project) (s : List UInt8) (u : Unit) (hp : Sm_Project 1099511627776 p) (hl : s.length ≤ 1048576) :
    (∃ w0 w1 w2 w3, splR 32 s = [w0, w1, w2, w3] ∧ impl_ParseDelay (p, s, u) () = some (outD p s w0 w1 w2 w3, ())) ∨ ((splR 32 s).length ≠ 4 ∧ impl_ParseDelay (p, s, u) () = some (((0, 0, 0, 0, ()), false, ()), ())) := by
  have hS := fun u => Split_impl s 32 u (by omega)
  by_cases h4 : (splR 32 s).length = 4
  · left
    obtain ⟨w0, w1, w2, w3, e⟩ : ∃ w0 w1 w2 w3, splR 32 s = [w0, w1, w2, w3] := by
      match h : splR 32 s with
      | [a, b, c, d] => exact ⟨a, b, c, d, rfl⟩
      | [] => rw [h] at h4; simp at h4
      | [a] => rw [h] at h4; simp at h4
      | [a, b] => rw [h] at h4; simp at h4
      | [a, b, c] => rw [h] at h4; simp at h4
      | a :: b :: c :: d :: f :: r => rw [h] at h4; simp at h4
    refine ⟨w0, w1, w2, w3, e, ?_⟩
    have hm : ∀ w ∈ splR 32 s, w.length ≤ 1073741824 := fun w hw => by
      have := (splR_mem hw).1
      omega
    rw [e] at hm hS
    have m1 := hm w1 (by simp)
    have m2 := hm w2 (by simp)
    have m3 := hm w3 (by simp)
    have hs : s ≠ [] := fun h => by
      rw [h] at e
      simp [splR] at e
    have e4 : eqZ (lenI [w0, w1, w2, w3]) 4 = true := rfl
    have g0 : getI [w0, w1, w2, w3] 0 = some w0 := rfl
    have g1 : getI [w0, w1, w2, w3] 1 = some w1 := rfl
    have g2 : getI [w0, w1, w2, w3] 2 = some w2 := rfl
    have g3 : getI [w0, w1, w2, w3] 3 = some w3 := rfl
    have hF := fun d u => (FormatDelay_both p d u hp).2
    have fin : ∀ d : D_Delay, d.2.2.1 = (pI w2).1 → d.2.2.2.1 = (pI w3).1 →
        (if notB (pI w2).2 = true then some (true, d, ((0 : Int), (0 : Int), (0 : Int), (0 : Int), ()), ()) else if notB (pI w3).2 = true then some (true, d, ((0 : Int), (0 : Int), (0 : Int), (0 : Int), ()), ()) else some (notB (eqS (dlyF p d) s), d, ((0 : Int), (0 : Int), (0 : Int), (0 : Int), ()), ())).bind
          (fun v49 => if v49.1 = true then some ((((0 : Int), (0 : Int), (0 : Int), (0 : Int), ()), false, ()), ()) else some ((v49.2.1, true, ()), ())) = some ((if dlyF p d = s ∧ s ≠ [] then (d, true, ()) else ((0, 0, 0, 0, ()), false, ())), ()) := fun d d1 d2 => by
      by_cases hq : dlyF p d = s
      · obtain ⟨x, y, ew⟩ := dly_words hp hq hs
        rw [e, d1, d2] at ew
        injection ew with _ ew
        injection ew with _ ew
        injection ew with ew2 ew
        injection ew with ew3 _
        have n2 : (32 : UInt8) ∉ w2 → True := fun _ => trivial
        have k2 : (pI w2).2 = true := by
          by_cases hw : w2 = []
          · exfalso
            rw [hw] at ew2
            have e0 : pI [] = (0, false) := rfl
            rw [e0] at ew2
            have e1 : fmtV 0 = Lib.itoa 0 := fmtV_in (by omega) (by omega)
            rw [e1] at ew2
            exact absurd ew2.symm (digs_ne 0)
          · exact own_num ew2.symm hw
        have k3 : (pI w3).2 = true := by
          by_cases hw : w3 = []
          · exfalso
            rw [hw] at ew3
            have e0 : pI [] = (0, false) := rfl
            rw [e0] at ew3
            have e1 : fmtV 0 = Lib.itoa 0 := fmtV_in (by omega) (by omega)
            rw [e1] at ew3
            exact absurd ew3.symm (digs_ne 0)
          · exact own_num ew3.symm hw
        have e2 : eqS (dlyF p d) s = true := by unfold eqS; simp [hq]
        have eo : (if dlyF p d = s ∧ s ≠ [] then (d, true, ()) else ((0, 0, 0, 0, ()), false, ()) : D_Delay × Bool × Unit) = (d, true, ()) := if_pos ⟨hq, hs⟩
        rw [k2, k3, e2, eo]
        rfl
      · have e2 : eqS (dlyF p d) s = false := by unfold eqS; simp [hq]
        have eo : (if dlyF p d = s ∧ s ≠ [] then (d, true, ()) else ((0, 0, 0, 0, ()), false, ()) : D_Delay × Bool × Unit) = ((0, 0, 0, 0, ()), false, ()) := if_neg fun h => hq h.1
        rw [e2, eo]
        cases (pI w2).2 <;> cases (pI w3).2 <;> rfl
    unfold impl_ParseDelay outD readD
    simp only [hS, some_bind', e4, notB_true, Bool.false_eq_true, if_false, g0, g1, g2, g3, ParseInt_impl _ _ m1, ParseInt_impl _ _ m2, ParseInt_impl _ _ m3, ActIndex_impl _ _ _ hp.2.1.1]
    have fin' := fin
    unfold dlyF at fin' ⊢
    have ifB : ∀ (b1 b2 : Bool) (d : D_Delay) (X : Option (Bool × D_Delay × D_Delay × Unit)), True := fun _ _ _ _ => trivial
    rcases tf (eqS w0 [108, 97, 116, 101]) with q1 | q1
    · rcases tf (eqS w0 [108, 111, 110, 103]) with q2 | q2
      · rcases tf (eqS w0 [99, 97, 112, 97, 99, 105, 116, 121]) with q3 | q3
        · have f := fin' (0, idxOf (fun a : D_Activity => eqS a.1 w1) p.2.1, (pI w2).1, (pI w3).1, ()) rfl rfl
          simp only [q1, q2, q3, Bool.false_eq_true, if_false, some_bind', hF, g1, g2, g3, ParseInt_impl _ _ m1, ParseInt_impl _ _ m2, ParseInt_impl _ _ m3]
          rw [← f]
          cases (pI w2).2 <;> cases (pI w3).2 <;> rfl
        · have f := fin' (3, (pI w1).1, (pI w2).1, (pI w3).1, ()) rfl rfl
          simp only [q1, q2, q3, Bool.false_eq_true, if_false, if_true, some_bind', hF, g1, g2, g3, ParseInt_impl _ _ m1, ParseInt_impl _ _ m2, ParseInt_impl _ _ m3]
          rw [← f]
          cases (pI w2).2 <;> cases (pI w3).2 <;> rfl
      · have f := fin' (2, idxOf (fun a : D_Activity => eqS a.1 w1) p.2.1, (pI w2).1, (pI w3).1, ()) rfl rfl
        simp only [q1, q2, Bool.false_eq_true, if_false, if_true, some_bind', hF, g1, g2, g3, ParseInt_impl _ _ m1, ParseInt_impl _ _ m2, ParseInt_impl _ _ m3]
        rw [← f]
        cases (pI w2).2 <;> cases (pI w3).2 <;> rfl
    · have f := fin' (1, idxOf (fun a : D_Activity => eqS a.1 w1) p.2.1, (pI w2).1, (pI w3).1, ()) rfl rfl
      simp only [q1, if_true, some_bind', hF, g1, g2, g3, ParseInt_impl _ _ m1, ParseInt_impl _ _ m2, ParseInt_impl _ _ m3]
      rw [← f]
      cases (pI w2).2 <;> cases (pI w3).2 <;> rfl
  · right
    refine ⟨h4, ?_⟩
    have e4 : eqZ (lenI (splR 32 s)) 4 = false := by
      rw [Bool.eq_false_iff, Ne, eqZ_iff, lenI_eq]
      omega
    unfold impl_ParseDelay
    simp only [hS, some_bind', e4, notB_false, if_true]
theorem parse_same (p : D_Project) (s : List UInt8) (hp : Sm_Project 1099511627776 p) (hl : s.length ≤ 1048576) : ∃ d b, (∀ u, spec_ParseDelay (p, s, u) () = some ((d, b, ()), ())) ∧ ∀ u, impl_ParseDelay (p, s, u) () = some ((d, b, ()), ()) := by
  obtain ⟨w0, w1, w2, w3, e1, hw⟩ := ParseDelay_spec p s () hp hl
  rcases ParseDelay_impl p s () hp hl with ⟨v0, v1, v2, v3, e2, e3⟩ | ⟨h4, e3⟩
  · obtain ⟨rfl, rfl, rfl, rfl⟩ := hw _ _ _ _ e2
    exact ⟨_, _, fun _ => e1, fun _ => e3⟩
  · have : outD p s w0 w1 w2 w3 = ((0, 0, 0, 0, ()), false, ()) := by
      unfold outD
      rw [if_neg]
      rintro ⟨h1, h2⟩
      obtain ⟨x, y, ew⟩ := dly_words hp h1 h2
      rw [ew] at h4
      exact h4 rfl
    rw [this] at e1
    exact ⟨_, _, fun _ => e1, fun _ => e3⟩
theorem plain_FnExactParseDelay (p : D_Project) (s : List UInt8) (u : Unit) (hp : Sm_Project maxLen p) : laws_FnExactParseDelay (p, s, u) () = some (true, ()) := by
  unfold laws_FnExactParseDelay
  simp only [lenI_eq]
  rcases tf (ltZ 1048576 (s.length : Int)) with hc | hc
  · have hc' : s.length ≤ 1048576 := by
      rw [Bool.eq_false_iff, Ne, ltZ_iff] at hc
      omega
    obtain ⟨r1, e1, c1⟩ := sz_Project p 1048576 () (by omega) (by omega) hp
    simp only [hc, Bool.false_eq_true, if_false, e1, some_bind']
    rcases c1 with c1 | ⟨c1, d1, sp⟩
    · simp only [neg_yes c1, if_true]
    have sp' := smm_Project (B' := 1099511627776) (by omega) p sp
    obtain ⟨d, b, k1, k2⟩ := parse_same p s sp' hc'
    simp only [neg_no c1, Bool.false_eq_true, if_false, to_Project _ _ sp, some_bind', k1, k2, eq_Delay, notB_true, eqB_self, eq_Project _ _ sp']
  · simp only [hc, if_true]
theorem L_FnExactParseDelay (x : Ty.dens H_laws_FnExactParseDelay.ps) (h : Ty.fits H_laws_FnExactParseDelay.ps x) : laws_FnExactParseDelay x () = some (true, ()) := by
  obtain ⟨a, b, u⟩ := x
  exact plain_FnExactParseDelay a b u (smf_Project _ h.1)
end Go.Proofs.YtbkefganebmlnaaGreatDoor
