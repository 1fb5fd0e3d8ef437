/-
  Plain laws: a project with one more activity (reference), whose name is free.
-/
import Derived.Test.YtholdafohofboaaGreatDoore6LNames
import Derived.Test.YtholdafohofboaaGreatDoore6LCopy
namespace Go.Proofs.YtholdafohofboaaGreatDoor
open Go.Abs
set_option linter.unusedVariables false
set_option linter.unusedSimpArgs false

def inF (i : Nat) (nm : List UInt8) (a : D_Activity) : List UInt8 := if eqS a.1 nm = true then 122 :: fmtV ((i : Int) + 1) else nm
def outF (acts : List D_Activity) (i : Nat) (nm : List UInt8) : List UInt8 := acts.foldl (inF i) nm
def moreName (p : D_Project) : List UInt8 := foldN (outF p.2.1) p.2.1.length 0 [122, 48]
/-- a project with one more activity -/
def growV (p : D_Project) (nm : List UInt8) : D_Project :=
  (p.1, (p.2.1 ++ [((nm, (0, ([((1, (List.replicate p.2.2.2.1.length 0, (List.replicate p.2.2.2.2.1.length 0, ()))) : D_Mode)], ()))) : D_Activity)], p.2.2))
theorem inF_step1 (p : D_Project) (z : D_Project) (i j : Nat) (s : List UInt8) (hn : p.2.1.length ≤ 1048576) (hj : j < p.2.1.length) (hi : i < p.2.1.length) (X : List UInt8) (hX : X.length ≤ 7)
   (hF' : spec_FormatInt (addZ .i64 (i : Int) 1, ()) () = some (X, ())) (ha : addI ([122] : List UInt8) X = some (122 :: X)) (h : eqS p.2.1[j].1 s = true) :
   spec_l34More_L0 ((j : Int), ((p.2.1.length : Int), (p.2.1, ((i : Int), (s, (p, (p, (z, ())))))))) = some (Out.norm (((j + 1 : Nat) : Int), ((p.2.1.length : Int), (p.2.1, ((i : Int), (122 :: X, (p, (p, (z, ()))))))))) := by
  have hj1 := idxN hj (Nat.le_refl _) (show p.2.1.length ≤ 1099511627776 by omega)
  unfold spec_l34More_L0
  simp only [lt_yes hj, if_true, getI_lt hj, some_bind', h, hF', ha, hj1]
theorem inF_step2 (p : D_Project) (z : D_Project) (i j : Nat) (s : List UInt8) (hn : p.2.1.length ≤ 1048576) (hj : j < p.2.1.length) (hi : i < p.2.1.length) (X : List UInt8) (hX : X.length ≤ 7)
   (hF' : spec_FormatInt (addZ .i64 (i : Int) 1, ()) () = some (X, ())) (h : eqS p.2.1[j].1 s = true) :
   spec_l34More_L0 ((j : Int), ((p.2.1.length : Int), (p.2.1, ((i : Int), (s, (p, (p, (z, ())))))))) = some (Out.norm (((j + 1 : Nat) : Int), ((p.2.1.length : Int), (p.2.1, ((i : Int), (122 :: X, (p, (p, (z, ()))))))))) :=
  inF_step1 p z i j s hn hj hi X hX hF' (by rw [addI_ok (by rw [room_eq]; simp only [List.length_singleton]; omega), List.singleton_append]) h
theorem inF_step3 (p : D_Project) (z : D_Project) (i j : Nat) (s : List UInt8) (hn : p.2.1.length ≤ 1048576) (hj : j < p.2.1.length) (hi : i < p.2.1.length) (h : eqS p.2.1[j].1 s = false) :
   spec_l34More_L0 ((j : Int), ((p.2.1.length : Int), (p.2.1, ((i : Int), (s, (p, (p, (z, ())))))))) = some (Out.norm (((j + 1 : Nat) : Int), ((p.2.1.length : Int), (p.2.1, ((i : Int), (s, (p, (p, (z, ()))))))))) := by
  have hj1 := idxN hj (Nat.le_refl _) (show p.2.1.length ≤ 1099511627776 by omega)
  unfold spec_l34More_L0
  simp only [lt_yes hj, if_true, getI_lt hj, some_bind', h, Bool.false_eq_true, if_false, hj1]
theorem inF_yes {i : Nat} {s : List UInt8} {a : D_Activity} (h : eqS a.1 s = true) : inF i s a = 122 :: fmtV ((i : Int) + 1) := by
  unfold inF
  rw [if_pos h]
theorem inF_no {i : Nat} {s : List UInt8} {a : D_Activity} (h : eqS a.1 s = false) : inF i s a = s := by
  unfold inF
  rw [if_neg (by rw [h]; exact Bool.false_ne_true)]
theorem inF_step (p : D_Project) (z : D_Project) (i j : Nat) (s : List UInt8) (hn : p.2.1.length ≤ 1048576) (hj : j < p.2.1.length) (hi : i < p.2.1.length) :
   spec_l34More_L0 ((j : Int), ((p.2.1.length : Int), (p.2.1, ((i : Int), (s, (p, (p, (z, ())))))))) = some (Out.norm (((j + 1 : Nat) : Int), ((p.2.1.length : Int), (p.2.1, ((i : Int), (inF i s p.2.1[j], (p, (p, (z, ()))))))))) := by
  rcases tf (eqS p.2.1[j].1 s) with h | h
  · rw [inF_no h]
    exact inF_step3 p z i j s hn hj hi h
  · rw [inF_yes h]
    have hF := FormatInt_spec ((i : Int) + 1) ()
    have hX := fmtV_len ((i : Int) + 1)
    have hz : addZ .i64 (i : Int) 1 = (i : Int) + 1 := addZ64 (by omega) (by omega)
    generalize fmtV ((i : Int) + 1) = X at hF hX ⊢
    rw [← hz] at hF
    exact inF_step2 p z i j s hn hj hi X hX hF h
theorem More_spec (p : D_Project) (u : Unit) (hp : Sm_Project 1048576 p) : spec_l34More (p, u) () = some (growV p (moreName p), ()) := by
  have hn : p.2.1.length ≤ 1048576 := hp.2.1.1
  have l0 := fun (i : Nat) (hi : i < p.2.1.length) (nm : List UInt8) (A : Type) => (fold_list (A := A) (F := spec_l34More_L0) (fun j (s : List UInt8) => ((j : Int), (p.2.1.length : Int), p.2.1, (i : Int), s, p, p, ((((0 : Int), ([], ([], ([], ([], ()))))) : D_Project)), ())) p.2.1 (fun _ _ => True) (inF i)
    (fun s => Sum.inl (false, (p.2.1.length : Int), (p.2.1.length : Int), p.2.1, (i : Int), s, p, p, ((((0 : Int), ([], ([], ([], ([], ()))))) : D_Project)), ())) (by omega)
    (fun j s hj _ => ⟨inF_step p _ i j s hn hj hi, trivial⟩)
    (fun s _ => by
      unfold spec_l34More_L0
      simp only [lt_no, Bool.false_eq_true, if_false])
    (a := nm) (s := (0, (p.2.1.length : Int), p.2.1, (i : Int), nm, p, p, ((((0 : Int), ([], ([], ([], ([], ()))))) : D_Project)), ())) rfl trivial).1
  have l1 := fun A : Type => (fold_loop (A := A) (F := spec_l34More_L1) (fun i (s : List UInt8) => ((i : Int), s, p, p, ((((0 : Int), ([], ([], ([], ([], ()))))) : D_Project)), ())) p.2.1.length (fun _ _ => True) (outF p.2.1)
    (fun s => Sum.inl (false, (p.2.1.length : Int), s, p, p, ((((0 : Int), ([], ([], ([], ([], ()))))) : D_Project)), ())) (by omega)
    (fun i s hi _ => by
      refine ⟨?_, trivial⟩
      unfold spec_l34More_L1 outF
      simp only [lenI_eq, lt_yes hi, if_true, l0 i hi, some_bind', idxN hi (Nat.le_refl _) (show p.2.1.length ≤ 1099511627776 by omega)])
    (fun s _ => by
      unfold spec_l34More_L1
      simp only [lenI_eq, lt_no, Bool.false_eq_true, if_false])
    (a := [122, 48]) trivial).1
  have e0 : (((0 : Nat) : Int), ([122, 48] : List UInt8), p, p, ((((0 : Int), ([], ([], ([], ([], ()))))) : D_Project)), ()) = ((0 : Int), ([122, 48] : List UInt8), p, p, ((((0 : Int), ([], ([], ([], ([], ()))))) : D_Project)), ()) := rfl
  rw [e0] at l1
  have z1 : zerosI (p.2.2.2.1.length : Int) (0 : Int) = some (List.replicate p.2.2.2.1.length 0) := zerosI_nat (by have := hp.2.2.2.1.1; rw [room_eq]; omega)
  have z2 : zerosI (p.2.2.2.2.1.length : Int) (0 : Int) = some (List.replicate p.2.2.2.2.1.length 0) := zerosI_nat (by have := hp.2.2.2.2.1.1; rw [room_eq]; omega)
  have ad : ∀ x : D_Activity, addI p.2.1 [x] = some (p.2.1 ++ [x]) := fun x => addI_ok (by rw [room_eq]; simp only [List.length_singleton]; omega)
  unfold spec_l34More growV moreName
  simp only [l05Copy_eq _ _ hp, some_bind', l1, lenI_eq, eqZ_self, if_true, z1, z2, ad]
/-- the name is free -/
def znm (k : Nat) : List UInt8 := 122 :: Lib.decDigits k
theorem znm_inj {i j : Nat} (h : znm i = znm j) : i = j := dec_inj _ _ (List.cons.inj h).2
theorem inF_at (i k : Nat) (a : D_Activity) (hi : i ≤ 99999) : inF i (znm k) a = if a.1 = znm k then znm (i + 1) else znm k := by
  unfold inF
  have e : fmtV ((i : Int) + 1) = Lib.decDigits (i + 1) := fmt_nat (k := i + 1) (by omega)
  rw [e]
  by_cases h : a.1 = znm k
  · rw [if_pos h, if_pos (eqS_iff.2 h)]
    rfl
  · rw [if_neg h, if_neg fun hh => h (eqS_iff.1 hh)]
theorem outF_keep (i : Nat) (nm : List UInt8) : ∀ acts : List D_Activity, (∀ a ∈ acts, a.1 ≠ nm) → outF acts i nm = nm
  | [], _ => rfl
  | a :: acts, h => by
    have h1 : inF i nm a = nm := by
      unfold inF
      rw [if_neg fun hh => h a (by simp) (eqS_iff.1 hh)]
    show outF acts i (inF i nm a) = nm
    rw [h1]
    exact outF_keep i nm acts fun b hb => h b (by simp [hb])
theorem outF_next (i : Nat) (hi : i ≤ 99999) : ∀ acts : List D_Activity, outF acts i (znm (i + 1)) = znm (i + 1)
  | [] => rfl
  | a :: acts => by
    show outF acts i (inF i (znm (i + 1)) a) = _
    have : inF i (znm (i + 1)) a = znm (i + 1) := by
      rw [inF_at i (i + 1) a hi]
      split <;> rfl
    rw [this]
    exact outF_next i hi acts
theorem outF_hit (i : Nat) (hi : i ≤ 99999) : ∀ acts : List D_Activity, (∃ a ∈ acts, a.1 = znm i) → outF acts i (znm i) = znm (i + 1)
  | [], h => by obtain ⟨a, ha, -⟩ := h; cases ha
  | a :: acts, h => by
    show outF acts i (inF i (znm i) a) = _
    rw [inF_at i i a hi]
    by_cases h1 : a.1 = znm i
    · rw [if_pos h1]
      exact outF_next i hi acts
    · rw [if_neg h1]
      refine outF_hit i hi acts ?_
      obtain ⟨b, hb, e⟩ := h
      rcases List.mem_cons.1 hb with rfl | hb
      · exact absurd e h1
      · exact ⟨b, hb, e⟩
theorem more_inv (p : D_Project) (hn : p.2.1.length ≤ 1000) : ∀ m, m ≤ p.2.1.length → ∃ k, k ≤ m ∧ foldN (outF p.2.1) m 0 [122, 48] = znm k ∧ (takenB p (znm k) = false ∨ (k = m ∧ ∀ j, j < m → takenB p (znm j) = true))
  | 0, _ => ⟨0, Nat.le_refl _, by rw [show znm 0 = [122, 48] by unfold znm; rw [dec_small (by omega)]; rfl]; rfl, .inr ⟨rfl, fun j hj => absurd hj (by omega)⟩⟩
  | m + 1, hm => by
    obtain ⟨k, hk, e, hc⟩ := more_inv p hn m (by omega)
    have es : foldN (outF p.2.1) (m + 1) 0 [122, 48] = outF p.2.1 m (foldN (outF p.2.1) m 0 [122, 48]) := by
      have key : ∀ (q i : Nat) (x : List UInt8), foldN (outF p.2.1) (q + 1) i x = outF p.2.1 (i + q) (foldN (outF p.2.1) q i x) := by
        intro q
        induction q with
        | zero => intro i x; rfl
        | succ q ih =>
          intro i x
          show foldN (outF p.2.1) (q + 1) (i + 1) (outF p.2.1 i x) = _
          rw [ih, show i + 1 + q = i + (q + 1) by omega]
          rfl
      rw [key m 0, Nat.zero_add]
    rw [es, e]
    have free_keep : takenB p (znm k) = false → outF p.2.1 m (znm k) = znm k := fun h => outF_keep m _ _ fun a ha hh => by
      have : takenB p (znm k) = true := List.any_eq_true.2 ⟨a, ha, eqS_iff.2 hh⟩
      rw [h] at this
      cases this
    rcases tf (takenB p (znm k)) with ht | ht
    · exact ⟨k, by omega, free_keep ht, .inl ht⟩
    · rcases hc with hc | ⟨rfl, hall⟩
      · rw [ht] at hc; cases hc
      · refine ⟨k + 1, Nat.le_refl _, ?_, ?_⟩
        · refine outF_hit k (by omega) _ ?_
          obtain ⟨a, ha, h⟩ := List.any_eq_true.1 ht
          exact ⟨a, ha, eqS_iff.1 h⟩
        · refine .inr ⟨rfl, fun j hj => ?_⟩
          rcases Nat.lt_or_ge j k with h2 | h2
          · exact hall j h2
          · have : j = k := by omega
            subst this
            exact ht
theorem more_free (p : D_Project) (hn : p.2.1.length ≤ 1000) : ∃ k, k ≤ p.2.1.length ∧ moreName p = znm k ∧ takenB p (znm k) = false := by
  obtain ⟨k, hk, e, hc⟩ := more_inv p hn p.2.1.length (Nat.le_refl _)
  refine ⟨k, hk, e, ?_⟩
  rcases hc with hc | ⟨rfl, hall⟩
  · exact hc
  · obtain ⟨j, hj, hf⟩ := some_free_few p rfl hn 122
    rcases Nat.lt_or_ge j p.2.1.length with h2 | h2
    · have := hall j h2
      unfold znm at this
      rw [hf] at this
      cases this
    · have : j = p.2.1.length := by omega
      subst this
      exact hf
end Go.Proofs.YtholdafohofboaaGreatDoor
