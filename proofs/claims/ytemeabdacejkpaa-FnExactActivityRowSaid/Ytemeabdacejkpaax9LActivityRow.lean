/-
  Plain law: for all data within the bounds of the machine the law FnExactActivityRow returns true.
-/
import Derived.Test.Ytemeabdacejkpaax9LForm
namespace Go.Proofs.Ytemeabdacejkpaa
open Go.Abs
set_option linter.unusedVariables false
set_option linter.unusedSimpArgs false

def rowF (t e : Int) (i : Nat) (out : List UInt8) : List UInt8 := out ++ [if (leZ t i && ltZ i e) = true then 35 else 46]
def rowV (p : D_Project) (s : D_Schedule) (a : Int) : List UInt8 := match getI s.1 a, spec_l09End (p, s, a, ()) () with
  | some t, some e => foldN (rowF t e.1) p.1.toNat 0 []
  | _, _ => []
def rowB' (p : D_Project) (s : D_Schedule) (a : Int) : List UInt8 := if (formB p s && inB a 0 (subZ .i64 (lenI p.2.1) 1)) = true then rowV p s a else []
theorem ActivityRow_spec (p : D_Project) (s : D_Schedule) (a : Int) (u : Unit) (h : Sm_Project 1099511627776 p) : spec_ActivityRow (p, s, a, u) () = some (rowB' p s a, ()) := by
  unfold spec_ActivityRow rowB'
  simp only [ScheduleForm_spec _ _ _ h, l01In_eq, some_bind']
  cases h1 : formB p s with
  | false => simp [notB]
  | true =>
  cases h2 : inB a 0 (subZ .i64 (lenI p.2.1) 1) with
  | false => simp [notB, l01In_eq, h2]
  | true =>
  obtain ⟨i, rfl, hi⟩ := inB_place h.2.1.1 h2
  obtain ⟨t, m, md, g1, g2, g3, -, -, -, -, -⟩ := form_at h h1 hi
  have ge := fun u => end_eq (p := p) (s := s) u hi g1 g2 g3
  generalize addZ .i64 t md.1 = e at ge
  obtain ⟨d1, d2⟩ := proj_dead (proj_of_form h1)
  obtain ⟨n, hn⟩ : ∃ n : Nat, p.1 = (n : Int) := ⟨p.1.toNat, by omega⟩
  have hn6 : n ≤ 60 := by omega
  have l0 := fun A : Type => (fold_loop (A := A) (B := (Bool × Int × D_Project × D_Schedule × Int × List UInt8 × Unit) ⊕ Empty) (C := List UInt8 × Unit) (F := spec_ActivityRow_L0) (fun j out => ((j : Int), p, s, (i : Int), out, ())) n (fun j out => out.length = j) (rowF t e) (fun out => Sum.inl (false, (n : Int), p, s, (i : Int), out, ())) (by omega)
    (fun j out hj ho => by
      have hl : ltZ (j : Int) p.1 = true := by rw [hn]; exact lt_yes hj
      have ha : ∀ b : UInt8, addI out [b] = some (out ++ [b]) := fun b => addI_ok (by rw [room_eq]; simp; omega)
      refine ⟨?_, by unfold rowF; simp [ho]⟩
      unfold spec_ActivityRow_L0 rowF
      simp only [hl, if_true, g1, some_bind', ge]
      cases k1 : leZ t (j : Int) <;> cases k2 : ltZ (j : Int) e <;> simp [-Int.natCast_add, ha, ge, k2, idxN hj (Nat.le_refl _) (show n ≤ 1099511627776 by omega)])
    (fun out ho => by
      have hl : ltZ (n : Int) p.1 = false := by rw [hn]; exact lt_no n
      unfold spec_ActivityRow_L0
      simp only [hl, Bool.false_eq_true, if_false])
    (a := []) rfl).1
  have e0 : (((0 : Nat) : Int), p, s, (i : Int), ([] : List UInt8), ()) = ((0 : Int), p, s, (i : Int), ([] : List UInt8), ()) := rfl
  rw [e0] at l0
  simp only [notB_true, Bool.false_eq_true, if_false, h2, some_bind', l01In_eq, l0]
  simp only [rowV, g1, ge, hn, Int.toNat_natCast, Bool.and_self, if_true]
theorem ActivityRow_impl (p : D_Project) (s : D_Schedule) (a : Int) (u : Unit) (h : Sm_Project 1099511627776 p) : impl_ActivityRow (p, s, a, u) () = some (rowB' p s a, ()) := by
  unfold impl_ActivityRow rowB'
  simp only [ScheduleForm_impl _ _ _ h, hasActivity_eq, some_bind']
  cases h1 : formB p s with
  | false => simp [notB]
  | true =>
  cases h2 : inB a 0 (subZ .i64 (lenI p.2.1) 1) with
  | false => simp [notB, hasActivity_eq, h2]
  | true =>
  obtain ⟨i, rfl, hi⟩ := inB_place h.2.1.1 h2
  obtain ⟨t, m, md, g1, g2, g3, -, -, -, -, -⟩ := form_at h h1 hi
  have ge := fun u => end_eq (p := p) (s := s) u hi g1 g2 g3
  generalize addZ .i64 t md.1 = e at ge
  obtain ⟨d1, d2⟩ := proj_dead (proj_of_form h1)
  obtain ⟨n, hn⟩ : ∃ n : Nat, p.1 = (n : Int) := ⟨p.1.toNat, by omega⟩
  have hn6 : n ≤ 60 := by omega
  have l0 := fun A : Type => (fold_loop (A := A) (B := (Bool × Int × Int × D_Project × D_Schedule × Int × List UInt8 × Unit) ⊕ Empty) (C := List UInt8 × Unit) (F := impl_ActivityRow_L0) (fun j out => ((j : Int), p.1, p, s, (i : Int), out, ())) n (fun j out => out.length = j) (rowF t e) (fun out => Sum.inl (false, (n : Int), p.1, p, s, (i : Int), out, ())) (by omega)
    (fun j out hj ho => by
      have hl : ltZ (j : Int) p.1 = true := by rw [hn]; exact lt_yes hj
      have ha : ∀ b : UInt8, addI out [b] = some (out ++ [b]) := fun b => addI_ok (by rw [room_eq]; simp; omega)
      refine ⟨?_, by unfold rowF; simp [ho]⟩
      unfold impl_ActivityRow_L0 rowF
      simp only [hl, if_true, g1, some_bind', end_impl, ge]
      cases k1 : leZ t (j : Int) <;> cases k2 : ltZ (j : Int) e <;> simp [-Int.natCast_add, ha, ge, end_impl, k2, idxN hj (Nat.le_refl _) (show n ≤ 1099511627776 by omega)])
    (fun out ho => by
      have hl : ltZ (n : Int) p.1 = false := by rw [hn]; exact lt_no n
      unfold impl_ActivityRow_L0
      simp only [hl, Bool.false_eq_true, if_false])
    (a := []) rfl).1
  have e0 : (((0 : Nat) : Int), p.1, p, s, (i : Int), ([] : List UInt8), ()) = ((0 : Int), p.1, p, s, (i : Int), ([] : List UInt8), ()) := rfl
  rw [e0] at l0
  simp only [notB_true, Bool.false_eq_true, if_false, h2, some_bind', hasActivity_eq, l0]
  simp only [rowV, g1, ge, hn, Int.toNat_natCast, Bool.and_self, if_true]
theorem plain_FnExactActivityRow (p : D_Project) (s : D_Schedule) (a : Int) (u : Unit) (hp : Sm_Project maxLen p) (hs : Sm_Schedule maxLen s) : laws_FnExactActivityRow (p, s, a, u) () = some (true, ()) := by
  unfold laws_FnExactActivityRow
  obtain ⟨r1, e1, c1⟩ := sz_Project p 1048576 () (by omega) (by omega) hp
  simp only [e1, some_bind']
  rcases c1 with c1 | ⟨c1, d1, sp⟩
  · simp only [neg_yes c1, if_true]
  simp only [neg_no c1, Bool.false_eq_true, if_false]
  obtain ⟨r2, e2, c2⟩ := sz_Schedule s r1 () c1 (by omega) hs
  simp only [e2, some_bind']
  rcases c2 with c2 | ⟨c2, d2, ss⟩
  · simp only [neg_yes c2, if_true]
  have sp' := smm_Project (B' := 1099511627776) (by omega) p sp
  have ss' := smm_Schedule (B' := 1099511627776) (by omega) s ss
  simp only [neg_no c2, Bool.false_eq_true, if_false, to_Project _ _ sp, to_Schedule _ _ ss, some_bind', ActivityRow_spec _ _ _ _ sp', ActivityRow_impl _ _ _ _ sp', eqS_self, notB_true, eq_Project _ _ sp', eq_Schedule _ _ ss']
theorem L_FnExactActivityRow (x : Ty.dens H_laws_FnExactActivityRow.ps) (h : Ty.fits H_laws_FnExactActivityRow.ps x) : laws_FnExactActivityRow x () = some (true, ()) := by
  obtain ⟨p, s, a, u⟩ := x
  exact plain_FnExactActivityRow p s a u (smf_Project _ h.1) (smf_Schedule _ h.2.1)
end Go.Proofs.Ytemeabdacejkpaa
