/-
  Plain law: for all data within the bounds of the machine the law FnExactDomainRow returns true.
-/
import Derived.Test.YtdjajoebpdnhnaaGreatz3LDom
import Derived.Test.YtdjajoebpdnhnaaGreatz3LDur
namespace Go.Proofs.YtdjajoebpdnhnaaGreat
open Go.Abs
set_option linter.unusedVariables false
set_option linter.unusedSimpArgs false

/-- a place in the row -/
def rowC (x y lo last : Int) (t : Nat) (out : List UInt8) : List UInt8 := out ++ (if (leZ x (t : Int) && ltZ (t : Int) y) = true then [35] else if (leZ lo (t : Int) && ltZ (t : Int) last) = true then [45] else [46])
def drowV (p : D_Project) (x y lo last : Int) : List UInt8 := foldN (rowC x y lo last) p.1.toNat 0 []
theorem add_byte (out : List UInt8) (x : List UInt8) (hx : x.length = 1) (h : out.length ≤ 1000000) : addI out x = some (out ++ x) := addI_ok (by rw [room_eq]; omega)
theorem DomainRow_both (p : D_Project) (b : D_Domain) (a : Int) (hp : Sm_Project 1099511627776 p) (hb : Sm_Domain 1099511627776 b) : ∃ v, (∀ u, spec_DomainRow (p, b, a, u) () = some (v, ())) ∧ ∀ u, impl_DomainRow (p, b, a, u) () = some (v, ()) := by
  rcases tf (useB p b) with h | h
  · refine ⟨[], fun u => ?_, fun u => ?_⟩
    · unfold spec_DomainRow
      simp [l14Ok_eq _ _ _ hp hb, h, notB]
    · unfold impl_DomainRow
      simp [isUsable_eq _ _ _ hp hb, h, notB]
  rcases tf (inB a 0 (subZ .i64 (lenI p.2.1) 1)) with h1 | h1
  · refine ⟨[], fun u => ?_, fun u => ?_⟩
    · unfold spec_DomainRow
      simp [l14Ok_eq _ _ _ hp hb, l01In_eq, h, h1, notB]
    · unfold impl_DomainRow
      simp [isUsable_eq _ _ _ hp hb, hasActivity_eq, h, h1, notB]
  obtain ⟨i, rfl, hi⟩ := inB_place hp.2.1.1 h1
  have hd : domB p b = true := by
    unfold useB at h
    rw [Bool.and_eq_true] at h
    exact h.1
  obtain ⟨x, y, ms, g1, g2, g3, gm, -⟩ := dom_at hd hi
  obtain ⟨-, hmc⟩ := proj_mode_count (proj_of_dom hd)
  have hms : ms.length ≤ 1099511627776 := (hb.2.2.1.2 _ gm).1
  have hac : p.2.1[i].2.2.1.length ≤ 1000000 := by have := (hmc i hi).2; omega
  obtain ⟨d1, d2⟩ := proj_dead (proj_of_dom hd)
  obtain ⟨n, hn⟩ : ∃ n : Nat, p.1 = (n : Int) := ⟨p.1.toNat, by omega⟩
  have hn60 : n ≤ 60 := by omega
  have mn := fun u => MinDuration_spec p.2.1[i] ms u hac hms
  have mni := fun u => MinDuration_impl p.2.1[i] ms u hac hms
  have mx := fun u => MaxDuration_spec p.2.1[i] ms u hac hms
  have mxi := fun u => MaxDuration_impl p.2.1[i] ms u hac hms
  generalize durV (fun x n => ltZ x n) p.2.1[i] ms = dmin at mn mni
  generalize durV (fun x n => ltZ n x) p.2.1[i] ms = dmax at mx mxi
  have loopS : ∀ (core : Bool) (f t : Int), (∀ k : Nat, (if core = true then leZ f (k : Int) && ltZ (k : Int) t else false) = (leZ y (k : Int) && ltZ (k : Int) (addZ .i64 x dmin))) →
      ∀ A : Type, loopN (A := A) big spec_DomainRow_L0 (0, p, core, f, t, b, (i : Int), addZ .i64 y dmax, [], ()) = some (.exit (Sum.inl (false, (n : Int), p, core, f, t, b, (i : Int), addZ .i64 y dmax, drowV p y (addZ .i64 x dmin) x (addZ .i64 y dmax), ()))) := by
    intro core f t hc A
    have l0 := (fold_loop (A := A) (F := spec_DomainRow_L0) (fun k out => ((k : Int), p, core, f, t, b, (i : Int), addZ .i64 y dmax, out, ())) n (fun k out => out.length = k) (rowC y (addZ .i64 x dmin) x (addZ .i64 y dmax)) (fun out => Sum.inl (false, (n : Int), p, core, f, t, b, (i : Int), addZ .i64 y dmax, out, ())) (by omega)
      (fun k out hk ho => by
        have hl : ltZ (k : Int) p.1 = true := by rw [hn]; exact lt_yes hk
        have a1 := fun c => add_byte out [c] rfl (by omega)
        have hc' := hc k
        refine ⟨?_, ?_⟩
        · unfold spec_DomainRow_L0 rowC
          rw [← hc']
          simp only [hl, if_true]
          rcases tf core with q0 | q0 <;> rcases tf (leZ f (k : Int)) with q1 | q1 <;> rcases tf (ltZ (k : Int) t) with q2 | q2 <;> rcases tf (leZ x (k : Int)) with q3 | q3 <;> rcases tf (ltZ (k : Int) (addZ .i64 y dmax)) with q4 | q4 <;>
            simp [-Int.natCast_add, q0, q1, q2, q3, q4, a1, g1, idxN hk (Nat.le_refl _) (show n ≤ 1099511627776 by omega)]
        · unfold rowC
          rw [List.length_append, ho]
          split
          · rfl
          · split <;> rfl)
      (fun out ho => by
        have hl : ltZ (n : Int) p.1 = false := by rw [hn]; exact lt_no n
        unfold spec_DomainRow_L0
        simp only [hl, Bool.false_eq_true, if_false])
      (a := []) rfl).1
    unfold drowV
    rw [hn, Int.toNat_natCast]
    exact l0
  have loopI : ∀ A : Type, loopN (A := A) big impl_DomainRow_L0 (0, p.1, y, addZ .i64 x dmin, b, (i : Int), addZ .i64 y dmax, [], ()) = some (.exit (Sum.inl (false, (n : Int), p.1, y, addZ .i64 x dmin, b, (i : Int), addZ .i64 y dmax, drowV p y (addZ .i64 x dmin) x (addZ .i64 y dmax), ()))) := by
    intro A
    have l0 := (fold_loop (A := A) (F := impl_DomainRow_L0) (fun k out => ((k : Int), p.1, y, addZ .i64 x dmin, b, (i : Int), addZ .i64 y dmax, out, ())) n (fun k out => out.length = k) (rowC y (addZ .i64 x dmin) x (addZ .i64 y dmax)) (fun out => Sum.inl (false, (n : Int), p.1, y, addZ .i64 x dmin, b, (i : Int), addZ .i64 y dmax, out, ())) (by omega)
      (fun k out hk ho => by
        have hl : ltZ (k : Int) p.1 = true := by rw [hn]; exact lt_yes hk
        have a1 := fun c => add_byte out [c] rfl (by omega)
        refine ⟨?_, ?_⟩
        · unfold impl_DomainRow_L0 rowC
          simp only [hl, if_true]
          rcases tf (leZ y (k : Int)) with q1 | q1 <;> rcases tf (ltZ (k : Int) (addZ .i64 x dmin)) with q2 | q2 <;> rcases tf (leZ x (k : Int)) with q3 | q3 <;> rcases tf (ltZ (k : Int) (addZ .i64 y dmax)) with q4 | q4 <;>
            simp [-Int.natCast_add, q1, q2, q3, q4, a1, g1, idxN hk (Nat.le_refl _) (show n ≤ 1099511627776 by omega)]
        · unfold rowC
          rw [List.length_append, ho]
          split
          · rfl
          · split <;> rfl)
      (fun out ho => by
        have hl : ltZ (n : Int) p.1 = false := by rw [hn]; exact lt_no n
        unfold impl_DomainRow_L0
        simp only [hl, Bool.false_eq_true, if_false])
      (a := []) rfl).1
    unfold drowV
    rw [hn, Int.toNat_natCast] at *
    exact l0
  refine ⟨drowV p y (addZ .i64 x dmin) x (addZ .i64 y dmax), fun u => ?_, fun u => ?_⟩
  · unfold spec_DomainRow spec_CompulsoryPart spec_l14Short
    simp only [l14Ok_eq _ _ _ hp hb, h, l01In_eq, h1, notB_true, Bool.false_eq_true, if_false, some_bind', g1, g2, g3, getI_lt hi, mn, mx]
    rcases tf (leZ (addZ .i64 x dmin) y) with hq | hq
    · simp only [hq, Bool.false_eq_true, if_false, some_bind', loopS true y (addZ .i64 x dmin) (fun k => by simp)]
    · simp only [hq, if_true, some_bind', loopS false 0 0 (fun k => by
        rw [leZ_iff] at hq
        symm
        simp only [Bool.false_eq_true, if_false]
        rw [Bool.and_eq_false_iff]
        rcases tf (leZ y (k : Int)) with h1 | h1
        · exact .inl h1
        · right
          rw [leZ_iff] at h1
          rw [Bool.eq_false_iff, Ne, ltZ_iff]
          omega)]
  · unfold impl_DomainRow impl_Project_compulsory impl_Project_duration
    simp only [isUsable_eq _ _ _ hp hb, h, hasActivity_eq, h1, notB_true, Bool.false_eq_true, if_false, some_bind', g1, g2, g3, getI_lt hi, mni, mxi, loopI]
theorem plain_FnExactDomainRow (p : D_Project) (b : D_Domain) (a : Int) (u : Unit) (hp : Sm_Project maxLen p) (hb : Sm_Domain maxLen b) : laws_FnExactDomainRow (p, b, a, u) () = some (true, ()) := by
  unfold laws_FnExactDomainRow
  obtain ⟨r1, e1, c1⟩ := sz_Project p 1048576 () (by omega) (by omega) hp
  simp only [e1, some_bind']
  rcases c1 with c1 | ⟨c1, d1, sp⟩
  · simp only [neg_yes c1, if_true]
  simp only [neg_no c1, Bool.false_eq_true, if_false]
  obtain ⟨r2, e2, c2⟩ := sz_Domain b r1 () c1 (by omega) hb
  simp only [e2, some_bind']
  rcases c2 with c2 | ⟨c2, d2, ss⟩
  · simp only [neg_yes c2, if_true]
  have sp' := smm_Project (B' := 1099511627776) (by omega) p sp
  have ss' := smm_Domain (B' := 1099511627776) (by omega) b ss
  obtain ⟨v, f1, f2⟩ := DomainRow_both p b a sp' ss'
  simp only [neg_no c2, Bool.false_eq_true, if_false, to_Project _ _ sp, to_Domain _ _ ss, some_bind', f1, f2, eqS_self, notB_true, eq_Project _ _ sp', eq_Domain _ _ ss']
theorem L_FnExactDomainRow (x : Ty.dens H_laws_FnExactDomainRow.ps) (h : Ty.fits H_laws_FnExactDomainRow.ps x) : laws_FnExactDomainRow x () = some (true, ()) := by
  obtain ⟨p, b, a, u⟩ := x
  exact plain_FnExactDomainRow p b a u (smf_Project _ h.1) (smf_Domain _ h.2.1)
end Go.Proofs.YtdjajoebpdnhnaaGreat
