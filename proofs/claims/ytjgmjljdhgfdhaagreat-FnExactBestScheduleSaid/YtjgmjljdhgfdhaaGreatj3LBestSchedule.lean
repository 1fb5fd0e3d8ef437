/-
  Plain law: for all data within the bounds of the machine the law FnExactBestSchedule returns true.
-/
import Derived.Test.YtjgmjljdhgfdhaaGreatj3LSched
import Derived.Test.YtjgmjljdhgfdhaaGreatj3LSpan
import Derived.Test.YtjgmjljdhgfdhaaGreatj3V
namespace Go.Proofs.YtjgmjljdhgfdhaaGreat
open Go.Abs
set_option linter.unusedVariables false
set_option linter.unusedSimpArgs false

def spanE (p : D_Project) (s : D_Schedule) : Int := if formB p s = true then spanV p s else -1
def bstS (g : D_Schedule → Int) (b s : D_Schedule) : D_Schedule := if ltZ (g s) (g b) = true then s else b
def bstV (g : D_Schedule → Int) : List D_Schedule → D_Schedule × Bool × Unit
  | [] => (([], [], ()), false, ())
  | s :: l => (l.foldl (bstS g) s, true, ())
theorem bstS_self (g : D_Schedule → Int) (s : D_Schedule) : bstS g s s = s := by unfold bstS; split <;> rfl
theorem bestL_go (g : D_Schedule → Int) : ∀ (l : List D_Schedule) (b : D_Schedule), bestL (fun s => some (g s)) l b true = some (l.foldl (bstS g) b, true)
  | [], b => rfl
  | s :: l, b => by
    simp only [bestL, List.foldl_cons, Option.bind_some]
    by_cases h : g s < g b
    · rw [if_pos h, bestL_go g l s]
      have : bstS g b s = s := by unfold bstS; rw [if_pos (by rw [ltZ_iff]; exact h)]
      rw [this]
    · rw [if_neg h, bestL_go g l b]
      have : bstS g b s = b := by unfold bstS; rw [if_neg (by rw [ltZ_iff]; exact h)]
      rw [this]
theorem bst_mem (g : D_Schedule → Int) : ∀ (l : List D_Schedule) (b : D_Schedule), l.foldl (bstS g) b = b ∨ l.foldl (bstS g) b ∈ l
  | [], b => .inl rfl
  | s :: l, b => by
    simp only [List.foldl_cons]
    rcases bst_mem g l (bstS g b s) with h | h
    · rw [h]
      unfold bstS
      split
      · exact .inr (List.mem_cons_self ..)
      · exact .inl rfl
    · exact .inr (List.mem_cons_of_mem _ h)
theorem Best_impl (p : D_Project) (m : Int) (u : Unit) (w : List D_Schedule) (hp : Sm_Project 1099511627776 p) (f2 : ∀ u, impl_AllSchedules (p, m, u) () = some (w, ())) : impl_BestSchedule (p, m, u) () = some (bstV (spanE p) w, ()) := by
  unfold impl_BestSchedule bestF
  have hg : (fun s : Sch => (impl_Makespan (p, s, ()) ()).map (·.1)) = fun s => some (spanE p s) := by
    funext s
    rw [Makespan_impl p s () hp]
    rfl
  show ((impl_AllSchedules (p, m, u) ()).bind fun ys => (bestL (fun s : Sch => (impl_Makespan (p, s, ()) ()).map (·.1)) ys.1 ([], [], ()) false).map fun r => ((r.1, r.2, ()), ())) = _
  rw [f2, hg]
  cases w with
  | nil => rfl
  | cons s l =>
    show (bestL (fun s => some (spanE p s)) l s true).map _ = _
    rw [bestL_go]
    rfl
theorem Best_spec (p : D_Project) (m : Int) (u : Unit) (w : List D_Schedule) (hw : w.length ≤ 60000) (hp : Sm_Project 1099511627776 p) (f1 : ∀ u, spec_AllSchedules (p, m, u) () = some (w, ())) : spec_BestSchedule (p, m, u) () = some (bstV (spanE p) w, ()) := by
  unfold spec_BestSchedule
  simp only [f1, some_bind']
  cases w with
  | nil => rfl
  | cons s l =>
    have h0 : eqZ (lenI (s :: l)) 0 = false := by
      rw [eqZ_dec, lenI_eq]
      simp only [decide_eq_false_iff_not, List.length_cons]
      omega
    have g0 : getI (s :: l) 0 = some s := rfl
    have lp := fun A : Type => (fold_list (A := A) (F := spec_BestSchedule_L0) (fun i b => ((i : Int), ((s :: l).length : Int), (s :: l), p, b, ([], [], ()), ())) (s :: l) (fun _ _ => True) (bstS (spanE p)) (fun b => Sum.inl (false, ((s :: l).length : Int), ((s :: l).length : Int), (s :: l), p, b, ([], [], ()), ())) (by omega)
      (fun i b hi _ => by
        refine ⟨?_, trivial⟩
        unfold spec_BestSchedule_L0
        simp only [lt_yes hi, if_true, getI_lt hi, some_bind', Makespan_spec _ _ _ hp, idxN hi (show (s :: l).length ≤ 1099511627776 by omega) (Nat.le_refl _)]
        rcases tf (ltZ (spanE p (s :: l)[i]) (spanE p b)) with h | h
        · have e : bstS (spanE p) b (s :: l)[i] = b := by unfold bstS; rw [h]; rfl
          have h' := h
          unfold spanE at h'
          simp only [h', e, Bool.false_eq_true, if_false, some_bind', idxN hi (show (s :: l).length ≤ 1099511627776 by omega) (Nat.le_refl _)]
        · have e : bstS (spanE p) b (s :: l)[i] = (s :: l)[i] := by unfold bstS; rw [h]; rfl
          have h' := h
          unfold spanE at h'
          simp only [h', e, if_true, some_bind', idxN hi (show (s :: l).length ≤ 1099511627776 by omega) (Nat.le_refl _)])
      (fun b _ => by
        unfold spec_BestSchedule_L0
        simp only [lt_no, Bool.false_eq_true, if_false])
      (a := s) (s := (0, ((s :: l).length : Int), (s :: l), p, s, ([], [], ()), ())) rfl trivial).1
    simp only [h0, g0, Bool.false_eq_true, if_false, some_bind', lenI_eq, lp]
    simp only [List.foldl_cons, bstS_self]
    rfl
theorem plain_FnExactBestSchedule (p : D_Project) (m : Int) (u : Unit) (hp : Sm_Project maxLen p) : laws_FnExactBestSchedule (p, m, u) () = some (true, ()) := by
  unfold laws_FnExactBestSchedule
  obtain ⟨r1, e1, c1⟩ := sz_Project p 1048576 () (by omega) (by omega) hp
  simp only [e1, some_bind']
  rcases c1 with c1 | ⟨c1, d1, sp⟩
  · simp only [neg_yes c1, if_true]
  have sp' := smm_Project (B' := 1099511627776) (by omega) p sp
  obtain ⟨w, hw, hws, f1, f2⟩ := AllSchedules_both p m sp'
  have eb := fun u => Best_spec p m u w hw sp' f1
  have ei := fun u => Best_impl p m u w sp' f2
  have sm : ∀ (B : Nat), 6 ≤ B → Sm_Schedule B (bstV (spanE p) w).1 := fun B hB => by
    have h0 : Sm_Schedule B ([], [], ()) := ⟨⟨by simp, fun _ _ => trivial⟩, ⟨by simp, fun _ _ => trivial⟩, trivial⟩
    have h1 : ∀ y ∈ w, Sm_Schedule B y := fun y hy => ⟨⟨by have := (hws y hy).1; omega, fun _ _ => trivial⟩, ⟨by have := (hws y hy).2; omega, fun _ _ => trivial⟩, trivial⟩
    cases w with
    | nil => exact h0
    | cons s l =>
      rcases bst_mem (spanE p) l s with h | h
      · show Sm_Schedule B (l.foldl (bstS (spanE p)) s)
        rw [h]
        exact h1 s (List.mem_cons_self ..)
      · exact h1 _ (List.mem_cons_of_mem _ h)
  generalize bstV (spanE p) w = v at *
  obtain ⟨v0, v1, vu⟩ := v
  have sw : Sm_Schedule 1048576 v0 := sm _ (by omega)
  have sw' : Sm_Schedule 1099511627776 v0 := sm _ (by omega)
  have hb := nb_Project p sp
  obtain ⟨p', mk⟩ := mk_Project p 1 sp' (by omega) (by omega)
  have hbw := nb_Schedule _ sw
  obtain ⟨w', mw, qw⟩ := mh_Schedule v0 1 sw' (by omega) (by omega)
  have hk : (0 : Int) ≤ 1 + ((n_Project p : Nat) : Int) := by omega
  have hm : (0 : Int) ≤ 1 + ((n_Schedule v0 : Nat) : Int) := by omega
  simp only [neg_no c1, Bool.false_eq_true, if_false, to_Project _ _ sp, some_bind', eb, ei, eq_Schedule _ _ sw', eq_Project _ _ sp', eqB_self, eqZ_self, notB_true, mk, mw, qw, neg_no hk, neg_no hm]
theorem L_FnExactBestSchedule (x : Ty.dens H_laws_FnExactBestSchedule.ps) (h : Ty.fits H_laws_FnExactBestSchedule.ps x) : laws_FnExactBestSchedule x () = some (true, ()) := by
  obtain ⟨p, m, u⟩ := x
  exact plain_FnExactBestSchedule p m u (smf_Project _ h.1)
end Go.Proofs.YtjgmjljdhgfdhaaGreat
