/-
  Plain law: for all data within the bounds of the machine the law FnExactWithDeadline returns true.
-/
import Derived.Test.Ytdjajoebpdnhnaay5LProj2
import Derived.Test.Ytdjajoebpdnhnaay5LCopy
import Derived.Test.Ytdjajoebpdnhnaay5V
namespace Go.Proofs.Ytdjajoebpdnhnaa
open Go.Abs
set_option linter.unusedVariables false
set_option linter.unusedSimpArgs false

def wdV (p : D_Project) (t : Int) : D_Project × Bool × Unit := if (projB p && projB (t, p.2)) = true then ((t, p.2), true, ()) else (zeroP, false, ())
theorem Sm_dead {B : Nat} {p : D_Project} (t : Int) (h : Sm_Project B p) : Sm_Project B (t, p.2) := h
theorem WithDeadline_spec (p : D_Project) (t : Int) (u : Unit) (h : Sm_Project 1048576 p) : spec_WithDeadline (p, t, u) () = some (wdV p t, ()) := by
  have h' := smm_Project (B' := 1099511627776) (by omega) p h
  unfold spec_WithDeadline wdV
  simp only [l05Copy_eq _ _ h, ProjectOk_spec _ _ h', some_bind']
  rcases tf (projB p) with h1 | h1
  · simp [h1, notB]
  rcases tf (projB (t, p.2)) with h2 | h2
  · simp only [h1, h2, notB_true, notB_false, Bool.false_eq_true, if_false, if_true, ProjectOk_spec _ _ (Sm_dead t h'), some_bind', Bool.and_false]
  · simp only [h1, h2, notB_true, notB_false, Bool.false_eq_true, if_false, if_true, ProjectOk_spec _ _ (Sm_dead t h'), some_bind', Bool.and_self]
theorem WithDeadline_impl (p : D_Project) (t : Int) (u : Unit) (h : Sm_Project 1048576 p) : impl_WithDeadline (p, t, u) () = some (wdV p t, ()) := by
  have h' := smm_Project (B' := 1099511627776) (by omega) p h
  unfold impl_WithDeadline wdV
  simp only [copied_eq _ _ h, ProjectOk_impl _ _ h', some_bind']
  rcases tf (projB p) with h1 | h1
  · simp [h1, notB]
  rcases tf (projB (t, p.2)) with h2 | h2
  · simp only [h1, h2, notB_true, notB_false, Bool.false_eq_true, if_false, if_true, ProjectOk_impl _ _ (Sm_dead t h'), some_bind', Bool.and_false]
  · simp only [h1, h2, notB_true, notB_false, Bool.false_eq_true, if_false, if_true, ProjectOk_impl _ _ (Sm_dead t h'), some_bind', Bool.and_self]
theorem Sm_zeroP (B : Nat) : Sm_Project B zeroP := ⟨trivial, ⟨Nat.zero_le _, fun y hy => absurd hy (by simp)⟩, ⟨Nat.zero_le _, fun y hy => absurd hy (by simp)⟩, ⟨Nat.zero_le _, fun y hy => absurd hy (by simp)⟩, ⟨Nat.zero_le _, fun y hy => absurd hy (by simp)⟩, trivial⟩
theorem Sm_wdV {p : D_Project} (t : Int) (h : Sm_Project 1048576 p) : Sm_Project 1048576 (wdV p t).1 := by
  unfold wdV
  split
  · exact Sm_dead t h
  · exact Sm_zeroP _
theorem marks_Project (p : D_Project) (h : Sm_Project 1048576 p) : ∃ (k : Int) (p' : D_Project), 0 ≤ k ∧ (∀ u, laws_markProject (p, 1, u) () = some (k, p')) ∧ ∀ u, laws_heldProject (p', 1, u) () = some (k, ()) := by
  have hb := nb_Project p h
  obtain ⟨p', m, q⟩ := mh_Project p 1 (smm_Project (B' := 1099511627776) (by omega) p h) (by omega) (by omega)
  exact ⟨_, p', by omega, m, q⟩
theorem plain_FnExactWithDeadline (p : D_Project) (t : Int) (u : Unit) (hp : Sm_Project maxLen p) : laws_FnExactWithDeadline (p, t, u) () = some (true, ()) := by
  unfold laws_FnExactWithDeadline
  obtain ⟨r1, e1, c1⟩ := sz_Project p 1048576 () (by omega) (by omega) hp
  simp only [e1, some_bind']
  rcases c1 with c1 | ⟨c1, d1, sp⟩
  · simp only [neg_yes c1, if_true]
  have sp' := smm_Project (B' := 1099511627776) (by omega) p sp
  have sw := Sm_wdV t sp
  have sw' := smm_Project (B' := 1099511627776) (by omega) _ sw
  obtain ⟨k, p', hk, mk, -⟩ := marks_Project p sp
  obtain ⟨m, w', hm, mw, qw⟩ := marks_Project _ sw
  have es := fun u => WithDeadline_spec p t u sp
  have ei := fun u => WithDeadline_impl p t u sp
  generalize wdV p t = w at *
  obtain ⟨w0, w1, wu⟩ := w
  simp only [neg_no c1, Bool.false_eq_true, if_false, to_Project _ _ sp, some_bind', es, ei, eq_Project _ _ sw', eq_Project _ _ sp', eqB_self, eqZ_self, notB_true, mk, mw, qw, neg_no hk, neg_no hm]
theorem L_FnExactWithDeadline (x : Ty.dens H_laws_FnExactWithDeadline.ps) (h : Ty.fits H_laws_FnExactWithDeadline.ps x) : laws_FnExactWithDeadline x () = some (true, ()) := by
  obtain ⟨p, t, u⟩ := x
  exact plain_FnExactWithDeadline p t u (smf_Project _ h.1)
end Go.Proofs.Ytdjajoebpdnhnaa
