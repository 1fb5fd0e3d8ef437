/-
  Plain law: for all data within the bounds of the machine the law FnExactLogNew returns true.
-/
import Derived.Test.YtnkgcbeklohakaaGreatw5LInit
import Derived.Test.YtnkgcbeklohakaaGreatw5LCopy
import Derived.Test.YtnkgcbeklohakaaGreatw5V
namespace Go.Proofs.YtnkgcbeklohakaaGreat
open Go.Abs
set_option linter.unusedVariables false
set_option linter.unusedSimpArgs false

def logV (p : D_Project) : D_Log × Bool × Unit := if projB p = true then ((p, initD p, [], [], ()), true, ()) else ((zeroP, ([], [], [], ()), [], [], ()), false, ())
theorem LogNew_spec (p : D_Project) (u : Unit) (h : Sm_Project 1048576 p) : spec_LogNew (p, u) () = some (logV p, ()) := by
  have h' := smm_Project (B' := 1099511627776) (by omega) p h
  unfold spec_LogNew logV
  rcases tf (projB p) with q | q
  · simp only [ProjectOk_spec _ _ h', q, some_bind', notB_false, if_true, Bool.false_eq_true, if_false]
  · simp only [ProjectOk_spec _ _ h', q, some_bind', notB_true, Bool.false_eq_true, if_false, if_true, l05Copy_eq _ _ h, l12Of_eq p _ q]
theorem LogNew_impl (p : D_Project) (u : Unit) (h : Sm_Project 1048576 p) : impl_LogNew (p, u) () = some (logV p, ()) := by
  have h' := smm_Project (B' := 1099511627776) (by omega) p h
  have hi := fun u => InitialDomain_impl p u h'
  unfold impl_LogNew logV
  unfold initV at hi
  rcases tf (projB p) with q | q
  · simp only [ProjectOk_impl _ _ h', q, some_bind', notB_false, if_true, Bool.false_eq_true, if_false]
  · simp only [q, if_true] at hi
    simp only [ProjectOk_impl _ _ h', q, some_bind', notB_true, Bool.false_eq_true, if_false, if_true, copied_eq _ _ h, hi]
theorem Sm_zeroP (B : Nat) : Sm_Project B zeroP := ⟨trivial, ⟨Nat.zero_le _, fun y hy => absurd hy (by simp)⟩, ⟨Nat.zero_le _, fun y hy => absurd hy (by simp)⟩, ⟨Nat.zero_le _, fun y hy => absurd hy (by simp)⟩, ⟨Nat.zero_le _, fun y hy => absurd hy (by simp)⟩, trivial⟩
theorem Sm_logV {p : D_Project} (h : Sm_Project 1048576 p) : Sm_Log 1048576 (logV p).1 := by
  unfold logV
  rcases tf (projB p) with q | q
  · rw [q, if_neg (by simp)]
    exact ⟨Sm_zeroP _, ⟨⟨Nat.zero_le _, fun y hy => absurd hy (by simp)⟩, ⟨Nat.zero_le _, fun y hy => absurd hy (by simp)⟩, ⟨Nat.zero_le _, fun y hy => absurd hy (by simp)⟩, trivial⟩, ⟨Nat.zero_le _, fun y hy => absurd hy (by simp)⟩, ⟨Nat.zero_le _, fun y hy => absurd hy (by simp)⟩, trivial⟩
  · rw [q, if_pos rfl]
    exact ⟨h, initD_sm q (by omega), ⟨Nat.zero_le _, fun y hy => absurd hy (by simp)⟩, ⟨Nat.zero_le _, fun y hy => absurd hy (by simp)⟩, trivial⟩
theorem marks_Project (p : D_Project) (h : Sm_Project 1048576 p) : ∃ (k : Int) (p' : D_Project), 0 ≤ k ∧ (∀ u, laws_markProject (p, 1, u) () = some (k, p')) := by
  have hb := nb_Project p h
  obtain ⟨p', m⟩ := mk_Project p 1 (smm_Project (B' := 1099511627776) (by omega) p h) (by omega) (by omega)
  exact ⟨_, p', by omega, m⟩
theorem marks_Log (p : D_Log) (h : Sm_Log 1048576 p) : ∃ (k : Int) (p' : D_Log), 0 ≤ k ∧ (∀ u, laws_markLog (p, 1, u) () = some (k, p')) ∧ ∀ u, laws_heldLog (p', 1, u) () = some (k, ()) := by
  have hb := nb_Log p h
  obtain ⟨p', m, q⟩ := mh_Log p 1 (smm_Log (B' := 1099511627776) (by omega) p h) (by omega) (by omega)
  exact ⟨_, p', by omega, m, q⟩
theorem plain_FnExactLogNew (p : D_Project) (u : Unit) (hp : Sm_Project maxLen p) : laws_FnExactLogNew (p, u) () = some (true, ()) := by
  unfold laws_FnExactLogNew
  obtain ⟨r1, e1, c1⟩ := sz_Project p 1048576 () (by omega) (by omega) hp
  simp only [e1, some_bind']
  rcases c1 with c1 | ⟨c1, d1, sp⟩
  · simp only [neg_yes c1, if_true]
  have sp' := smm_Project (B' := 1099511627776) (by omega) p sp
  have sw := Sm_logV sp
  have sw' := smm_Log (B' := 1099511627776) (by omega) _ sw
  obtain ⟨k, p', hk, mk⟩ := marks_Project p sp
  obtain ⟨m, w', hm, mw, qw⟩ := marks_Log _ sw
  have es := fun u => LogNew_spec p u sp
  have ei := fun u => LogNew_impl p u sp
  generalize logV p = w at *
  obtain ⟨w0, w1, wu⟩ := w
  simp only [neg_no c1, Bool.false_eq_true, if_false, to_Project _ _ sp, some_bind', es, ei, eq_Log _ _ sw', eq_Project _ _ sp', eqB_self, eqZ_self, notB_true, mk, mw, qw, neg_no hk, neg_no hm]
theorem L_FnExactLogNew (x : Ty.dens H_laws_FnExactLogNew.ps) (h : Ty.fits H_laws_FnExactLogNew.ps x) : laws_FnExactLogNew x () = some (true, ()) := by
  obtain ⟨p, u⟩ := x
  exact plain_FnExactLogNew p u (smf_Project _ h.1)
end Go.Proofs.YtnkgcbeklohakaaGreat
