/-
  Plain law: for all data within the bounds of the machine the law FnExactFormatSearch returns true.
-/
import Derived.Test.YtmbknefcilojkaaDoord4LFmt
namespace Go.Proofs.YtmbknefcilojkaaDoor
open Go.Abs
set_option linter.unusedVariables false
set_option linter.unusedSimpArgs false

def searchV (f : D_SearchResult) : List UInt8 := (if f.2.2.2.2.1 = true then [115, 116, 111, 112, 112, 101, 100, 32] else if f.2.2.1 = true then [102, 111, 117, 110, 100, 32] else [110, 111, 110, 101, 32]) ++ fmtV f.2.2.2.1
theorem FormatSearch_spec (f : D_SearchResult) (u : Unit) : spec_FormatSearch (f, u) () = some (searchV f, ()) := by
  have hl := fmtV_len f.2.2.2.1
  have ha : ∀ x : List UInt8, x.length ≤ 100 → addI x (fmtV f.2.2.2.1) = some (x ++ fmtV f.2.2.2.1) := fun x hx => addI_ok (by rw [room_eq]; omega)
  unfold spec_FormatSearch searchV
  rcases tf f.2.2.1 with h1 | h1 <;> rcases tf f.2.2.2.2.1 with h2 | h2 <;> simp only [h1, h2, if_true, Bool.false_eq_true, if_false, some_bind', FormatInt_spec] <;> (rw [ha _ (by simp)]; rfl)
theorem FormatSearch_impl (f : D_SearchResult) (u : Unit) : impl_FormatSearch (f, u) () = some (searchV f, ()) := by
  have hl := fmtV_len f.2.2.2.1
  have ha : ∀ x : List UInt8, x.length ≤ 100 → addI x (fmtV f.2.2.2.1) = some (x ++ fmtV f.2.2.2.1) := fun x hx => addI_ok (by rw [room_eq]; omega)
  have hb : ∀ x y : List UInt8, x.length ≤ 100 → y.length ≤ 100 → addI x y = some (x ++ y) := fun x y hx hy => addI_ok (by rw [room_eq]; omega)
  unfold impl_FormatSearch searchV
  rcases tf f.2.2.1 with h1 | h1 <;> rcases tf f.2.2.2.2.1 with h2 | h2 <;> simp only [h1, h2, if_true, Bool.false_eq_true, if_false, some_bind', FormatInt_impl] <;> (rw [hb _ [32] (by simp) (by simp)]; simp only [some_bind']; rw [ha _ (by simp)]; rfl)
theorem plain_FnExactFormatSearch (f : D_SearchResult) (u : Unit) (hf : Sm_SearchResult maxLen f) : laws_FnExactFormatSearch (f, u) () = some (true, ()) := by
  unfold laws_FnExactFormatSearch
  obtain ⟨r1, e1, c1⟩ := sz_SearchResult f 1048576 () (by omega) (by omega) hf
  simp only [e1, some_bind']
  rcases c1 with c1 | ⟨c1, d1, sp⟩
  · simp only [neg_yes c1, if_true]
  have sp' := smm_SearchResult (B' := 1099511627776) (by omega) f sp
  simp only [neg_no c1, Bool.false_eq_true, if_false, to_SearchResult _ _ sp, some_bind', FormatSearch_spec, FormatSearch_impl, eqS_self, notB_true, eq_SearchResult _ _ sp']
theorem L_FnExactFormatSearch (x : Ty.dens H_laws_FnExactFormatSearch.ps) (h : Ty.fits H_laws_FnExactFormatSearch.ps x) : laws_FnExactFormatSearch x () = some (true, ()) := by
  obtain ⟨p, u⟩ := x
  exact plain_FnExactFormatSearch p u (smf_SearchResult _ h.1)
end Go.Proofs.YtmbknefcilojkaaDoor
