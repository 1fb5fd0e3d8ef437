/-
  Plain law: for all data within the bounds of the machine the law FnExactFormatResult returns true.
-/
import Derived.Test.YtholdafohofboaaGreatDoore5LFmtSched
namespace Go.Proofs.YtholdafohofboaaGreatDoor
open Go.Abs
set_option linter.unusedVariables false
set_option linter.unusedSimpArgs false

theorem nameOf_len (n : Int) : (nameOf n).length ≤ 10 := by
  unfold nameOf
  split
  · simp
  split
  · simp
  split
  · simp
  split
  · simp
  · simp
theorem StatusName_spec (n : Int) (u : Unit) : spec_StatusName (n, u) () = some (nameOf n, ()) := by
  unfold spec_StatusName
  simp only [fmt_in, some_bind']
  rcases tf (inB n 1 4) with h | h
  · have h' : ¬ (1 ≤ n ∧ n ≤ 4) := fun hh => by rw [inB_iff.2 hh] at h; cases h
    have e : nameOf n = [] := by
      unfold nameOf
      rw [if_neg (by omega), if_neg (by omega), if_neg (by omega), if_neg (by omega)]
    simp [h, notB, e]
  · have h' := inB_iff.1 h
    have hc : n = 1 ∨ n = 2 ∨ n = 3 ∨ n = 4 := by omega
    rcases hc with rfl | rfl | rfl | rfl <;> rfl
/-- a result's text -/
def resV (p : D_Project) (r : D_Result) : List UInt8 :=
  if eqZ r.1 1 = true then nameOf r.1 ++ ([32] ++ (fmtV r.2.2.1 ++ ([32] ++ schText p r.2.1)))
  else if eqZ r.1 3 = true then nameOf r.1 ++ ([32] ++ (fmtV r.2.2.1 ++ ([32, 62, 61, 32] ++ (fmtV r.2.2.2.1 ++ ([32] ++ schText p r.2.1)))))
  else if eqZ r.1 4 = true then nameOf r.1 ++ ([32, 62, 61, 32] ++ fmtV r.2.2.2.1)
  else nameOf r.1
theorem FormatResult_both (p : D_Project) (r : D_Result) (hp : Sm_Project 1099511627776 p) : (∀ u, spec_FormatResult (p, r, u) () = some (if projB p = true then resV p r else [], ())) ∧ ∀ u, impl_FormatResult (p, r, u) () = some (if projB p = true then resV p r else [], ()) := by
  have hs := FormatSchedule_both p r.2.1 hp
  have ad : ∀ x y : List UInt8, x.length ≤ 2000 → y.length ≤ 2000 → addI x y = some (x ++ y) := fun x y h1 h2 => addI_ok (by rw [room_eq]; omega)
  have h1 := nameOf_len r.1
  have h2 := fmtV_len r.2.2.1
  have h3 := fmtV_len r.2.2.2.1
  have h4 := schText_len p r.2.1
  have hn : ∀ u, impl_StatusName (r.1, u) () = some (nameOf r.1, ()) := fun u => rfl
  rcases tf (projB p) with h | h
  · constructor <;> intro u
    · unfold spec_FormatResult
      simp only [ProjectOk_spec _ _ hp, some_bind', h]
      simp [notB]
    · unfold impl_FormatResult
      simp only [ProjectOk_impl _ _ hp, some_bind', h]
      simp [notB]
  constructor <;> intro u
  · unfold spec_FormatResult resV
    simp only [ProjectOk_spec _ _ hp, some_bind', h, notB_true, Bool.false_eq_true, if_false, if_true, StatusName_spec, FormatInt_spec, hs.1]
    generalize nameOf r.1 = n at *
    generalize fmtV r.2.2.1 = a at *
    generalize fmtV r.2.2.2.1 = b at *
    generalize schText p r.2.1 = t at *
    split
    · simp (disch := ((try simp only [List.length_append, List.length_cons, List.length_nil]); omega)) only [ad, some_bind', List.append_assoc]
    split
    · simp (disch := ((try simp only [List.length_append, List.length_cons, List.length_nil]); omega)) only [ad, some_bind', List.append_assoc]
    split
    · simp (disch := ((try simp only [List.length_append, List.length_cons, List.length_nil]); omega)) only [ad, some_bind', List.append_assoc]
    · rfl
  · unfold impl_FormatResult resV
    simp only [ProjectOk_impl _ _ hp, some_bind', h, notB_true, Bool.false_eq_true, if_false, if_true, hn, FormatInt_impl, hs.2]
    generalize nameOf r.1 = n at *
    generalize fmtV r.2.2.1 = a at *
    generalize fmtV r.2.2.2.1 = b at *
    generalize schText p r.2.1 = t at *
    rcases tf (eqZ r.1 1) with e1 | e1 <;> rcases tf (eqZ r.1 3) with e3 | e3 <;> rcases tf (eqZ r.1 4) with e4 | e4 <;>
      simp (disch := ((try simp only [List.length_append, List.length_cons, List.length_nil]); omega)) only [e1, e3, e4, if_true, if_false, Bool.false_eq_true, ad, some_bind', List.append_assoc]
theorem plain_FnExactFormatResult (p : D_Project) (d : D_Result) (u : Unit) (hp : Sm_Project maxLen p) (hd : Sm_Result maxLen d) : laws_FnExactFormatResult (p, d, u) () = some (true, ()) := by
  unfold laws_FnExactFormatResult
  obtain ⟨r1, e1, c1⟩ := sz_Project p 1048576 () (by omega) (by omega) hp
  simp only [e1, some_bind']
  rcases c1 with c1 | ⟨c1, d1, sp⟩
  · simp only [neg_yes c1, if_true]
  have sp' := smm_Project (B' := 1099511627776) (by omega) p sp
  simp only [neg_no c1, Bool.false_eq_true, if_false]
  obtain ⟨r2, e2, c2⟩ := sz_Result d r1 () c1 d1 hd
  simp only [e2, some_bind']
  rcases c2 with c2 | ⟨c2, d2, sd⟩
  · simp only [neg_yes c2, if_true]
  have sd' := smm_Result (B' := 1099511627776) (by omega) d sd
  have k1 := (FormatResult_both p d sp').1
  have k2 := (FormatResult_both p d sp').2
  simp only [neg_no c2, Bool.false_eq_true, if_false, to_Project _ _ sp, to_Result _ _ sd, some_bind', k1, k2, eqS_self, notB_true, eq_Project _ _ sp', eq_Result _ _ sd']
theorem L_FnExactFormatResult (x : Ty.dens H_laws_FnExactFormatResult.ps) (h : Ty.fits H_laws_FnExactFormatResult.ps x) : laws_FnExactFormatResult x () = some (true, ()) := by
  obtain ⟨a, b, u⟩ := x
  exact plain_FnExactFormatResult a b u (smf_Project _ h.1) (smf_Result _ h.2.1)
end Go.Proofs.YtholdafohofboaaGreatDoor
