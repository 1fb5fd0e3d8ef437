/-
  Plain law: for all data within the bounds of the machine the law FnExactFormatLink returns true.
-/
import Derived.Test.YtmbknefcilojkaaDoord3LProj2
import Derived.Test.YtmbknefcilojkaaDoord3LCopy
import Derived.Test.YtmbknefcilojkaaDoord3LFmt
namespace Go.Proofs.YtmbknefcilojkaaDoor
open Go.Abs
set_option linter.unusedVariables false
set_option linter.unusedSimpArgs false

theorem proj_nameL {p : D_Project} (h : projB p = true) {i : Nat} (hi : i < p.2.1.length) : p.2.1[i].1.length ≤ 8 := by
  unfold projB at h
  simp only [Bool.and_eq_true] at h
  have h1 := List.all_eq_true.1 h.1.1.1.2 i (by simpa using hi)
  unfold actI at h1
  rw [List.getElem?_eq_getElem hi] at h1
  simp only [Bool.and_eq_true] at h1
  have h2 := h1.1
  unfold actB at h2
  simp only [Bool.and_eq_true] at h2
  have h3 := h2.2.1.1
  unfold nameB at h3
  simp only [Bool.and_eq_true] at h3
  have := inB_iff.1 h3.2
  omega
def withLink (p : D_Project) (k : D_Link) : D_Project := (p.1, p.2.1, p.2.2.1 ++ [k], p.2.2.2)
def linkV (p : D_Project) (k : D_Link) : List UInt8 := (if k.2.2.1 = true then [101, 110, 100, 32] else [115, 116, 97, 114, 116, 32]) ++ ((match getI p.2.1 k.1 with | some a => a.1 | none => []) ++ ([32] ++ ((match getI p.2.1 k.2.1 with | some a => a.1 | none => []) ++ ([32] ++ fmtV k.2.2.2.1))))
theorem FormatLink_both (p : D_Project) (k : D_Link) (u : Unit) (hp : Sm_Project 1048576 p) :
    spec_FormatLink (p, k, u) () = some (if projB (withLink p k) = true then linkV p k else [], ()) ∧ impl_FormatLink (p, k, u) () = some (if projB (withLink p k) = true then linkV p k else [], ()) := by
  have hkl := hp.2.2.1.1
  have hp' := smm_Project (B' := 1099511627776) (by omega) p hp
  have ha : addI p.2.2.1 [k] = some (p.2.2.1 ++ [k]) := addI_ok (by rw [room_eq]; simp; omega)
  have hw : Sm_Project 1099511627776 (withLink p k) := ⟨hp'.1, hp'.2.1, ⟨by show (p.2.2.1 ++ [k]).length ≤ _; simp; omega, fun x hx => by
    rcases List.mem_append.1 hx with hx | hx
    · exact hp'.2.2.1.2 x hx
    · exact ⟨trivial, trivial, trivial, trivial, trivial⟩⟩, hp'.2.2.2⟩
  have hw' : Sm_Project 1099511627776 (p.1, p.2.1, p.2.2.1 ++ [k], p.2.2.2) := hw
  have k1 := fun u => ProjectOk_spec (p.1, p.2.1, p.2.2.1 ++ [k], p.2.2.2) u hw'
  have k2 := fun u => ProjectOk_impl (p.1, p.2.1, p.2.2.1 ++ [k], p.2.2.2) u hw'
  have ew : projB (p.1, p.2.1, p.2.2.1 ++ [k], p.2.2.2) = projB (withLink p k) := rfl
  unfold spec_FormatLink impl_FormatLink
  simp only [l05Copy_eq _ _ hp, copied_eq _ _ hp, some_bind', ha, k1, k2, ew]
  rcases tf (projB (withLink p k)) with h | h
  · simp [h, notB]
  simp only [h, notB_true, Bool.false_eq_true, if_false, if_true]
  have hl : linkB (lenI p.2.1) k = true := by
    have h0 := h
    unfold projB at h0
    simp only [Bool.and_eq_true] at h0
    exact List.all_eq_true.1 h0.2 k (by show k ∈ p.2.2.1 ++ [k]; simp)
  unfold linkB at hl
  simp only [Bool.and_eq_true] at hl
  obtain ⟨f, hf, hfl⟩ := inB_place hp'.2.1.1 hl.1.1.1
  obtain ⟨t, ht, htl⟩ := inB_place hp'.2.1.1 hl.1.1.2
  have n1 : p.2.1[f].1.length ≤ 8 := proj_nameL (p := withLink p k) h hfl
  have n2 : p.2.1[t].1.length ≤ 8 := proj_nameL (p := withLink p k) h htl
  have gf : getI p.2.1 k.1 = some p.2.1[f] := by rw [hf]; exact getI_lt hfl
  have gt : getI p.2.1 k.2.1 = some p.2.1[t] := by rw [ht]; exact getI_lt htl
  have n3 := fmtV_len k.2.2.2.1
  have ad : ∀ x y : List UInt8, x.length ≤ 1000 → y.length ≤ 1000 → addI x y = some (x ++ y) := fun x y h1 h2 => addI_ok (by rw [room_eq]; omega)
  unfold spec_l06Link impl_Project_linkText linkV
  rcases tf k.2.2.1 with hb | hb
  · simp only [hb, Bool.false_eq_true, if_false, some_bind', gf, gt, FormatInt_spec, FormatInt_impl]
    rw [ad [115, 116, 97, 114, 116, 32] p.2.1[f].1 (by simp) (by omega)]
    simp only [some_bind']
    rw [ad ([115, 116, 97, 114, 116, 32] ++ p.2.1[f].1) [32] (by simp; omega) (by simp)]
    simp only [some_bind']
    rw [ad (([115, 116, 97, 114, 116, 32] ++ p.2.1[f].1) ++ [32]) p.2.1[t].1 (by simp; omega) (by omega)]
    simp only [some_bind']
    rw [ad ((([115, 116, 97, 114, 116, 32] ++ p.2.1[f].1) ++ [32]) ++ p.2.1[t].1) [32] (by simp; omega) (by simp)]
    simp only [some_bind']
    rw [ad (((([115, 116, 97, 114, 116, 32] ++ p.2.1[f].1) ++ [32]) ++ p.2.1[t].1) ++ [32]) (fmtV k.2.2.2.1) (by simp; omega) (by omega)]
    simp only [some_bind']
    rw [ad [115, 116, 97, 114, 116] [32] (by simp) (by simp)]
    simp only [some_bind', List.cons_append, List.nil_append]
    rw [ad [115, 116, 97, 114, 116, 32] p.2.1[f].1 (by simp) (by omega)]
    simp only [some_bind', List.cons_append, List.nil_append]
    rw [ad (115 :: 116 :: 97 :: 114 :: 116 :: 32 :: p.2.1[f].1) [32] (by simp; omega) (by simp)]
    simp only [some_bind', List.cons_append, List.nil_append]
    rw [ad (115 :: 116 :: 97 :: 114 :: 116 :: 32 :: (p.2.1[f].1 ++ [32])) p.2.1[t].1 (by simp; omega) (by omega)]
    simp only [some_bind', List.cons_append, List.nil_append]
    rw [ad (115 :: 116 :: 97 :: 114 :: 116 :: 32 :: (p.2.1[f].1 ++ [32] ++ p.2.1[t].1)) [32] (by simp; omega) (by simp)]
    simp only [some_bind', List.cons_append, List.nil_append]
    rw [ad (115 :: 116 :: 97 :: 114 :: 116 :: 32 :: (p.2.1[f].1 ++ [32] ++ p.2.1[t].1 ++ [32])) (fmtV k.2.2.2.1) (by simp; omega) (by omega)]
    simp
  · simp only [hb, if_true, some_bind', gf, gt, FormatInt_spec, FormatInt_impl]
    rw [ad [101, 110, 100, 32] p.2.1[f].1 (by simp) (by omega)]
    simp only [some_bind']
    rw [ad ([101, 110, 100, 32] ++ p.2.1[f].1) [32] (by simp; omega) (by simp)]
    simp only [some_bind']
    rw [ad (([101, 110, 100, 32] ++ p.2.1[f].1) ++ [32]) p.2.1[t].1 (by simp; omega) (by omega)]
    simp only [some_bind']
    rw [ad ((([101, 110, 100, 32] ++ p.2.1[f].1) ++ [32]) ++ p.2.1[t].1) [32] (by simp; omega) (by simp)]
    simp only [some_bind']
    rw [ad (((([101, 110, 100, 32] ++ p.2.1[f].1) ++ [32]) ++ p.2.1[t].1) ++ [32]) (fmtV k.2.2.2.1) (by simp; omega) (by omega)]
    simp only [some_bind']
    rw [ad [101, 110, 100] [32] (by simp) (by simp)]
    simp only [some_bind', List.cons_append, List.nil_append]
    rw [ad [101, 110, 100, 32] p.2.1[f].1 (by simp) (by omega)]
    simp only [some_bind', List.cons_append, List.nil_append]
    rw [ad (101 :: 110 :: 100 :: 32 :: p.2.1[f].1) [32] (by simp; omega) (by simp)]
    simp only [some_bind', List.cons_append, List.nil_append]
    rw [ad (101 :: 110 :: 100 :: 32 :: (p.2.1[f].1 ++ [32])) p.2.1[t].1 (by simp; omega) (by omega)]
    simp only [some_bind', List.cons_append, List.nil_append]
    rw [ad (101 :: 110 :: 100 :: 32 :: (p.2.1[f].1 ++ [32] ++ p.2.1[t].1)) [32] (by simp; omega) (by simp)]
    simp only [some_bind', List.cons_append, List.nil_append]
    rw [ad (101 :: 110 :: 100 :: 32 :: (p.2.1[f].1 ++ [32] ++ p.2.1[t].1 ++ [32])) (fmtV k.2.2.2.1) (by simp; omega) (by omega)]
    simp
theorem plain_FnExactFormatLink (p : D_Project) (k : D_Link) (u : Unit) (hp : Sm_Project maxLen p) : laws_FnExactFormatLink (p, k, u) () = some (true, ()) := by
  unfold laws_FnExactFormatLink
  obtain ⟨r1, e1, c1⟩ := sz_Project p 1048576 () (by omega) (by omega) hp
  simp only [e1, some_bind']
  rcases c1 with c1 | ⟨c1, d1, sp⟩
  · simp only [neg_yes c1, if_true]
  have sp' := smm_Project (B' := 1099511627776) (by omega) p sp
  have k1 := fun u => (FormatLink_both p k u sp).1
  have k2 := fun u => (FormatLink_both p k u sp).2
  simp only [neg_no c1, Bool.false_eq_true, if_false, to_Project _ _ sp, to_Link, some_bind', k1, k2, eqS_self, notB_true, eq_Project _ _ sp']
theorem L_FnExactFormatLink (x : Ty.dens H_laws_FnExactFormatLink.ps) (h : Ty.fits H_laws_FnExactFormatLink.ps x) : laws_FnExactFormatLink x () = some (true, ()) := by
  obtain ⟨a, b, u⟩ := x
  exact plain_FnExactFormatLink a b u (smf_Project _ h.1)
end Go.Proofs.YtmbknefcilojkaaDoor
