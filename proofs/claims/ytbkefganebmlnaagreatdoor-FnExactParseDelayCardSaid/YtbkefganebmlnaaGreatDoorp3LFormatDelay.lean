/-
  Plain law: for all data within the bounds of the machine the law FnExactFormatDelay returns true.
-/
import Derived.Test.YtbkefganebmlnaaGreatDoorp3LDelayB
import Derived.Test.YtbkefganebmlnaaGreatDoorp3LFmt
import Derived.Test.YtbkefganebmlnaaGreatDoorp3LJoin
namespace Go.Proofs.YtbkefganebmlnaaGreatDoor
open Go.Abs
set_option linter.unusedVariables false
set_option linter.unusedSimpArgs false

theorem proj_name {p : D_Project} (h : projB p = true) {i : Nat} (hi : i < p.2.1.length) : p.2.1[i].1.length ≤ 8 := by
  unfold projB at h
  simp only [Bool.and_eq_true] at h
  have h1 := List.all_eq_true.1 h.1.1.1.2 i (by simpa using hi)
  unfold actI at h1
  rw [List.getElem?_eq_getElem hi] at h1
  simp only [Bool.and_eq_true] at h1
  have h2 := h1.1
  unfold actB at h2
  simp only [Bool.and_eq_true] at h2
  have h3 := h2.2.1.1
  unfold nameB at h3
  simp only [Bool.and_eq_true] at h3
  have := inB_iff.1 h3.2
  omega
/-- the text of a delay that is allowed -/
def delayV (p : D_Project) (d : D_Delay) : List UInt8 :=
  Lib.join (if eqZ d.1 1 = true then [[108, 97, 116, 101], (match getI p.2.1 d.2.1 with | some a => a.1 | none => []), fmtV d.2.2.1, fmtV d.2.2.2.1]
    else if eqZ d.1 2 = true then [[108, 111, 110, 103], (match getI p.2.1 d.2.1 with | some a => a.1 | none => []), fmtV d.2.2.1, fmtV d.2.2.2.1]
    else [[99, 97, 112, 97, 99, 105, 116, 121], fmtV d.2.1, fmtV d.2.2.1, fmtV d.2.2.2.1]) [32]
theorem FormatDelay_both (p : D_Project) (d : D_Delay) (u : Unit) (hp : Sm_Project 1099511627776 p) :
    spec_FormatDelay (p, d, u) () = some (if delayB p d = true then delayV p d else [], ()) ∧ impl_FormatDelay (p, d, u) () = some (if delayB p d = true then delayV p d else [], ()) := by
  unfold spec_FormatDelay impl_FormatDelay
  simp only [DelayOk_spec _ _ _ hp, DelayOk_impl _ _ _ hp, some_bind', FormatInt_spec, FormatInt_impl]
  rcases tf (delayB p d) with h | h
  · simp [h, notB]
  simp only [h, notB_true, Bool.false_eq_true, if_false, if_true]
  have hd := h
  unfold delayB at hd
  simp only [Bool.and_eq_true] at hd
  obtain ⟨⟨hok, -⟩, hk⟩ := hd
  obtain ⟨k, a, n, t, u'⟩ := d
  have l1 := fmtV_len a
  have l2 := fmtV_len n
  have l3 := fmtV_len t
  unfold delayV
  have jn : ∀ x y z w : List UInt8, x.length ≤ 8 → y.length ≤ 8 → z.length ≤ 8 → w.length ≤ 8 → (∀ u, spec_Join ([x, y, z, w], [32], u) () = some (Lib.join [x, y, z, w] [32], ())) ∧ ∀ u, strings_Join ([x, y, z, w], [32], u) () = some (Lib.join [x, y, z, w] [32], ()) := fun x y z w h1 h2 h3 h4 => by
    have hx : ∀ v ∈ [x, y, z, w], v.length ≤ 2048 := fun v hv => by
      simp only [List.mem_cons, List.not_mem_nil, or_false] at hv
      rcases hv with rfl | rfl | rfl | rfl <;> omega
    exact ⟨fun u => Join_spec _ _ u (by simp) hx (by simp), fun u => Join_impl _ _ u (by simp) hx (by simp)⟩
  have ad : ∀ x y z w : List UInt8, addI [x, y] [z, w] = some [x, y, z, w] := fun x y z w => addI_ok (by rw [room_eq]; simp)
  by_cases h1 : k = 1
  · subst h1
    have e1 : eqZ 1 1 = true := rfl
    have e3 : eqZ 1 3 = false := rfl
    simp only [e1, if_true] at hk
    obtain ⟨i, rfl, hi⟩ := inB_place hp.2.1.1 (Bool.and_eq_true _ _ ▸ hk).1
    have g : getI [([] : List UInt8), [108, 97, 116, 101], [108, 111, 110, 103], [99, 97, 112, 97, 99, 105, 116, 121]] 1 = some [108, 97, 116, 101] := rfl
    obtain ⟨j1, j2⟩ := jn [108, 97, 116, 101] p.2.1[i].1 (fmtV n) (fmtV t) (by simp) (proj_name hok hi) (by omega) (by omega)
    simp only [e1, e3, g, if_true, some_bind', notB_false, getI_lt hi, FormatInt_spec, FormatInt_impl, ad, j1, j2, and_self]
  by_cases h2 : k = 2
  · subst h2
    have e1 : eqZ 2 1 = false := rfl
    have e2 : eqZ 2 2 = true := rfl
    have e3 : eqZ 2 3 = false := rfl
    simp only [e1, e2, if_true, Bool.false_eq_true, if_false] at hk
    obtain ⟨i, rfl, hi⟩ := inB_place hp.2.1.1 (Bool.and_eq_true _ _ ▸ hk).1
    have g : getI [([] : List UInt8), [108, 97, 116, 101], [108, 111, 110, 103], [99, 97, 112, 97, 99, 105, 116, 121]] 2 = some [108, 111, 110, 103] := rfl
    obtain ⟨j1, j2⟩ := jn [108, 111, 110, 103] p.2.1[i].1 (fmtV n) (fmtV t) (by simp) (proj_name hok hi) (by omega) (by omega)
    simp only [e1, e2, e3, g, if_true, Bool.false_eq_true, if_false, some_bind', notB_false, getI_lt hi, FormatInt_spec, FormatInt_impl, ad, j1, j2, and_self]
  have e1 : eqZ k 1 = false := by rw [Bool.eq_false_iff, Ne, eqZ_iff]; exact h1
  have e2 : eqZ k 2 = false := by rw [Bool.eq_false_iff, Ne, eqZ_iff]; exact h2
  simp only [e1, e2, Bool.false_eq_true, if_false] at hk
  split at hk
  · rename_i h3
    rw [eqZ_iff] at h3
    subst h3
    have e3 : eqZ 3 3 = true := rfl
    have g : getI [([] : List UInt8), [108, 97, 116, 101], [108, 111, 110, 103], [99, 97, 112, 97, 99, 105, 116, 121]] 3 = some [99, 97, 112, 97, 99, 105, 116, 121] := rfl
    obtain ⟨j1, j2⟩ := jn [99, 97, 112, 97, 99, 105, 116, 121] (fmtV a) (fmtV n) (fmtV t) (by simp) (by omega) (by omega) (by omega)
    simp only [e1, e2, e3, g, if_true, Bool.false_eq_true, if_false, some_bind', notB_true, FormatInt_spec, FormatInt_impl, ad, j1, j2, and_self]
  · cases hk
end Go.Proofs.YtbkefganebmlnaaGreatDoor
