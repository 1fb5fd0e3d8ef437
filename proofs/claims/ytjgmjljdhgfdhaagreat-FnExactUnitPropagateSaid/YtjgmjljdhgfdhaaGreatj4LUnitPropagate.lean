/-
  Plain law: for all data within the bounds of the machine the law FnExactUnitPropagate returns true.
-/
import Derived.Test.YtjgmjljdhgfdhaaGreatj4LUnit
import Derived.Test.YtjgmjljdhgfdhaaGreatj4V
namespace Go.Proofs.YtjgmjljdhgfdhaaGreat
open Go.Abs
set_option linter.unusedVariables false
set_option linter.unusedSimpArgs false

theorem set_ascU {l : List Int} (h : setB l = true) : l.Pairwise (· < ·) := by
  have adj : ∀ j (hj : j + 1 < l.length), l[j] < l[j + 1] := fun j hj => by
    unfold setB at h
    have := List.all_eq_true.1 h (j + 1) (by simpa using hj)
    rw [show ordI l (j + 1) = (match l[j]?, l[j + 1]? with | some x, some y => notB (leZ y x) | _, _ => true) from rfl] at this
    rw [List.getElem?_eq_getElem (show j < l.length by omega), List.getElem?_eq_getElem hj] at this
    simp only [notB_not, Bool.not_eq_true', Bool.eq_false_iff, Ne, leZ_iff] at this
    omega
  refine List.pairwise_iff_getElem.2 fun i j hi hj hij => ?_
  induction j with
  | zero => omega
  | succ k ih =>
    by_cases e : i = k
    · subst e; exact adj i hj
    · exact Int.lt_trans (ih (by omega) (by omega)) (adj k hj)
theorem asc_lenU : ∀ (l : List Int) (lo : Int) (n : Nat), l.Pairwise (· < ·) → (∀ x ∈ l, lo ≤ x ∧ x < lo + n) → l.length ≤ n
  | [], _, _, _, _ => by simp
  | x :: r, lo, n, h, hb => by
    have h1 := List.pairwise_cons.1 h
    have hx := hb x List.mem_cons_self
    have := asc_lenU r (lo + 1) (n - 1) h1.2 (fun y hy => by
      have a := h1.1 y hy
      have b := hb y (List.mem_cons_of_mem _ hy)
      omega)
    simp only [List.length_cons]
    omega
theorem UpI.of_dom {p : D_Project} {b : D_Domain} (h : domB p b = true) : UpI b := by
  have hp := proj_of_dom h
  obtain ⟨hn, hmc⟩ := mode_count hp
  have h' := h
  unfold domB at h'
  simp only [Bool.and_eq_true] at h'
  have l1 : b.1.length = p.2.1.length := len_eqB h'.1.1.1.2
  have l2 : b.2.1.length = p.2.1.length := len_eqB h'.1.1.2
  have l3 : b.2.2.1.length = p.2.1.length := len_eqB h'.1.2
  have hmode : ∀ m ∈ b.2.2.1, m.Pairwise (· < ·) ∧ ∀ z ∈ m, 0 ≤ z ∧ z < 3 := fun m hm => by
    obtain ⟨i, hi, rfl⟩ := List.mem_iff_getElem.1 hm
    have hi' : i < p.2.1.length := by omega
    obtain ⟨x, y, m, -, -, g3, -, -, -, -, -, g8, g9⟩ := dom_at h hi'
    rw [getI_lt hi] at g3
    cases g3
    refine ⟨set_ascU g8, fun z hz => ?_⟩
    unfold subB at g9
    obtain ⟨k, rfl, hk⟩ := iotaI_mem (hasB_memU (List.all_eq_true.1 g9 z hz))
    have := (hmc i hi').2
    omega
  refine ⟨⟨by omega, by omega, by omega, fun m hm => ⟨(hmode m hm).1.imp fun h => Int.ne_of_lt h, ?_⟩⟩, fun x hx => ?_, fun x hx => ?_, fun m hm z hz => ?_⟩
  · have := asc_lenU m 0 3 (hmode m hm).1 fun z hz => by have := (hmode m hm).2 z hz; omega
    omega
  · obtain ⟨i, hi, rfl⟩ := List.mem_iff_getElem.1 hx
    obtain ⟨x, y, m, g1, -, -, -, k1, k2, -, -, -, -⟩ := dom_at h (show i < p.2.1.length by omega)
    rw [getI_lt hi] at g1
    cases g1
    exact ⟨k1, k2⟩
  · obtain ⟨i, hi, rfl⟩ := List.mem_iff_getElem.1 hx
    obtain ⟨x, y, m, -, g2, -, -, -, -, k1, k2, -, -⟩ := dom_at h (show i < p.2.1.length by omega)
    rw [getI_lt hi] at g2
    cases g2
    exact ⟨k1, k2⟩
  · have := (hmode m hm).2 z hz
    omega
theorem Unit_both (p : D_Project) (ls : List (List D_Literal)) (b : D_Domain) (hp : Sm_Project 1048576 p) (hl : ls.length ≤ 1048576 ∧ ∀ y ∈ ls, (y.length ≤ 1048576 ∧ ∀ z ∈ y, Sm_Literal 1048576 z)) (hb : Sm_Domain 1048576 b) :
    ∃ (x : D_Domain) (f : Bool), Sm_Domain 1048576 x ∧ (∀ u, spec_UnitPropagate (p, ls, b, u) () = some ((x, f, ()), ())) ∧ ∀ u, impl_UnitPropagate (p, ls, b, u) () = some ((x, f, ()), ()) := by
  have hp' := smm_Project (B' := 1099511627776) (by omega) p hp
  have hb' := smm_Domain (B' := 1099511627776) (by omega) b hb
  have hl' : ls.length ≤ 1099511627776 ∧ ∀ l ∈ ls, l.length ≤ 1099511627776 := ⟨by omega, fun l h => by have := (hl.2 l h).1; omega⟩
  have hi : ∀ u, impl_UnitPropagate (p, ls, b, u) () = (if domB p b = true then (upL (fun d => (impl_DomainEmpty (d, ()) ()).map (·.1)) (fun d => (slices_IndexFunc_impl_Literal_impl_Literal (ls, (fun l => (impl_UnitPropagate_1 l (d, ())).map (·.1)), ()) ()).map (·.1)) ls (fun d l => (impl_ClauseStatus (d, l, ()) ()).map fun s => (s.1.1, s.1.2.1)) (fun d l => (impl_Restrict (d, l, ()) ()).map (·.1)) 1048576 b).map fun r => ((r.1, r.2, ()), ())
      else some ((b, false, ()), ())) := fun u => by
    unfold impl_UnitPropagate upF
    show ((impl_Domain_copied (b, ()) ()).bind fun c => (impl_DomainForm (p, b, ()) ()).bind fun f => if f.1 = true then (upL (fun d => (impl_DomainEmpty (d, ()) ()).map (·.1)) (fun d => (slices_IndexFunc_impl_Literal_impl_Literal (ls, (fun l => (impl_UnitPropagate_1 l (d, ())).map (·.1)), ()) ()).map (·.1)) ls (fun d l => (impl_ClauseStatus (d, l, ()) ()).map fun s => (s.1.1, s.1.2.1)) (fun d l => (impl_Restrict (d, l, ()) ()).map (·.1)) 1048576 c.1).map fun r => ((r.1, r.2, ()), ())
      else some ((c.1, false, ()), ())) = _
    rw [dcopy_i b () hb, DomainForm_impl p b () hp' hb']
    rfl
  rcases tf (domB p b) with h | h
  · refine ⟨b, false, hb, fun u => ?_, fun u => ?_⟩
    · unfold spec_UnitPropagate
      simp only [dcopy_s _ _ hb, DomainForm_spec _ _ _ hp' hb', h, some_bind', notB_false, if_true]
    · rw [hi, if_neg (by rw [h]; exact Bool.false_ne_true)]
  · have hU := UpI.of_dom h
    obtain ⟨r, hr, hrU⟩ := upV_ends ls 1048576 b hU (by have := hU.mu; omega)
    refine ⟨r.1, r.2, hrU.sm, fun u => ?_, fun u => ?_⟩
    · have l0 := fun A : Type => up_spec ls ([], [], [], ()) hl' A 1048576 big b r hU (Nat.le_of_lt (lt_bigN (n := 1048576) (by omega))) hr
      unfold spec_UnitPropagate
      simp only [dcopy_s _ _ hb, DomainForm_spec _ _ _ hp' hb', h, some_bind', notB_true, Bool.false_eq_true, if_false, l0]
    · rw [hi, if_pos h, up_impl ls hl' 1048576 b hU, hr]
      rfl
theorem plain_FnExactUnitPropagate (p : D_Project) (ls : List (List D_Literal)) (b : D_Domain) (u : Unit) (hp : Sm_Project maxLen p) (hl : ls.length ≤ maxLen ∧ ∀ y ∈ ls, (y.length ≤ maxLen ∧ ∀ z ∈ y, Sm_Literal maxLen z)) (hb : Sm_Domain maxLen b) : laws_FnExactUnitPropagate (p, ls, b, u) () = some (true, ()) := by
  unfold laws_FnExactUnitPropagate
  obtain ⟨r1, e1, c1⟩ := sz_Project p 1048576 () (by omega) (by omega) hp
  simp only [e1, some_bind']
  rcases c1 with c1 | ⟨c1, d1, sp⟩
  · simp only [neg_yes c1, if_true]
  obtain ⟨r2, e2, c2⟩ := sz_LiteralSS ls r1 () c1 (by omega) hl
  simp only [e2, some_bind']
  rcases c2 with c2 | ⟨c2, d2, sl⟩
  · simp only [neg_no c1, neg_yes c2, Bool.false_eq_true, if_false, if_true]
  obtain ⟨r3, e3, c3⟩ := sz_Domain b r2 () c2 (by omega) hb
  simp only [e3, some_bind']
  rcases c3 with c3 | ⟨c3, d3, sb⟩
  · simp only [neg_no c1, neg_no c2, neg_yes c3, Bool.false_eq_true, if_false, if_true]
  have sp' := smm_Project (B' := 1099511627776) (by omega) p sp
  have sb' := smm_Domain (B' := 1099511627776) (by omega) b sb
  have sl' : ls.length ≤ 1099511627776 ∧ ∀ y ∈ ls, (y.length ≤ 1099511627776 ∧ ∀ z ∈ y, Sm_Literal 1099511627776 z) := ⟨by omega, fun y hy => ⟨by have := (sl.2 y hy).1; omega, fun z _ => smI_Literal _ z⟩⟩
  obtain ⟨x, f, sx, es, ei⟩ := Unit_both p ls b sp sl sb
  have sx' := smm_Domain (B' := 1099511627776) (by omega) x sx
  have n1 := nb_Project p sp
  have n2 := nb_LiteralSS ls sl
  have n3 := nb_Domain b sb
  have n4 := nb_Domain x sx
  obtain ⟨p', mk⟩ := mk_Project p 1 sp' (by omega) (by omega)
  obtain ⟨ls', ml⟩ := mk_LiteralSS ls (1 + ((n_Project p : Nat) : Int)) sl' (by omega) (by omega)
  obtain ⟨b', mb⟩ := mk_Domain b (1 + ((n_Project p : Nat) : Int) + ((n_LiteralSS ls : Nat) : Int)) sb' (by omega) (by omega)
  obtain ⟨x', mx, qx⟩ := mh_Domain x 1 sx' (by omega) (by omega)
  have hk : (0 : Int) ≤ 1 + ((n_Project p : Nat) : Int) + ((n_LiteralSS ls : Nat) : Int) + ((n_Domain b : Nat) : Int) := by omega
  have hm : (0 : Int) ≤ 1 + ((n_Domain x : Nat) : Int) := by omega
  simp only [neg_no c1, neg_no c2, neg_no c3, Bool.false_eq_true, if_false, to_Project _ _ sp, to_LiteralSS _ _ sl, to_Domain _ _ sb, some_bind', es, ei, eq_Domain _ _ sx', eq_Domain _ _ sb', eq_LiteralSS _ _ sl', eq_Project _ _ sp', eqB_self, eqZ_self, notB_true, mk, ml, mb, mx, qx, neg_no hk, neg_no hm]
theorem L_FnExactUnitPropagate (x : Ty.dens H_laws_FnExactUnitPropagate.ps) (h : Ty.fits H_laws_FnExactUnitPropagate.ps x) : laws_FnExactUnitPropagate x () = some (true, ()) := by
  obtain ⟨p, ls, b, u⟩ := x
  exact plain_FnExactUnitPropagate p ls b u (smf_Project _ h.1) ⟨h.2.1.1, fun y hy => ⟨(h.2.1.2 y hy).1, fun z hz => smI_Literal _ z⟩⟩ (smf_Domain _ h.2.2.1)
end Go.Proofs.YtjgmjljdhgfdhaaGreat
