/-
  Plain laws: does a domain contain a schedule, in the program and in the reference? Condition: no list is longer than 2 to the 40.
-/
import Derived.Test.Ytmbknefcilojkaag6LSetM
namespace Go.Proofs.Ytmbknefcilojkaa
open Go.Abs
set_option linter.unusedVariables false
set_option linter.unusedSimpArgs false

theorem len_eqC {α β : Type} {x : List α} {y : List β} (h : eqZ (lenI x) (lenI y) = true) : x.length = y.length := by
  rw [eqZ_dec, decide_eq_true_eq] at h
  exact Int.ofNat.inj h
def conI (b : D_Domain) (s : D_Schedule) (i : Nat) : Bool := match b.1[i]?, b.2.1[i]?, b.2.2.1[i]?, s.1[i]?, s.2.1[i]? with
  | some x, some y, some ms, some t, some m => inB t x y && hasB ms m
  | _, _, _, _, _ => true
def conB (b : D_Domain) (s : D_Schedule) : Bool := eqZ (lenI s.2.1) (lenI s.1) && eqZ (lenI b.1) (lenI s.1) && eqZ (lenI b.2.1) (lenI s.1) && eqZ (lenI b.2.2.1) (lenI s.1) && (List.range s.1.length).all (conI b s)
theorem con_loop_i (b : D_Domain) (s : D_Schedule) (hb : Sm_Domain 1099511627776 b) (hs : s.1.length ≤ 1099511627776) (e0 : s.2.1.length = s.1.length) (e1 : b.1.length = s.1.length) (e2 : b.2.1.length = s.1.length) (e3 : b.2.2.1.length = s.1.length) :
    ∀ A : Type, loopN (A := A) big impl_Contains_L0 (0, (s.1.length : Int), s.1, b, s, ()) = some (if (List.range s.1.length).all (conI b s) = true then .exit (Sum.inl (false, (s.1.length : Int), (s.1.length : Int), s.1, b, s, ())) else .ret (false, ())) := by
  have hmod : ∀ i (hi : i < b.2.2.1.length), b.2.2.1[i].length ≤ 1099511627776 := fun i hi => (hb.2.2.1.2 _ (List.getElem_mem hi)).1
  intro A
  refine allIS (A := A) (F := impl_Contains_L0) (fun i => ((i : Int), (s.1.length : Int), s.1, b, s, ())) (0, (s.1.length : Int), s.1, b, s, ()) s.1.length (conI b s) (Sum.inl (false, (s.1.length : Int), (s.1.length : Int), s.1, b, s, ())) (false, ()) rfl hs
    (fun i hi => ?_) (by unfold impl_Contains_L0; simp only [lt_no, Bool.false_eq_true, if_false])
  have h0 : i < s.2.1.length := by omega
  have h1 : i < b.1.length := by omega
  have h2 : i < b.2.1.length := by omega
  have h3 : i < b.2.2.1.length := by omega
  have k := fun u => SetHas_impl b.2.2.1[i] s.2.1[i] u (hmod i h3)
  have hin : inB s.1[i] b.1[i] b.2.1[i] = (notB (ltZ s.1[i] b.1[i]) && notB (ltZ b.2.1[i] s.1[i])) := by
    rw [Bool.eq_iff_iff, inB_iff, Bool.and_eq_true, notB_not, notB_not, Bool.not_eq_true', Bool.not_eq_true', Bool.eq_false_iff, Bool.eq_false_iff, Ne, Ne, ltZ_iff, ltZ_iff]
    omega
  unfold impl_Contains_L0 conI
  rw [List.getElem?_eq_getElem hi, List.getElem?_eq_getElem h0, List.getElem?_eq_getElem h1, List.getElem?_eq_getElem h2, List.getElem?_eq_getElem h3]
  simp only [lt_yes hi, if_true, getI_lt hi, getI_lt h1, some_bind', hin]
  rcases tf (ltZ s.1[i] b.1[i]) with q0 | q0 <;> rcases tf (ltZ b.2.1[i] s.1[i]) with q1 | q1 <;> rcases tf (hasB b.2.2.1[i] s.2.1[i]) with q2 | q2 <;> simp [-Int.natCast_add, q0, q1, q2, k, notB, getI_lt h0, getI_lt h2, getI_lt h3, idxN hi hs (Nat.le_refl _)]
theorem Contains_impl (b : D_Domain) (s : D_Schedule) (u : Unit) (hb : Sm_Domain 1099511627776 b) (hs : s.1.length ≤ 1099511627776) : impl_Contains (b, s, u) () = some (conB b s, ()) := by
  unfold impl_Contains conB
  rcases tf (eqZ (lenI s.2.1) (lenI s.1)) with h0 | h0
  · simp [h0, notB]
  rcases tf (eqZ (lenI b.1) (lenI s.1)) with h1 | h1
  · simp [h0, h1, notB]
  rcases tf (eqZ (lenI b.2.1) (lenI s.1)) with h2 | h2
  · simp [h0, h1, h2, notB]
  rcases tf (eqZ (lenI b.2.2.1) (lenI s.1)) with h3 | h3
  · simp [h0, h1, h2, h3, notB]
  have l0 := con_loop_i b s hb hs (len_eqC h0) (len_eqC h1) (len_eqC h2) (len_eqC h3)
  simp only [h0, h1, h2, h3, notB_true, Bool.false_eq_true, if_false, some_bind', Bool.and_self, Bool.true_and]
  simp only [lenI_eq, l0]
  rcases tf ((List.range s.1.length).all (conI b s)) with q | q <;> simp [q]
end Go.Proofs.Ytmbknefcilojkaa
