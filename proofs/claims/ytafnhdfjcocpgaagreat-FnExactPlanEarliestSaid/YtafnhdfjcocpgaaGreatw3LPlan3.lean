/-
  Plain laws: the room that a plan leaves one of its activities, over all resources; what holds of a plan. Condition: no list is longer than 2 to the 40.
-/
import Derived.Test.YtafnhdfjcocpgaaGreatw3LPlan2
namespace Go.Proofs.YtafnhdfjcocpgaaGreat
open Go.Abs
set_option linter.unusedVariables false
set_option linter.unusedSimpArgs false

def roomQ (p : D_Project) (s : D_Schedule) (d : List Int) (a : Nat) (x : Int) (n : Nat) (j : Nat) : Bool := (List.range n).all (timeQ p s d j x) && d.all (pairQ p s (j : Int) (a : Int))
def roomV (p : D_Project) (s : D_Schedule) (d : List Int) (a : Nat) : Bool := match getI s.1 (a : Int), spec_l09Mode (p, s, (a : Int), ()) () with
  | some x, some m => (List.range p.2.2.2.1.length).all (roomQ p s d a x m.1.1.toNat)
  | _, _ => false
theorem room_s (p : D_Project) (s : D_Schedule) (d : List Int) (a : Nat) (u : Unit) (hp : Sm_Project 1099511627776 p) (h : formB p s = true) (hd : d.length ≤ 1099511627776) (ha : actsIn p d) (haa : a < p.2.1.length) : spec_l24Room (p, (s, d, ()), (a : Int), u) () = some (roomV p s d a, ()) := by
  obtain ⟨hr3, -, -⟩ := proj_sizesP (proj_of_form h)
  obtain ⟨x, e, md, g1, ge, gm, hee, hx0, hx6, hd1, hd2, -, -⟩ := run_atP hp h haa
  have l0 := fun A : Type => allIS (A := A) (F := spec_l24Room_L3) (fun i => ((i : Int), lenI p.2.2.2.1, p, (s, d, ()), (a : Int), ())) (0, lenI p.2.2.2.1, p, (s, d, ()), (a : Int), ()) p.2.2.2.1.length (roomQ p s d a x md.1.toNat) (Sum.inl (false, lenI p.2.2.2.1, lenI p.2.2.2.1, p, (s, d, ()), (a : Int), ())) (false, ()) rfl (by omega)
    (fun i hi => by
      have hlt : ltZ (i : Int) (lenI p.2.2.2.1) = true := lt_yes hi
      have l1 := fun (A : Type) (m1 m2 : Int) => times_s p s d i m1 m2 (a : Int) x md.1 e hp h hd ha hi hx0 hx6 hd1 hd2 hee ge A
      have l2 := fun (A : Type) (m1 m2 : Int) => pairs_s p s d i a m1 m2 hp h hd ha hi haa A
      unfold spec_l24Room_L3 roomQ
      simp only [hlt, if_true, some_bind', g1, l1]
      rcases tf ((List.range md.1.toNat).all (timeQ p s d i x)) with q1 | q1
      · simp [-Int.natCast_add, -List.all_eq_true, -List.all_eq_false, q1]
      · rcases tf (d.all (pairQ p s (i : Int) (a : Int))) with q2 | q2 <;>
          simp [-Int.natCast_add, -List.all_eq_true, -List.all_eq_false, q1, q2, l2, idxN hi (show p.2.2.2.1.length ≤ 1099511627776 by omega) (Nat.le_refl _)])
    (by
      have hlt : ltZ (p.2.2.2.1.length : Int) (lenI p.2.2.2.1) = false := lt_no _
      unfold spec_l24Room_L3; simp only [hlt, Bool.false_eq_true, if_false]; rfl)
  unfold spec_l24Room roomV
  simp only [l0, g1, gm]
  rcases tf ((List.range p.2.2.2.1.length).all (roomQ p s d a x md.1.toNat)) with q | q <;> simp [-List.all_eq_true, -List.all_eq_false, q]
theorem room_i (p : D_Project) (s : D_Schedule) (d : List Int) (a : Nat) (hp : Sm_Project 1099511627776 p) (h : formB p s = true) (hd : d.length ≤ 1099511627776) (ha : actsIn p d) (haa : a < p.2.1.length) (A : Type) :
    loopN (A := A) big impl_Plan_holds_L4 (0, lenI p.2.2.2.1, p.2.2.2.1, (a : Int), (s, d, ()), p, s, ()) = some (if roomV p s d a = true then .exit (Sum.inl (false, lenI p.2.2.2.1, lenI p.2.2.2.1, p.2.2.2.1, (a : Int), (s, d, ()), p, s, ())) else .ret (false, ())) := by
  obtain ⟨hr3, -, -⟩ := proj_sizesP (proj_of_form h)
  obtain ⟨x, e, md, g1, ge, gm, hee, hx0, hx6, hd1, hd2, -, -⟩ := run_atP hp h haa
  have hV : roomV p s d a = (List.range p.2.2.2.1.length).all (roomQ p s d a x md.1.toNat) := by unfold roomV; simp only [g1, gm]
  rw [hV]
  exact allIS (A := A) (F := impl_Plan_holds_L4) (fun i => ((i : Int), lenI p.2.2.2.1, p.2.2.2.1, (a : Int), (s, d, ()), p, s, ())) (0, lenI p.2.2.2.1, p.2.2.2.1, (a : Int), (s, d, ()), p, s, ()) p.2.2.2.1.length (roomQ p s d a x md.1.toNat) (Sum.inl (false, lenI p.2.2.2.1, lenI p.2.2.2.1, p.2.2.2.1, (a : Int), (s, d, ()), p, s, ())) (false, ()) rfl (by omega)
    (fun i hi => by
      have hlt : ltZ (i : Int) (lenI p.2.2.2.1) = true := lt_yes hi
      have l1 := fun (A : Type) (m1 m2 : Int) (rs : List D_Resource) => times_i p s d i m1 m2 (a : Int) x md.1 e rs hp h hd ha hi hx0 hx6 hd1 hd2 hee ge A
      have l2 := fun (A : Type) (m1 m2 : Int) (rs : List D_Resource) => pairs_i p s d i a m1 m2 rs hp h hd ha hi haa A
      unfold impl_Plan_holds_L4 roomQ
      simp only [hlt, if_true, some_bind', g1, getI_lt hi, l1]
      rcases tf ((List.range md.1.toNat).all (timeQ p s d i x)) with q1 | q1
      · simp [-Int.natCast_add, -List.all_eq_true, -List.all_eq_false, q1]
      · rcases tf (d.all (pairQ p s (i : Int) (a : Int))) with q2 | q2 <;>
          simp [-Int.natCast_add, -List.all_eq_true, -List.all_eq_false, q1, q2, l2, idxN hi (show p.2.2.2.1.length ≤ 1099511627776 by omega) (Nat.le_refl _)])
    (by
      have hlt : ltZ (p.2.2.2.1.length : Int) (lenI p.2.2.2.1) = false := lt_no _
      unfold impl_Plan_holds_L4; simp only [hlt, Bool.false_eq_true, if_false]; rfl)
/-- what holds of a plan after an activity was put into it -/
def holdsV (p : D_Project) (s : D_Schedule) (d : List Int) (a : Nat) : Bool := linksV p s d (a : Int) && roomV p s d a && stocksV p s d
theorem holds_i (p : D_Project) (s : D_Schedule) (d : List Int) (a : Nat) (u : Unit) (hp : Sm_Project 1099511627776 p) (h : formB p s = true) (hd : d.length ≤ 1099511627776) (ha : actsIn p d) (haa : a < p.2.1.length) : impl_Plan_holds ((s, d, ()), p, (a : Int), u) () = some (holdsV p s d a, ()) := by
  have l0 := fun A : Type => links_i p s d (a : Int) hp h hd A
  have l1 := fun A : Type => room_i p s d a hp h hd ha haa A
  have l2 := fun A : Type => stocks_i p s d hp h hd ha A
  unfold impl_Plan_holds holdsV
  simp only [l0]
  rcases tf (linksV p s d (a : Int)) with q1 | q1
  · simp [q1]
  · rcases tf (roomV p s d a) with q2 | q2
    · simp [q1, q2, l1]
    · rcases tf (stocksV p s d) with q3 | q3 <;> simp [q1, q2, q3, l1, l2]
end Go.Proofs.YtafnhdfjcocpgaaGreat
