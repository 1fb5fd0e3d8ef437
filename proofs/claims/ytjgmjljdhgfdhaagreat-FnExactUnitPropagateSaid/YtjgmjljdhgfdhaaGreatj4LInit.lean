/-
  Plain laws: the domain that a project begins with, in the program and in the reference. Condition: no list is longer than 2 to the 40.
-/
import Derived.Test.YtjgmjljdhgfdhaaGreatj4LProjM
import Derived.Test.YtjgmjljdhgfdhaaGreatj4LSetM
namespace Go.Proofs.YtjgmjljdhgfdhaaGreat
open Go.Abs
set_option linter.unusedVariables false
set_option linter.unusedSimpArgs false

theorem ModeIdx_s (a : D_Activity) (u : Unit) (h : a.2.2.1.length ≤ 200) : spec_ModeIndexes (a, u) () = some (iotaI a.2.2.1.length, ()) := by
  unfold spec_ModeIndexes
  simp only [lenI_eq, rangeN_s _ _ h, some_bind']
theorem ModeIdx_i (a : D_Activity) (u : Unit) (h : a.2.2.1.length ≤ 200) : impl_ModeIndexes (a, u) () = some (iotaI a.2.2.1.length, ()) := by
  unfold impl_ModeIndexes
  simp only [lenI_eq, rangeN_i, rangeN_s _ _ h, some_bind']
def initD (p : D_Project) : D_Domain := (p.2.1.map (fun _ => 0), p.2.1.map (fun _ => subZ .i64 p.1 1), p.2.1.map (fun a => iotaI a.2.2.1.length), ())
def initG (x : Int) (d : D_Domain) (a : D_Activity) : D_Domain := (d.1 ++ [0], d.2.1 ++ [x], d.2.2.1 ++ [iotaI a.2.2.1.length], ())
theorem initG_fold (x : Int) : ∀ (l : List D_Activity) (d : D_Domain), l.foldl (initG x) d = (d.1 ++ l.map (fun _ => 0), d.2.1 ++ l.map (fun _ => x), d.2.2.1 ++ l.map (fun a => iotaI a.2.2.1.length), ())
  | [], d => by simp
  | a :: l, d => by
    rw [List.foldl_cons, initG_fold x l]
    simp [initG]
def initV (p : D_Project) : D_Domain := if projB p = true then initD p else ([], [], [], ())
theorem initD_sm {p : D_Project} (h : projB p = true) {B : Nat} (hB : 6 ≤ B) : Sm_Domain B (initD p) := by
  obtain ⟨hn, hm⟩ := mode_count h
  refine ⟨⟨by simp [initD]; omega, fun _ _ => trivial⟩, ⟨by simp [initD]; omega, fun _ _ => trivial⟩, ⟨by simp [initD]; omega, fun y hy => ?_⟩, trivial⟩
  obtain ⟨a, ha, rfl⟩ := List.mem_map.1 hy
  obtain ⟨i, hi, rfl⟩ := List.mem_iff_getElem.1 ha
  have := hm i hi
  exact ⟨by rw [iotaI_length]; omega, fun _ _ => trivial⟩
end Go.Proofs.YtjgmjljdhgfdhaaGreat
