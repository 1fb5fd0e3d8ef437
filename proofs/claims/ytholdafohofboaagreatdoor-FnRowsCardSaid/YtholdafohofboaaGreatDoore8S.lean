/-
  What is proved: For all data within the bounds of the machine the law FnRows returns true and leaves its arguments alone. No condition beyond what the card ties: the listed tables of the library hold what the program's text lays.
-/
import Derived.Test.YtholdafohofboaaGreatDoore8LFnRows
import Derived.Test.YtholdafohofboaaGreatDoorRows
import Derived.Test.YtholdafohofboaaGreatDoorTie
import Derived.Test.YtholdafohofboaaGreatDoorCards
import Derived.ProofKit
import Derived.LaidMore
import Derived.OpenShut
import Derived.Stop.Joined
import Derived.Stop.LaidErr
import Derived.SevenTiedAt
import Derived.Lib.LaidTab
import Derived.WalkKit
namespace Go.Proofs.YtholdafohofboaaGreatDoor.fnRows
open Go Go.Abs Go.RowKit

theorem own : ownKnob Tryz.prog.godebug = none := by kernel_rfl
theorem laid : laidOutB Tryz.prog = true := by kernel_rfl
theorem tab_is : (Rows.laid_internal_strconv_uint64pow10 : DataW Unit) = Lib.tabData .u64 Lib.pow10Tab := by kernel_rfl
theorem door_met (os : Os) (args : Array Value) : laidMetH Tryz.prog Rows.fnRowsRow.laid ((World.doorLaid Tryz.prog 400 os).forCall (fun _ _ => 0) ⟨#[], args, []⟩).memory :=
  laidMetH_of_parts3 (fuel := 8) (laidMet_of_run' 8 (by kernel_rfl) (by kernel_rfl)) (by kernel_rfl) (by kernel_rfl)
theorem base_met (W : World) (h : laidMetH Tryz.prog Rows.fnRowsRow.laid W) : BaseOk Tryz.prog base_ W (AllP W) := by
  rw [MakeChecks.laidMetH_plain _ _ _ (by kernel_rfl)] at h
  have h3 := laidMet.tail (laidMet.tail (h))
  rw [tab_is] at h3
  have ht := Lib.tabIs_of_head (g := 3) (t := 288) (e := 273) (n := 20) (by kernel_rfl) (by kernel_rfl) Tryz.underlying288 Tryz.underlying273 (by kernel_rfl) (by kernel_rfl) h3
  intro x hx
  rw [List.mem_singleton.1 hx]
  exact varAt_of_tab (g := 3) (tab_cast ht (by kernel_rfl)) (by kernel_rfl) (by decide)

set_option maxRecDepth 100000 in
theorem lifted (os : Os) (started : os.Started) (H : Type) (enc : TypeId × Value → H) :
    ReturnsInHanded {} Tryz.checked os 8 .any (fun w args => (Rows.fnRowsSpec.pre enc Tryz.prog Tryz.f8 [] false w args ∧ laidMetH Tryz.prog Rows.fnRowsRow.laid w) ∧ sizedMet enc Tryz.prog Tryz.f8 (OpenSpec.ofChange Rows.fnRowsSpec) false w args)
      (Rows.fnRowsSpec.post enc Tryz.prog Tryz.f8 false true false false) := by
  refine returnsInHanded_of_change_and (C := Tryz.checked) (X := fun w _ => laidMetH Tryz.prog Rows.fnRowsRow.laid w) (fun _ _ _ hh h => h.of_heap hh) own started (by kernel_rfl) Tryz.func8
    (ChangeSpec.witness_shaped (enc := enc) (C := Tryz.checked) (os := os) (X := fun w _ => laidMetH Tryz.prog Rows.fnRowsRow.laid w) false (World.doorLaid Tryz.prog 400 os) #[.slice none 0 0] 16 rfl (World.shaped_of_RefB (by kernel_rfl) (by kernel_rfl)) (by kernel_rfl) (by kernel_rfl) (by kernel_rfl) (door_met os _)) ?_
  intro W base args ds gs before hval0 hW _ _ hL _
  exact law_rowB laid K_laws_FnRows L_FnRows (by as_aux_lemma => kernel_rfl) (by as_aux_lemma => kernel_rfl) rfl Tryz.underlying4 rfl (fun ds hds => by
    match ds, hds with
    | [_], _ => rfl) hval0 hW (base_met W hL) rfl

set_option maxHeartbeats 0 in
theorem row_holds : Rows.FnRowsSaid :=
  OpenClaim.holds_of_wide 8 Tryz.f8 rfl rfl rfl rfl rfl rfl rfl ⟨rfl, rfl, rfl, rfl, rfl⟩ rfl rfl rfl rfl rfl (by as_aux_lemma => kernel_rfl) Tryz.func8 (by unfold joinedFacts; simp only [Bool.and_eq_true]; (repeat' apply And.intro) <;> as_aux_lemma => kernel_rfl)
    (of_decide_eq_true (by as_aux_lemma => kernel_rfl)) (by unfold Func.isWrapper; first | (rw [if_pos (by decide +kernel)]; kernel_rfl) | (rw [if_neg (by decide +kernel)]; exact ⟨rfl, rfl⟩))
    (fun os started H enc _ => lifted os started H enc)

theorem proved : Rows.FnRowsCardSaid :=
  Claim7.holds_tied_plain_at .later [] [.data, .data, .data] true (true, "56455fecb8e2517925eaa4cbb52f19ce7828df062f21a577cb5a4e8c43cc881f") true
    row_holds (fun _ h => by cases h) (by kernel_rfl) (fun _ h => by cases h) fnRows_row_tie rfl ⟨rfl, rfl⟩ (by kernel_rfl) rfl
    (fun f fn hf hfn => by
      have hi : Tryz.prog.funcNamed Rows.fnRowsRow.func = some 8 := by kernel_rfl
      obtain rfl : f = 8 := (Option.some.inj (hi.symm.trans hf)).symm
      obtain rfl : fn = Tryz.f8 := (Option.some.inj (Tryz.func8.symm.trans hfn)).symm
      exact ⟨by kernel_rfl, fun j t ht => by
        have hps : Tryz.f8.params = #[77] := rfl
        rw [hps] at ht
        have hm : t ∈ [77] := by
          have := Array.mem_of_getElem? ht
          first | simpa using this | simpa [or_comm, or_left_comm] using this
        have hall : ([77].all fun u => !Tryz.prog.wantsStandIn u) = true := by kernel_rfl
        exact (show Tryz.prog.wantsStandIn t = false by simpa using List.all_eq_true.1 hall t hm)⟩)
    (by kernel_rfl)
end Go.Proofs.YtholdafohofboaaGreatDoor.fnRows
