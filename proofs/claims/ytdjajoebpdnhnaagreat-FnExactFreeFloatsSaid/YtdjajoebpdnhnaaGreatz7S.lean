/-
  What is proved: For all data within the bounds of the machine the law FnExactFreeFloats returns true and leaves its arguments alone. No condition.
-/
import Derived.Test.YtdjajoebpdnhnaaGreatz7LFreeFloats
import Derived.Test.YtdjajoebpdnhnaaGreatRows
import Derived.WalkKit
import Derived.WalkLawsBesides
import Derived.BigQuiet
import Derived.ProofKit
namespace Go.Proofs.YtdjajoebpdnhnaaGreat.fnExactFreeFloats
open Go.Abs Go.RowKit

theorem own : ownKnob Tryz.prog.godebug = none := by kernel_rfl
theorem laid : laidOutB Tryz.prog = true := by kernel_rfl

set_option maxRecDepth 100000 in
theorem lifted (os : Os) (started : os.Started) (H : Type) (enc : TypeId × Value → H) :
    ReturnsInHanded {} Tryz.checked os 7 .any (Rows.fnExactFreeFloatsSpec.pre6 enc Tryz.prog Tryz.f7 Rows.fnExactFreeFloatsRow.domain false) (Rows.fnExactFreeFloatsSpec.post enc Tryz.prog Tryz.f7 false true false false) := by
  refine returnsInHanded_of_change (C := Tryz.checked) own started (by kernel_rfl) Tryz.func7
    (ChangeSpec.witness6 (enc := enc) (C := Tryz.checked) false ⟨#[], #[.agg #[.int .i64 0, .slice none 0 0, .slice none 0 0, .slice none 0 0, .slice none 0 0], .agg #[.slice none 0 0, .slice none 0 0]], []⟩ 16 (by kernel_rfl) (by kernel_rfl) (by kernel_rfl) (by kernel_rfl)) ?_
  intro W base args ds gs before hval0 hW _ _
  exact law_row laid K_laws_FnExactFreeFloats L_FnExactFreeFloats (by kernel_rfl) (by kernel_rfl) rfl Tryz.underlying4 rfl (fun ds hds => by
    match ds, hds with
    | [_, _], _ => rfl) hval0 hW rfl

theorem proved : Rows.FnExactFreeFloatsSaid :=
  OpenClaim.holds_of_wide 7 Tryz.f7 rfl rfl rfl rfl rfl rfl rfl ⟨rfl, rfl, rfl, rfl, rfl⟩ rfl rfl rfl rfl rfl (by kernel_rfl) Tryz.func7 (by kernel_rfl)
    (of_decide_eq_true (by kernel_rfl)) (by unfold Func.isWrapper; first | (rw [if_pos (by decide +kernel)]; kernel_rfl) | (rw [if_neg (by decide +kernel)]; exact ⟨rfl, rfl⟩))
    (fun os started H enc _ => lifted os started H enc)
end Go.Proofs.YtdjajoebpdnhnaaGreat.fnExactFreeFloats
