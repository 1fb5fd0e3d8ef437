/-
  What is proved: the law FnExactAllModeLists holds: the AllModeLists of the program returns what the one of the reference returns, for all arguments, and memory of its own. No condition.
-/
import Derived.Test.Ytdjajoebpdnhnaay4LAllModeLists
import Derived.Test.YtdjajoebpdnhnaaRows
import Derived.WalkKit
import Derived.WalkLawsBesides
import Derived.BigQuiet
import Derived.ProofKit
namespace Go.Proofs.Ytdjajoebpdnhnaa.fnExactAllModeLists
open Go.Abs Go.RowKit

theorem own : ownKnob Try.prog.godebug = none := by kernel_rfl
theorem laid : laidOutB Try.prog = true := by kernel_rfl

set_option maxRecDepth 100000 in
theorem lifted (os : Os) (started : os.Started) (H : Type) (enc : TypeId × Value → H) :
    ReturnsInHanded {} Try.checked os 4 .any (Rows.fnExactAllModeListsSpec.pre6 enc Try.prog Try.f4 Rows.fnExactAllModeListsRow.domain false) (Rows.fnExactAllModeListsSpec.post enc Try.prog Try.f4 false true false false) := by
  refine returnsInHanded_of_change (C := Try.checked) own started (by kernel_rfl) Try.func4
    (ChangeSpec.witness6 (enc := enc) (C := Try.checked) false ⟨#[], #[.agg #[.int .i64 0, .slice none 0 0, .slice none 0 0, .slice none 0 0, .slice none 0 0]], []⟩ 16 (by kernel_rfl) (by kernel_rfl) (by kernel_rfl) (by kernel_rfl)) ?_
  intro W base args ds gs before hval0 hW _ _
  exact law_row laid K_laws_FnExactAllModeLists L_FnExactAllModeLists (by kernel_rfl) (by kernel_rfl) rfl Try.underlying4 rfl (fun ds hds => by
    match ds, hds with
    | [_], _ => rfl) hval0 hW rfl

theorem proved : Rows.FnExactAllModeListsSaid :=
  OpenClaim.holds_of_wide 4 Try.f4 rfl rfl rfl rfl rfl rfl rfl ⟨rfl, rfl, rfl, rfl, rfl⟩ rfl rfl rfl rfl rfl (by kernel_rfl) Try.func4 (by kernel_rfl)
    (of_decide_eq_true (by kernel_rfl)) (by unfold Func.isWrapper; first | (rw [if_pos (by decide +kernel)]; kernel_rfl) | (rw [if_neg (by decide +kernel)]; exact ⟨rfl, rfl⟩))
    (fun os started H enc _ => lifted os started H enc)
end Go.Proofs.Ytdjajoebpdnhnaa.fnExactAllModeLists
