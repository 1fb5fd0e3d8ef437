/-
  The functions of this seat as plain Lean functions, and that the program computes them. No condition.
-/
import Derived.Test.YtooohimfepookaaN28
import Derived.Test.YtooohimfepookaaProg
import Derived.KernelRfl
namespace Go.Proofs.Ytooohimfepookaa
open Go.Abs
set_option linter.unusedVariables false
set_option maxRecDepth 100000
theorem tn3 : TnOk Try.prog 3 (.int .i64) := ⟨Try.underlying3, Try.t3, rfl, rfl, fun _ _ => rfl⟩
theorem tn4 : TnOk Try.prog 4 (.bool) := ⟨Try.underlying4, Try.t4, rfl, rfl, fun _ _ => rfl⟩
theorem tn23 : TnOk Try.prog 23 (.fn [.int .i64] (.bool)) := ⟨⟨_, _, _, Try.underlying23⟩, Try.t23, rfl, rfl, fun _ h => by cases h⟩
theorem tn24 : TnOk Try.prog 24 (.sl 3 (.int .i64)) := ⟨⟨Try.underlying24, Try.t3, _, rfl, rfl, rfl, rfl, by decide, by decide, fun _ _ => rfl, fun k h => by cases h; exact Try.underlying3⟩, Try.t24, rfl, rfl, fun _ _ => rfl⟩
theorem tn25 : TnOk Try.prog 25 (.st [.sl 3 (.int .i64), .sl 3 (.int .i64)]) := ⟨⟨_, Try.underlying25, Try.eqGuardType25, Try.stoodInHeld25, rfl, fun j τ h => by
    cases j with
    | zero => cases h; exact ⟨_, _, rfl, rfl, by decide, by decide, Try.underlying24, rfl, fun us h => by cases h⟩
    | succ j =>
     cases j with
     | zero => cases h; exact ⟨_, _, rfl, rfl, by decide, by decide, Try.underlying24, rfl, fun us h => by cases h⟩
     | succ j =>
      cases h⟩, Try.t25, rfl, rfl, fun _ _ => rfl⟩
theorem tn26 : TnOk Try.prog 26 (.st [.sl 3 (.int .i64), .sl 3 (.int .i64)]) := ⟨⟨_, Try.underlying26, Try.eqGuardType26, Try.stoodInHeld26, rfl, fun j τ h => by
    cases j with
    | zero => cases h; exact ⟨_, _, rfl, rfl, by decide, by decide, Try.underlying24, rfl, fun us h => by cases h⟩
    | succ j =>
     cases j with
     | zero => cases h; exact ⟨_, _, rfl, rfl, by decide, by decide, Try.underlying24, rfl, fun us h => by cases h⟩
     | succ j =>
      cases h⟩, Try.t26, rfl, rfl, fun _ _ => rfl⟩
theorem tn27 : TnOk Try.prog 27 (.fn [.st [.sl 3 (.int .i64), .sl 3 (.int .i64)], .int .i64] (.int .i64)) := ⟨⟨_, _, _, Try.underlying27⟩, Try.t27, rfl, rfl, fun _ h => by cases h⟩
theorem tn28 : TnOk Try.prog 28 (.fn [.st [.sl 3 (.int .i64), .sl 3 (.int .i64)], .st [.sl 3 (.int .i64), .sl 3 (.int .i64)]] (.int .i64)) := ⟨⟨_, _, _, Try.underlying28⟩, Try.t28, rfl, rfl, fun _ h => by cases h⟩
theorem tn29 : TnOk Try.prog 29 (.st [.sl 3 (.int .i64), .sl 3 (.int .i64)]) := ⟨⟨_, Try.underlying29, Try.eqGuardType29, Try.stoodInHeld29, rfl, fun j τ h => by
    cases j with
    | zero => cases h; exact ⟨_, _, rfl, rfl, by decide, by decide, Try.underlying24, rfl, fun us h => by cases h⟩
    | succ j =>
     cases j with
     | zero => cases h; exact ⟨_, _, rfl, rfl, by decide, by decide, Try.underlying24, rfl, fun us h => by cases h⟩
     | succ j =>
      cases h⟩, Try.t29, rfl, rfl, fun _ _ => rfl⟩
theorem tn30 : TnOk Try.prog 30 (.fn [.st [.sl 3 (.int .i64), .sl 3 (.int .i64)]] (.st [.sl 3 (.int .i64), .sl 3 (.int .i64)])) := ⟨⟨_, _, _, Try.underlying30⟩, Try.t30, rfl, rfl, fun _ h => by cases h⟩
theorem tn31 : TnOk Try.prog 31 (.fn [.st [.sl 3 (.int .i64), .sl 3 (.int .i64)], .st [.sl 3 (.int .i64), .sl 3 (.int .i64)]] (.bool)) := ⟨⟨_, _, _, Try.underlying31⟩, Try.t31, rfl, rfl, fun _ h => by cases h⟩
theorem tn32 : TnOk Try.prog 32 (.fn [.st [.sl 3 (.int .i64), .sl 3 (.int .i64)], .st [.sl 3 (.int .i64), .sl 3 (.int .i64)]] (.bool)) := ⟨⟨_, _, _, Try.underlying32⟩, Try.t32, rfl, rfl, fun _ h => by cases h⟩
theorem tn33 : TnOk Try.prog 33 (.fn [.st [.sl 3 (.int .i64), .sl 3 (.int .i64)], .int .i64] (.sl 3 (.int .i64))) := ⟨⟨_, _, _, Try.underlying33⟩, Try.t33, rfl, rfl, fun _ h => by cases h⟩
theorem tn34 : TnOk Try.prog 34 (.fn [.sl 3 (.int .i64), .sl 3 (.int .i64)] (.bool)) := ⟨⟨_, _, _, Try.underlying34⟩, Try.t34, rfl, rfl, fun _ h => by cases h⟩
theorem tn35 : TnOk Try.prog 35 (.fn [.st [.sl 3 (.int .i64), .sl 3 (.int .i64)], .int .i64] (.int .i64)) := ⟨⟨_, _, _, Try.underlying35⟩, Try.t35, rfl, rfl, fun _ h => by cases h⟩
theorem tn36 : TnOk Try.prog 36 (.fn [.sl 3 (.int .i64), .int .i64] (.int .i64)) := ⟨⟨_, _, _, Try.underlying36⟩, Try.t36, rfl, rfl, fun _ h => by cases h⟩
theorem tn37 : TnOk Try.prog 37 (.fn [.st [.sl 3 (.int .i64), .sl 3 (.int .i64)], .int .i64] (.bool)) := ⟨⟨_, _, _, Try.underlying37⟩, Try.t37, rfl, rfl, fun _ h => by cases h⟩
theorem tn38 : TnOk Try.prog 38 (.fn [.st [.sl 3 (.int .i64), .sl 3 (.int .i64)], .st [.sl 3 (.int .i64), .sl 3 (.int .i64)], .int .i64] (.bool)) := ⟨⟨_, _, _, Try.underlying38⟩, Try.t38, rfl, rfl, fun _ h => by cases h⟩
theorem tn39 : TnOk Try.prog 39 (.fn [.st [.sl 3 (.int .i64), .sl 3 (.int .i64)], .st [.sl 3 (.int .i64), .sl 3 (.int .i64)], .int .i64] (.bool)) := ⟨⟨_, _, _, Try.underlying39⟩, Try.t39, rfl, rfl, fun _ h => by cases h⟩
theorem tn40 : TnOk Try.prog 40 (.sl 66 (.st [.int .i64, .st [.int .i64, .int .i64, .int .i64, .int .i64], .sl 81 (.st [.int .i64, .int .i64, .int .i64])])) := ⟨⟨Try.underlying40, Try.t66, _, rfl, rfl, rfl, rfl, by decide, by decide, fun _ _ => rfl, fun k h => by cases h⟩, Try.t40, rfl, rfl, fun _ _ => rfl⟩
theorem tn41 : TnOk Try.prog 41 (.st [.int .i64, .st [.sl 3 (.int .i64), .sl 3 (.int .i64)], .int .i64, .int .i64, .sl 66 (.st [.int .i64, .st [.int .i64, .int .i64, .int .i64, .int .i64], .sl 81 (.st [.int .i64, .int .i64, .int .i64])]), .int .i64]) := ⟨⟨_, Try.underlying41, Try.eqGuardType41, Try.stoodInHeld41, rfl, fun j τ h => by
    cases j with
    | zero => cases h; exact ⟨_, _, rfl, rfl, by decide, by decide, Try.underlying3, rfl, fun us h => by cases h⟩
    | succ j =>
     cases j with
     | zero => cases h; exact ⟨_, _, rfl, rfl, by decide, by decide, Try.underlying26, rfl, ⟨_, rfl⟩⟩
     | succ j =>
      cases j with
      | zero => cases h; exact ⟨_, _, rfl, rfl, by decide, by decide, Try.underlying3, rfl, fun us h => by cases h⟩
      | succ j =>
       cases j with
       | zero => cases h; exact ⟨_, _, rfl, rfl, by decide, by decide, Try.underlying3, rfl, fun us h => by cases h⟩
       | succ j =>
        cases j with
        | zero => cases h; exact ⟨_, _, rfl, rfl, by decide, by decide, Try.underlying40, rfl, fun us h => by cases h⟩
        | succ j =>
         cases j with
         | zero => cases h; exact ⟨_, _, rfl, rfl, by decide, by decide, Try.underlying3, rfl, fun us h => by cases h⟩
         | succ j =>
          cases h⟩, Try.t41, rfl, rfl, fun _ _ => rfl⟩
theorem tn42 : TnOk Try.prog 42 (.st [.int .i64, .st [.sl 3 (.int .i64), .sl 3 (.int .i64)], .int .i64, .int .i64, .sl 66 (.st [.int .i64, .st [.int .i64, .int .i64, .int .i64, .int .i64], .sl 81 (.st [.int .i64, .int .i64, .int .i64])]), .int .i64]) := ⟨⟨_, Try.underlying42, Try.eqGuardType42, Try.stoodInHeld42, rfl, fun j τ h => by
    cases j with
    | zero => cases h; exact ⟨_, _, rfl, rfl, by decide, by decide, Try.underlying3, rfl, fun us h => by cases h⟩
    | succ j =>
     cases j with
     | zero => cases h; exact ⟨_, _, rfl, rfl, by decide, by decide, Try.underlying26, rfl, ⟨_, rfl⟩⟩
     | succ j =>
      cases j with
      | zero => cases h; exact ⟨_, _, rfl, rfl, by decide, by decide, Try.underlying3, rfl, fun us h => by cases h⟩
      | succ j =>
       cases j with
       | zero => cases h; exact ⟨_, _, rfl, rfl, by decide, by decide, Try.underlying3, rfl, fun us h => by cases h⟩
       | succ j =>
        cases j with
        | zero => cases h; exact ⟨_, _, rfl, rfl, by decide, by decide, Try.underlying40, rfl, fun us h => by cases h⟩
        | succ j =>
         cases j with
         | zero => cases h; exact ⟨_, _, rfl, rfl, by decide, by decide, Try.underlying3, rfl, fun us h => by cases h⟩
         | succ j =>
          cases h⟩, Try.t42, rfl, rfl, fun _ _ => rfl⟩
theorem tn43 : TnOk Try.prog 43 (.fn [.st [.int .i64, .st [.sl 3 (.int .i64), .sl 3 (.int .i64)], .int .i64, .int .i64, .sl 66 (.st [.int .i64, .st [.int .i64, .int .i64, .int .i64, .int .i64], .sl 81 (.st [.int .i64, .int .i64, .int .i64])]), .int .i64], .int .i64] (.int .i64)) := ⟨⟨_, _, _, Try.underlying43⟩, Try.t43, rfl, rfl, fun _ h => by cases h⟩
theorem tn44 : TnOk Try.prog 44 (.fn [.st [.int .i64, .st [.sl 3 (.int .i64), .sl 3 (.int .i64)], .int .i64, .int .i64, .sl 70 (.st [.int .i64, .st [.int .i64, .int .i64, .int .i64, .int .i64], .sl 79 (.st [.int .i64, .int .i64, .int .i64])]), .int .i64]] (.int .i64)) := ⟨⟨_, _, _, Try.underlying44⟩, Try.t44, rfl, rfl, fun _ h => by cases h⟩
theorem tn45 : TnOk Try.prog 45 (.sl 70 (.st [.int .i64, .st [.int .i64, .int .i64, .int .i64, .int .i64], .sl 79 (.st [.int .i64, .int .i64, .int .i64])])) := ⟨⟨Try.underlying45, Try.t70, _, rfl, rfl, rfl, rfl, by decide, by decide, fun _ _ => rfl, fun k h => by cases h⟩, Try.t45, rfl, rfl, fun _ _ => rfl⟩
theorem tn46 : TnOk Try.prog 46 (.st [.int .i64, .st [.sl 3 (.int .i64), .sl 3 (.int .i64)], .int .i64, .int .i64, .sl 70 (.st [.int .i64, .st [.int .i64, .int .i64, .int .i64, .int .i64], .sl 79 (.st [.int .i64, .int .i64, .int .i64])]), .int .i64]) := ⟨⟨_, Try.underlying46, Try.eqGuardType46, Try.stoodInHeld46, rfl, fun j τ h => by
    cases j with
    | zero => cases h; exact ⟨_, _, rfl, rfl, by decide, by decide, Try.underlying3, rfl, fun us h => by cases h⟩
    | succ j =>
     cases j with
     | zero => cases h; exact ⟨_, _, rfl, rfl, by decide, by decide, Try.underlying29, rfl, ⟨_, rfl⟩⟩
     | succ j =>
      cases j with
      | zero => cases h; exact ⟨_, _, rfl, rfl, by decide, by decide, Try.underlying3, rfl, fun us h => by cases h⟩
      | succ j =>
       cases j with
       | zero => cases h; exact ⟨_, _, rfl, rfl, by decide, by decide, Try.underlying3, rfl, fun us h => by cases h⟩
       | succ j =>
        cases j with
        | zero => cases h; exact ⟨_, _, rfl, rfl, by decide, by decide, Try.underlying45, rfl, fun us h => by cases h⟩
        | succ j =>
         cases j with
         | zero => cases h; exact ⟨_, _, rfl, rfl, by decide, by decide, Try.underlying3, rfl, fun us h => by cases h⟩
         | succ j =>
          cases h⟩, Try.t46, rfl, rfl, fun _ _ => rfl⟩
theorem tn47 : TnOk Try.prog 47 (.st [.int .i64, .st [.sl 3 (.int .i64), .sl 3 (.int .i64)], .int .i64, .int .i64, .sl 70 (.st [.int .i64, .st [.int .i64, .int .i64, .int .i64, .int .i64], .sl 79 (.st [.int .i64, .int .i64, .int .i64])]), .int .i64]) := ⟨⟨_, Try.underlying47, Try.eqGuardType47, Try.stoodInHeld47, rfl, fun j τ h => by
    cases j with
    | zero => cases h; exact ⟨_, _, rfl, rfl, by decide, by decide, Try.underlying3, rfl, fun us h => by cases h⟩
    | succ j =>
     cases j with
     | zero => cases h; exact ⟨_, _, rfl, rfl, by decide, by decide, Try.underlying29, rfl, ⟨_, rfl⟩⟩
     | succ j =>
      cases j with
      | zero => cases h; exact ⟨_, _, rfl, rfl, by decide, by decide, Try.underlying3, rfl, fun us h => by cases h⟩
      | succ j =>
       cases j with
       | zero => cases h; exact ⟨_, _, rfl, rfl, by decide, by decide, Try.underlying3, rfl, fun us h => by cases h⟩
       | succ j =>
        cases j with
        | zero => cases h; exact ⟨_, _, rfl, rfl, by decide, by decide, Try.underlying45, rfl, fun us h => by cases h⟩
        | succ j =>
         cases j with
         | zero => cases h; exact ⟨_, _, rfl, rfl, by decide, by decide, Try.underlying3, rfl, fun us h => by cases h⟩
         | succ j =>
          cases h⟩, Try.t47, rfl, rfl, fun _ _ => rfl⟩
theorem tn48 : TnOk Try.prog 48 (.fn [.st [.int .i64, .st [.sl 3 (.int .i64), .sl 3 (.int .i64)], .int .i64, .int .i64, .sl 66 (.st [.int .i64, .st [.int .i64, .int .i64, .int .i64, .int .i64], .sl 81 (.st [.int .i64, .int .i64, .int .i64])]), .int .i64]] (.st [.int .i64, .st [.sl 3 (.int .i64), .sl 3 (.int .i64)], .int .i64, .int .i64, .sl 70 (.st [.int .i64, .st [.int .i64, .int .i64, .int .i64, .int .i64], .sl 79 (.st [.int .i64, .int .i64, .int .i64])]), .int .i64])) := ⟨⟨_, _, _, Try.underlying48⟩, Try.t48, rfl, rfl, fun _ h => by cases h⟩
theorem tn49 : TnOk Try.prog 49 (.fn [.st [.int .i64, .st [.sl 3 (.int .i64), .sl 3 (.int .i64)], .int .i64, .int .i64, .sl 70 (.st [.int .i64, .st [.int .i64, .int .i64, .int .i64, .int .i64], .sl 79 (.st [.int .i64, .int .i64, .int .i64])]), .int .i64], .st [.int .i64, .st [.sl 3 (.int .i64), .sl 3 (.int .i64)], .int .i64, .int .i64, .sl 70 (.st [.int .i64, .st [.int .i64, .int .i64, .int .i64, .int .i64], .sl 79 (.st [.int .i64, .int .i64, .int .i64])]), .int .i64]] (.bool)) := ⟨⟨_, _, _, Try.underlying49⟩, Try.t49, rfl, rfl, fun _ h => by cases h⟩
theorem tn50 : TnOk Try.prog 50 (.fn [.st [.int .i64, .st [.sl 3 (.int .i64), .sl 3 (.int .i64)], .int .i64, .int .i64, .sl 66 (.st [.int .i64, .st [.int .i64, .int .i64, .int .i64, .int .i64], .sl 81 (.st [.int .i64, .int .i64, .int .i64])]), .int .i64]] (.bool)) := ⟨⟨_, _, _, Try.underlying50⟩, Try.t50, rfl, rfl, fun _ h => by cases h⟩
theorem tn51 : TnOk Try.prog 51 (.fn [.int .i64, .int .i64, .int .i64] (.bool)) := ⟨⟨_, _, _, Try.underlying51⟩, Try.t51, rfl, rfl, fun _ h => by cases h⟩
theorem tn54 : TnOk Try.prog 54 (.fn [.int .i64, .int .i64] (.int .i64)) := ⟨⟨_, _, _, Try.underlying54⟩, Try.t54, rfl, rfl, fun _ h => by cases h⟩
theorem tn55 : TnOk Try.prog 55 (.fn [.sl 3 (.int .i64)] (.sl 3 (.int .i64))) := ⟨⟨_, _, _, Try.underlying55⟩, Try.t55, rfl, rfl, fun _ h => by cases h⟩
theorem tn56 : TnOk Try.prog 56 (.fn [.sl 3 (.int .i64), .fn [.int .i64] (.bool)] (.bool)) := ⟨⟨_, _, _, Try.underlying56⟩, Try.t56, rfl, rfl, fun _ h => by cases h⟩
theorem tn57 : TnOk Try.prog 57 (.fn [.sl 66 (.st [.int .i64, .st [.int .i64, .int .i64, .int .i64, .int .i64], .sl 81 (.st [.int .i64, .int .i64, .int .i64])]), .int .i64] (.int .i64)) := ⟨⟨_, _, _, Try.underlying57⟩, Try.t57, rfl, rfl, fun _ h => by cases h⟩
theorem tn58 : TnOk Try.prog 58 (.fn [.sl 66 (.st [.int .i64, .st [.int .i64, .int .i64, .int .i64, .int .i64], .sl 81 (.st [.int .i64, .int .i64, .int .i64])])] (.sl 70 (.st [.int .i64, .st [.int .i64, .int .i64, .int .i64, .int .i64], .sl 79 (.st [.int .i64, .int .i64, .int .i64])]))) := ⟨⟨_, _, _, Try.underlying58⟩, Try.t58, rfl, rfl, fun _ h => by cases h⟩
theorem tn59 : TnOk Try.prog 59 (.fn [.sl 70 (.st [.int .i64, .st [.int .i64, .int .i64, .int .i64, .int .i64], .sl 79 (.st [.int .i64, .int .i64, .int .i64])]), .sl 70 (.st [.int .i64, .st [.int .i64, .int .i64, .int .i64, .int .i64], .sl 79 (.st [.int .i64, .int .i64, .int .i64])])] (.bool)) := ⟨⟨_, _, _, Try.underlying59⟩, Try.t59, rfl, rfl, fun _ h => by cases h⟩
theorem tn60 : TnOk Try.prog 60 (.fn [.sl 3 (.int .i64), .fn [.int .i64] (.bool)] (.int .i64)) := ⟨⟨_, _, _, Try.underlying60⟩, Try.t60, rfl, rfl, fun _ h => by cases h⟩
theorem tn61 : TnOk Try.prog 61 (.fn [.st [.int .i64, .st [.int .i64, .int .i64, .int .i64, .int .i64], .sl 81 (.st [.int .i64, .int .i64, .int .i64])], .int .i64] (.int .i64)) := ⟨⟨_, _, _, Try.underlying61⟩, Try.t61, rfl, rfl, fun _ h => by cases h⟩
theorem tn62 : TnOk Try.prog 62 (.st [.int .i64, .int .i64, .int .i64, .int .i64]) := ⟨⟨_, Try.underlying62, Try.eqGuardType62, Try.stoodInHeld62, rfl, fun j τ h => by
    cases j with
    | zero => cases h; exact ⟨_, _, rfl, rfl, by decide, by decide, Try.underlying3, rfl, fun us h => by cases h⟩
    | succ j =>
     cases j with
     | zero => cases h; exact ⟨_, _, rfl, rfl, by decide, by decide, Try.underlying3, rfl, fun us h => by cases h⟩
     | succ j =>
      cases j with
      | zero => cases h; exact ⟨_, _, rfl, rfl, by decide, by decide, Try.underlying3, rfl, fun us h => by cases h⟩
      | succ j =>
       cases j with
       | zero => cases h; exact ⟨_, _, rfl, rfl, by decide, by decide, Try.underlying3, rfl, fun us h => by cases h⟩
       | succ j =>
        cases h⟩, Try.t62, rfl, rfl, fun _ _ => rfl⟩
theorem tn63 : TnOk Try.prog 63 (.st [.int .i64, .int .i64, .int .i64, .int .i64]) := ⟨⟨_, Try.underlying63, Try.eqGuardType63, Try.stoodInHeld63, rfl, fun j τ h => by
    cases j with
    | zero => cases h; exact ⟨_, _, rfl, rfl, by decide, by decide, Try.underlying3, rfl, fun us h => by cases h⟩
    | succ j =>
     cases j with
     | zero => cases h; exact ⟨_, _, rfl, rfl, by decide, by decide, Try.underlying3, rfl, fun us h => by cases h⟩
     | succ j =>
      cases j with
      | zero => cases h; exact ⟨_, _, rfl, rfl, by decide, by decide, Try.underlying3, rfl, fun us h => by cases h⟩
      | succ j =>
       cases j with
       | zero => cases h; exact ⟨_, _, rfl, rfl, by decide, by decide, Try.underlying3, rfl, fun us h => by cases h⟩
       | succ j =>
        cases h⟩, Try.t63, rfl, rfl, fun _ _ => rfl⟩
theorem tn64 : TnOk Try.prog 64 (.sl 81 (.st [.int .i64, .int .i64, .int .i64])) := ⟨⟨Try.underlying64, Try.t81, _, rfl, rfl, rfl, rfl, by decide, by decide, fun _ _ => rfl, fun k h => by cases h⟩, Try.t64, rfl, rfl, fun _ _ => rfl⟩
theorem tn65 : TnOk Try.prog 65 (.st [.int .i64, .st [.int .i64, .int .i64, .int .i64, .int .i64], .sl 81 (.st [.int .i64, .int .i64, .int .i64])]) := ⟨⟨_, Try.underlying65, Try.eqGuardType65, Try.stoodInHeld65, rfl, fun j τ h => by
    cases j with
    | zero => cases h; exact ⟨_, _, rfl, rfl, by decide, by decide, Try.underlying3, rfl, fun us h => by cases h⟩
    | succ j =>
     cases j with
     | zero => cases h; exact ⟨_, _, rfl, rfl, by decide, by decide, Try.underlying63, rfl, ⟨_, rfl⟩⟩
     | succ j =>
      cases j with
      | zero => cases h; exact ⟨_, _, rfl, rfl, by decide, by decide, Try.underlying64, rfl, fun us h => by cases h⟩
      | succ j =>
       cases h⟩, Try.t65, rfl, rfl, fun _ _ => rfl⟩
theorem tn66 : TnOk Try.prog 66 (.st [.int .i64, .st [.int .i64, .int .i64, .int .i64, .int .i64], .sl 81 (.st [.int .i64, .int .i64, .int .i64])]) := ⟨⟨_, Try.underlying66, Try.eqGuardType66, Try.stoodInHeld66, rfl, fun j τ h => by
    cases j with
    | zero => cases h; exact ⟨_, _, rfl, rfl, by decide, by decide, Try.underlying3, rfl, fun us h => by cases h⟩
    | succ j =>
     cases j with
     | zero => cases h; exact ⟨_, _, rfl, rfl, by decide, by decide, Try.underlying63, rfl, ⟨_, rfl⟩⟩
     | succ j =>
      cases j with
      | zero => cases h; exact ⟨_, _, rfl, rfl, by decide, by decide, Try.underlying64, rfl, fun us h => by cases h⟩
      | succ j =>
       cases h⟩, Try.t66, rfl, rfl, fun _ _ => rfl⟩
theorem tn67 : TnOk Try.prog 67 (.st [.int .i64, .int .i64, .int .i64, .int .i64]) := ⟨⟨_, Try.underlying67, Try.eqGuardType67, Try.stoodInHeld67, rfl, fun j τ h => by
    cases j with
    | zero => cases h; exact ⟨_, _, rfl, rfl, by decide, by decide, Try.underlying3, rfl, fun us h => by cases h⟩
    | succ j =>
     cases j with
     | zero => cases h; exact ⟨_, _, rfl, rfl, by decide, by decide, Try.underlying3, rfl, fun us h => by cases h⟩
     | succ j =>
      cases j with
      | zero => cases h; exact ⟨_, _, rfl, rfl, by decide, by decide, Try.underlying3, rfl, fun us h => by cases h⟩
      | succ j =>
       cases j with
       | zero => cases h; exact ⟨_, _, rfl, rfl, by decide, by decide, Try.underlying3, rfl, fun us h => by cases h⟩
       | succ j =>
        cases h⟩, Try.t67, rfl, rfl, fun _ _ => rfl⟩
theorem tn68 : TnOk Try.prog 68 (.sl 79 (.st [.int .i64, .int .i64, .int .i64])) := ⟨⟨Try.underlying68, Try.t79, _, rfl, rfl, rfl, rfl, by decide, by decide, fun _ _ => rfl, fun k h => by cases h⟩, Try.t68, rfl, rfl, fun _ _ => rfl⟩
theorem tn69 : TnOk Try.prog 69 (.st [.int .i64, .st [.int .i64, .int .i64, .int .i64, .int .i64], .sl 79 (.st [.int .i64, .int .i64, .int .i64])]) := ⟨⟨_, Try.underlying69, Try.eqGuardType69, Try.stoodInHeld69, rfl, fun j τ h => by
    cases j with
    | zero => cases h; exact ⟨_, _, rfl, rfl, by decide, by decide, Try.underlying3, rfl, fun us h => by cases h⟩
    | succ j =>
     cases j with
     | zero => cases h; exact ⟨_, _, rfl, rfl, by decide, by decide, Try.underlying67, rfl, ⟨_, rfl⟩⟩
     | succ j =>
      cases j with
      | zero => cases h; exact ⟨_, _, rfl, rfl, by decide, by decide, Try.underlying68, rfl, fun us h => by cases h⟩
      | succ j =>
       cases h⟩, Try.t69, rfl, rfl, fun _ _ => rfl⟩
theorem tn70 : TnOk Try.prog 70 (.st [.int .i64, .st [.int .i64, .int .i64, .int .i64, .int .i64], .sl 79 (.st [.int .i64, .int .i64, .int .i64])]) := ⟨⟨_, Try.underlying70, Try.eqGuardType70, Try.stoodInHeld70, rfl, fun j τ h => by
    cases j with
    | zero => cases h; exact ⟨_, _, rfl, rfl, by decide, by decide, Try.underlying3, rfl, fun us h => by cases h⟩
    | succ j =>
     cases j with
     | zero => cases h; exact ⟨_, _, rfl, rfl, by decide, by decide, Try.underlying67, rfl, ⟨_, rfl⟩⟩
     | succ j =>
      cases j with
      | zero => cases h; exact ⟨_, _, rfl, rfl, by decide, by decide, Try.underlying68, rfl, fun us h => by cases h⟩
      | succ j =>
       cases h⟩, Try.t70, rfl, rfl, fun _ _ => rfl⟩
theorem tn71 : TnOk Try.prog 71 (.fn [.st [.int .i64, .st [.int .i64, .int .i64, .int .i64, .int .i64], .sl 81 (.st [.int .i64, .int .i64, .int .i64])]] (.st [.int .i64, .st [.int .i64, .int .i64, .int .i64, .int .i64], .sl 79 (.st [.int .i64, .int .i64, .int .i64])])) := ⟨⟨_, _, _, Try.underlying71⟩, Try.t71, rfl, rfl, fun _ h => by cases h⟩
theorem tn72 : TnOk Try.prog 72 (.fn [.st [.int .i64, .st [.int .i64, .int .i64, .int .i64, .int .i64], .sl 79 (.st [.int .i64, .int .i64, .int .i64])], .st [.int .i64, .st [.int .i64, .int .i64, .int .i64, .int .i64], .sl 79 (.st [.int .i64, .int .i64, .int .i64])]] (.bool)) := ⟨⟨_, _, _, Try.underlying72⟩, Try.t72, rfl, rfl, fun _ h => by cases h⟩
theorem tn73 : TnOk Try.prog 73 (.fn [.sl 81 (.st [.int .i64, .int .i64, .int .i64]), .int .i64] (.int .i64)) := ⟨⟨_, _, _, Try.underlying73⟩, Try.t73, rfl, rfl, fun _ h => by cases h⟩
theorem tn74 : TnOk Try.prog 74 (.fn [.st [.int .i64, .int .i64, .int .i64, .int .i64]] (.st [.int .i64, .int .i64, .int .i64, .int .i64])) := ⟨⟨_, _, _, Try.underlying74⟩, Try.t74, rfl, rfl, fun _ h => by cases h⟩
theorem tn75 : TnOk Try.prog 75 (.fn [.sl 81 (.st [.int .i64, .int .i64, .int .i64])] (.sl 79 (.st [.int .i64, .int .i64, .int .i64]))) := ⟨⟨_, _, _, Try.underlying75⟩, Try.t75, rfl, rfl, fun _ h => by cases h⟩
theorem tn76 : TnOk Try.prog 76 (.fn [.st [.int .i64, .int .i64, .int .i64, .int .i64], .st [.int .i64, .int .i64, .int .i64, .int .i64]] (.bool)) := ⟨⟨_, _, _, Try.underlying76⟩, Try.t76, rfl, rfl, fun _ h => by cases h⟩
theorem tn77 : TnOk Try.prog 77 (.fn [.sl 79 (.st [.int .i64, .int .i64, .int .i64]), .sl 79 (.st [.int .i64, .int .i64, .int .i64])] (.bool)) := ⟨⟨_, _, _, Try.underlying77⟩, Try.t77, rfl, rfl, fun _ h => by cases h⟩
theorem tn78 : TnOk Try.prog 78 (.st [.int .i64, .int .i64, .int .i64]) := ⟨⟨_, Try.underlying78, Try.eqGuardType78, Try.stoodInHeld78, rfl, fun j τ h => by
    cases j with
    | zero => cases h; exact ⟨_, _, rfl, rfl, by decide, by decide, Try.underlying3, rfl, fun us h => by cases h⟩
    | succ j =>
     cases j with
     | zero => cases h; exact ⟨_, _, rfl, rfl, by decide, by decide, Try.underlying3, rfl, fun us h => by cases h⟩
     | succ j =>
      cases j with
      | zero => cases h; exact ⟨_, _, rfl, rfl, by decide, by decide, Try.underlying3, rfl, fun us h => by cases h⟩
      | succ j =>
       cases h⟩, Try.t78, rfl, rfl, fun _ _ => rfl⟩
theorem tn79 : TnOk Try.prog 79 (.st [.int .i64, .int .i64, .int .i64]) := ⟨⟨_, Try.underlying79, Try.eqGuardType79, Try.stoodInHeld79, rfl, fun j τ h => by
    cases j with
    | zero => cases h; exact ⟨_, _, rfl, rfl, by decide, by decide, Try.underlying3, rfl, fun us h => by cases h⟩
    | succ j =>
     cases j with
     | zero => cases h; exact ⟨_, _, rfl, rfl, by decide, by decide, Try.underlying3, rfl, fun us h => by cases h⟩
     | succ j =>
      cases j with
      | zero => cases h; exact ⟨_, _, rfl, rfl, by decide, by decide, Try.underlying3, rfl, fun us h => by cases h⟩
      | succ j =>
       cases h⟩, Try.t79, rfl, rfl, fun _ _ => rfl⟩
theorem tn80 : TnOk Try.prog 80 (.fn [.st [.int .i64, .int .i64, .int .i64]] (.st [.int .i64, .int .i64, .int .i64])) := ⟨⟨_, _, _, Try.underlying80⟩, Try.t80, rfl, rfl, fun _ h => by cases h⟩
theorem tn81 : TnOk Try.prog 81 (.st [.int .i64, .int .i64, .int .i64]) := ⟨⟨_, Try.underlying81, Try.eqGuardType81, Try.stoodInHeld81, rfl, fun j τ h => by
    cases j with
    | zero => cases h; exact ⟨_, _, rfl, rfl, by decide, by decide, Try.underlying3, rfl, fun us h => by cases h⟩
    | succ j =>
     cases j with
     | zero => cases h; exact ⟨_, _, rfl, rfl, by decide, by decide, Try.underlying3, rfl, fun us h => by cases h⟩
     | succ j =>
      cases j with
      | zero => cases h; exact ⟨_, _, rfl, rfl, by decide, by decide, Try.underlying3, rfl, fun us h => by cases h⟩
      | succ j =>
       cases h⟩, Try.t81, rfl, rfl, fun _ _ => rfl⟩
theorem tn82 : TnOk Try.prog 82 (.fn [.st [.int .i64, .int .i64, .int .i64], .st [.int .i64, .int .i64, .int .i64]] (.bool)) := ⟨⟨_, _, _, Try.underlying82⟩, Try.t82, rfl, rfl, fun _ h => by cases h⟩
def tys : List (Nat × Ty) := [(3, .int .i64), (4, .bool), (23, .fn [.int .i64] (.bool)), (24, .sl 3 (.int .i64)), (25, .st [.sl 3 (.int .i64), .sl 3 (.int .i64)]), (26, .st [.sl 3 (.int .i64), .sl 3 (.int .i64)]), (27, .fn [.st [.sl 3 (.int .i64), .sl 3 (.int .i64)], .int .i64] (.int .i64)), (28, .fn [.st [.sl 3 (.int .i64), .sl 3 (.int .i64)], .st [.sl 3 (.int .i64), .sl 3 (.int .i64)]] (.int .i64)), (29, .st [.sl 3 (.int .i64), .sl 3 (.int .i64)]), (30, .fn [.st [.sl 3 (.int .i64), .sl 3 (.int .i64)]] (.st [.sl 3 (.int .i64), .sl 3 (.int .i64)])), (31, .fn [.st [.sl 3 (.int .i64), .sl 3 (.int .i64)], .st [.sl 3 (.int .i64), .sl 3 (.int .i64)]] (.bool)), (32, .fn [.st [.sl 3 (.int .i64), .sl 3 (.int .i64)], .st [.sl 3 (.int .i64), .sl 3 (.int .i64)]] (.bool)), (33, .fn [.st [.sl 3 (.int .i64), .sl 3 (.int .i64)], .int .i64] (.sl 3 (.int .i64))), (34, .fn [.sl 3 (.int .i64), .sl 3 (.int .i64)] (.bool)), (35, .fn [.st [.sl 3 (.int .i64), .sl 3 (.int .i64)], .int .i64] (.int .i64)), (36, .fn [.sl 3 (.int .i64), .int .i64] (.int .i64)), (37, .fn [.st [.sl 3 (.int .i64), .sl 3 (.int .i64)], .int .i64] (.bool)), (38, .fn [.st [.sl 3 (.int .i64), .sl 3 (.int .i64)], .st [.sl 3 (.int .i64), .sl 3 (.int .i64)], .int .i64] (.bool)), (39, .fn [.st [.sl 3 (.int .i64), .sl 3 (.int .i64)], .st [.sl 3 (.int .i64), .sl 3 (.int .i64)], .int .i64] (.bool)), (40, .sl 66 (.st [.int .i64, .st [.int .i64, .int .i64, .int .i64, .int .i64], .sl 81 (.st [.int .i64, .int .i64, .int .i64])])), (41, .st [.int .i64, .st [.sl 3 (.int .i64), .sl 3 (.int .i64)], .int .i64, .int .i64, .sl 66 (.st [.int .i64, .st [.int .i64, .int .i64, .int .i64, .int .i64], .sl 81 (.st [.int .i64, .int .i64, .int .i64])]), .int .i64]), (42, .st [.int .i64, .st [.sl 3 (.int .i64), .sl 3 (.int .i64)], .int .i64, .int .i64, .sl 66 (.st [.int .i64, .st [.int .i64, .int .i64, .int .i64, .int .i64], .sl 81 (.st [.int .i64, .int .i64, .int .i64])]), .int .i64]), (43, .fn [.st [.int .i64, .st [.sl 3 (.int .i64), .sl 3 (.int .i64)], .int .i64, .int .i64, .sl 66 (.st [.int .i64, .st [.int .i64, .int .i64, .int .i64, .int .i64], .sl 81 (.st [.int .i64, .int .i64, .int .i64])]), .int .i64], .int .i64] (.int .i64)), (44, .fn [.st [.int .i64, .st [.sl 3 (.int .i64), .sl 3 (.int .i64)], .int .i64, .int .i64, .sl 70 (.st [.int .i64, .st [.int .i64, .int .i64, .int .i64, .int .i64], .sl 79 (.st [.int .i64, .int .i64, .int .i64])]), .int .i64]] (.int .i64)), (45, .sl 70 (.st [.int .i64, .st [.int .i64, .int .i64, .int .i64, .int .i64], .sl 79 (.st [.int .i64, .int .i64, .int .i64])])), (46, .st [.int .i64, .st [.sl 3 (.int .i64), .sl 3 (.int .i64)], .int .i64, .int .i64, .sl 70 (.st [.int .i64, .st [.int .i64, .int .i64, .int .i64, .int .i64], .sl 79 (.st [.int .i64, .int .i64, .int .i64])]), .int .i64]), (47, .st [.int .i64, .st [.sl 3 (.int .i64), .sl 3 (.int .i64)], .int .i64, .int .i64, .sl 70 (.st [.int .i64, .st [.int .i64, .int .i64, .int .i64, .int .i64], .sl 79 (.st [.int .i64, .int .i64, .int .i64])]), .int .i64]), (48, .fn [.st [.int .i64, .st [.sl 3 (.int .i64), .sl 3 (.int .i64)], .int .i64, .int .i64, .sl 66 (.st [.int .i64, .st [.int .i64, .int .i64, .int .i64, .int .i64], .sl 81 (.st [.int .i64, .int .i64, .int .i64])]), .int .i64]] (.st [.int .i64, .st [.sl 3 (.int .i64), .sl 3 (.int .i64)], .int .i64, .int .i64, .sl 70 (.st [.int .i64, .st [.int .i64, .int .i64, .int .i64, .int .i64], .sl 79 (.st [.int .i64, .int .i64, .int .i64])]), .int .i64])), (49, .fn [.st [.int .i64, .st [.sl 3 (.int .i64), .sl 3 (.int .i64)], .int .i64, .int .i64, .sl 70 (.st [.int .i64, .st [.int .i64, .int .i64, .int .i64, .int .i64], .sl 79 (.st [.int .i64, .int .i64, .int .i64])]), .int .i64], .st [.int .i64, .st [.sl 3 (.int .i64), .sl 3 (.int .i64)], .int .i64, .int .i64, .sl 70 (.st [.int .i64, .st [.int .i64, .int .i64, .int .i64, .int .i64], .sl 79 (.st [.int .i64, .int .i64, .int .i64])]), .int .i64]] (.bool)), (50, .fn [.st [.int .i64, .st [.sl 3 (.int .i64), .sl 3 (.int .i64)], .int .i64, .int .i64, .sl 66 (.st [.int .i64, .st [.int .i64, .int .i64, .int .i64, .int .i64], .sl 81 (.st [.int .i64, .int .i64, .int .i64])]), .int .i64]] (.bool)), (51, .fn [.int .i64, .int .i64, .int .i64] (.bool)), (54, .fn [.int .i64, .int .i64] (.int .i64)), (55, .fn [.sl 3 (.int .i64)] (.sl 3 (.int .i64))), (56, .fn [.sl 3 (.int .i64), .fn [.int .i64] (.bool)] (.bool)), (57, .fn [.sl 66 (.st [.int .i64, .st [.int .i64, .int .i64, .int .i64, .int .i64], .sl 81 (.st [.int .i64, .int .i64, .int .i64])]), .int .i64] (.int .i64)), (58, .fn [.sl 66 (.st [.int .i64, .st [.int .i64, .int .i64, .int .i64, .int .i64], .sl 81 (.st [.int .i64, .int .i64, .int .i64])])] (.sl 70 (.st [.int .i64, .st [.int .i64, .int .i64, .int .i64, .int .i64], .sl 79 (.st [.int .i64, .int .i64, .int .i64])]))), (59, .fn [.sl 70 (.st [.int .i64, .st [.int .i64, .int .i64, .int .i64, .int .i64], .sl 79 (.st [.int .i64, .int .i64, .int .i64])]), .sl 70 (.st [.int .i64, .st [.int .i64, .int .i64, .int .i64, .int .i64], .sl 79 (.st [.int .i64, .int .i64, .int .i64])])] (.bool)), (60, .fn [.sl 3 (.int .i64), .fn [.int .i64] (.bool)] (.int .i64)), (61, .fn [.st [.int .i64, .st [.int .i64, .int .i64, .int .i64, .int .i64], .sl 81 (.st [.int .i64, .int .i64, .int .i64])], .int .i64] (.int .i64)), (62, .st [.int .i64, .int .i64, .int .i64, .int .i64]), (63, .st [.int .i64, .int .i64, .int .i64, .int .i64]), (64, .sl 81 (.st [.int .i64, .int .i64, .int .i64])), (65, .st [.int .i64, .st [.int .i64, .int .i64, .int .i64, .int .i64], .sl 81 (.st [.int .i64, .int .i64, .int .i64])]), (66, .st [.int .i64, .st [.int .i64, .int .i64, .int .i64, .int .i64], .sl 81 (.st [.int .i64, .int .i64, .int .i64])]), (67, .st [.int .i64, .int .i64, .int .i64, .int .i64]), (68, .sl 79 (.st [.int .i64, .int .i64, .int .i64])), (69, .st [.int .i64, .st [.int .i64, .int .i64, .int .i64, .int .i64], .sl 79 (.st [.int .i64, .int .i64, .int .i64])]), (70, .st [.int .i64, .st [.int .i64, .int .i64, .int .i64, .int .i64], .sl 79 (.st [.int .i64, .int .i64, .int .i64])]), (71, .fn [.st [.int .i64, .st [.int .i64, .int .i64, .int .i64, .int .i64], .sl 81 (.st [.int .i64, .int .i64, .int .i64])]] (.st [.int .i64, .st [.int .i64, .int .i64, .int .i64, .int .i64], .sl 79 (.st [.int .i64, .int .i64, .int .i64])])), (72, .fn [.st [.int .i64, .st [.int .i64, .int .i64, .int .i64, .int .i64], .sl 79 (.st [.int .i64, .int .i64, .int .i64])], .st [.int .i64, .st [.int .i64, .int .i64, .int .i64, .int .i64], .sl 79 (.st [.int .i64, .int .i64, .int .i64])]] (.bool)), (73, .fn [.sl 81 (.st [.int .i64, .int .i64, .int .i64]), .int .i64] (.int .i64)), (74, .fn [.st [.int .i64, .int .i64, .int .i64, .int .i64]] (.st [.int .i64, .int .i64, .int .i64, .int .i64])), (75, .fn [.sl 81 (.st [.int .i64, .int .i64, .int .i64])] (.sl 79 (.st [.int .i64, .int .i64, .int .i64]))), (76, .fn [.st [.int .i64, .int .i64, .int .i64, .int .i64], .st [.int .i64, .int .i64, .int .i64, .int .i64]] (.bool)), (77, .fn [.sl 79 (.st [.int .i64, .int .i64, .int .i64]), .sl 79 (.st [.int .i64, .int .i64, .int .i64])] (.bool)), (78, .st [.int .i64, .int .i64, .int .i64]), (79, .st [.int .i64, .int .i64, .int .i64]), (80, .fn [.st [.int .i64, .int .i64, .int .i64]] (.st [.int .i64, .int .i64, .int .i64])), (81, .st [.int .i64, .int .i64, .int .i64]), (82, .fn [.st [.int .i64, .int .i64, .int .i64], .st [.int .i64, .int .i64, .int .i64]] (.bool))]
theorem tysOk : LkAll (TnOk Try.prog) tys := ⟨tn3, tn4, tn23, tn24, tn25, tn26, tn27, tn28, tn29, tn30, tn31, tn32, tn33, tn34, tn35, tn36, tn37, tn38, tn39, tn40, tn41, tn42, tn43, tn44, tn45, tn46, tn47, tn48, tn49, tn50, tn51, tn54, tn55, tn56, tn57, tn58, tn59, tn60, tn61, tn62, tn63, tn64, tn65, tn66, tn67, tn68, tn69, tn70, tn71, tn72, tn73, tn74, tn75, tn76, tn77, tn78, tn79, tn80, tn81, tn82, trivial⟩
/-- loop.example/g00806/spec.l01In -/
def F28 (x : (Int × (Int × (Int × Unit)))) (c : Unit) : (Option (Bool × Unit)) :=
  (Option.bind ((if (leZ x.2.1 x.1) = true then (some ((leZ x.1 x.2.2.1), ())) else (some (false, ()))) : (Option (Bool × Unit))) fun v0 => (some (v0.1, ())))
def h28 : Hd := ⟨[.int .i64, .int .i64, .int .i64], [], none, .p, .bool, .p, []⟩
def t28 : FSig := ⟨h28.ps, h28.cs, h28.io, h28.im, h28.R, h28.m, F28⟩
theorem e28 : fnOf tys [] Try.f28 h28 = t28 := by kernel_rfl
theorem k28 : SigOk Try.prog 28 t28 := (congrArg (SigOk Try.prog 28) e28).mp (fnOf_ok rfl tysOk trivial Try.func28 (by decide) rfl (fun _ h => by cases h))
/-- loop.example/g00806/impl.within -/
def F29 (x : (Int × (Int × (Int × Unit)))) (c : Unit) : (Option (Bool × Unit)) :=
  (Option.bind ((if (leZ x.2.1 x.1) = true then (some ((leZ x.1 x.2.2.1), ())) else (some (false, ()))) : (Option (Bool × Unit))) fun v0 => (some (v0.1, ())))
def h29 : Hd := ⟨[.int .i64, .int .i64, .int .i64], [], none, .p, .bool, .p, []⟩
def t29 : FSig := ⟨h29.ps, h29.cs, h29.io, h29.im, h29.R, h29.m, F29⟩
theorem e29 : fnOf tys [] Try.f29 h29 = t29 := by kernel_rfl
theorem k29 : SigOk Try.prog 29 t29 := (congrArg (SigOk Try.prog 29) e29).mp (fnOf_ok rfl tysOk trivial Try.func29 (by decide) rfl (fun _ h => by cases h))
/-- loop.example/g00806/laws.szIntS -/
def F30 (x : ((List Int) × (Int × Unit))) (c : Unit) : (Option (Int × Unit)) :=
  (if (ltZ (subZ .i64 x.2.1 (lenI x.1)) 0) = true then (some ((-1), ())) else (some ((subZ .i64 x.2.1 (lenI x.1)), ())))
def h30 : Hd := ⟨[.sl 3 (.int .i64), .int .i64], [], none, .p, .int .i64, .p, []⟩
def t30 : FSig := ⟨h30.ps, h30.cs, h30.io, h30.im, h30.R, h30.m, F30⟩
theorem e30 : fnOf tys [] Try.f30 h30 = t30 := by kernel_rfl
theorem k30 : SigOk Try.prog 30 t30 := (congrArg (SigOk Try.prog 30) e30).mp (fnOf_ok rfl tysOk trivial Try.func30 (by decide) rfl (fun _ h => by cases h))
/-- loop.example/g00806/laws.szSchedule -/
def F10 (x : (((List Int) × ((List Int) × Unit)) × (Int × Unit))) (c : Unit) : (Option (Int × Unit)) :=
  (Option.bind ((Option.bind (F30 (x.1.1, (x.2.1, ())) ()) fun v0 => (some v0.1)) : (Option Int)) fun v1 => (if (ltZ v1 0) = true then (some ((-1), ())) else (Option.bind ((Option.bind (F30 (x.1.2.1, (v1, ())) ()) fun v2 => (some v2.1)) : (Option Int)) fun v3 => (if (ltZ v3 0) = true then (some ((-1), ())) else (some (v3, ()))))))
def h10 : Hd := ⟨[.st [.sl 3 (.int .i64), .sl 3 (.int .i64)], .int .i64], [], none, .p, .int .i64, .p, []⟩
def t10 : FSig := ⟨h10.ps, h10.cs, h10.io, h10.im, h10.R, h10.m, F10⟩
theorem e10 : fnOf tys [(30, t30)] Try.f10 h10 = t10 := by kernel_rfl
theorem k10 : SigOk Try.prog 10 t10 := (congrArg (SigOk Try.prog 10) e10).mp (fnOf_ok rfl tysOk ⟨k30, trivial⟩ Try.func10 (by decide) rfl (fun _ h => by cases h))
/-- loop.example/g00806/spec.l02Max -/
def F31 (x : (Int × (Int × Unit))) (c : Unit) : (Option (Int × Unit)) :=
  (if (ltZ x.2.1 x.1) = true then (some (x.1, ())) else (some (x.2.1, ())))
def h31 : Hd := ⟨[.int .i64, .int .i64], [], none, .p, .int .i64, .p, []⟩
def t31 : FSig := ⟨h31.ps, h31.cs, h31.io, h31.im, h31.R, h31.m, F31⟩
theorem e31 : fnOf tys [] Try.f31 h31 = t31 := by kernel_rfl
theorem k31 : SigOk Try.prog 31 t31 := (congrArg (SigOk Try.prog 31) e31).mp (fnOf_ok rfl tysOk trivial Try.func31 (by decide) rfl (fun _ h => by cases h))
/-- loop.example/g00806/spec.ScheduleDistance -/
def F11L0 : (Int × (Int × ((List Int) × (((List Int) × ((List Int) × Unit)) × (Int × Unit))))) → Option (Out (Int × (Int × ((List Int) × (((List Int) × ((List Int) × Unit)) × (Int × Unit))))) ((Bool × (Int × (Int × ((List Int) × (((List Int) × ((List Int) × Unit)) × (Int × Unit)))))) ⊕ Empty) (Int × Unit)) :=
  (fun v0 => (if (ltZ v0.1 v0.2.1) = true then (Option.bind (getI v0.2.2.1 v0.1) fun v1 => (Option.bind (getI v0.2.2.2.1.1 v0.1) fun v2 => (Option.bind ((Option.bind (F28 (v1, (0, (60, ()))) ()) fun v3 => (some v3.1)) : (Option Bool)) fun v4 => (Option.bind ((if (notB v4) = true then (some (true, (v0.2.2.2.2.1, (v2, (v1, (v0.1, (v0.2.1, (v0.2.2.1, (v0.2.2.2.1, ()))))))))) else (Option.bind ((Option.bind (F28 (v2, (0, (60, ()))) ()) fun v5 => (some v5.1)) : (Option Bool)) fun v6 => (some ((notB v6), (v0.2.2.2.2.1, (v2, (v1, (v0.1, (v0.2.1, (v0.2.2.1, (v0.2.2.2.1, ()))))))))))) : (Option (Bool × (Int × (Int × (Int × (Int × (Int × ((List Int) × (((List Int) × ((List Int) × Unit)) × Unit)))))))))) fun v7 => (if v7.1 = true then (some (Out.ret ((-1), ()))) else (Option.bind ((Option.bind (F31 ((subZ .i64 v7.2.2.2.1 v7.2.2.1), ((subZ .i64 v7.2.2.1 v7.2.2.2.1), ())) ()) fun v8 => (some v8.1)) : (Option Int)) fun v9 => (some (Out.norm ((addZ .i64 v7.2.2.2.2.1 1), (v7.2.2.2.2.2.1, (v7.2.2.2.2.2.2.1, (v7.2.2.2.2.2.2.2.1, ((addZ .i64 v7.2.1 v9), ()))))))))))))) else (some (Out.exit (Sum.inl ((ltZ v0.1 v0.2.1), (v0.1, (v0.2.1, (v0.2.2.1, (v0.2.2.2.1, (v0.2.2.2.2.1, ())))))))))))
def F11 (x : (((List Int) × ((List Int) × Unit)) × (((List Int) × ((List Int) × Unit)) × Unit))) (c : Unit) : (Option (Int × Unit)) :=
  (if (notB (eqZ (lenI x.1.1) (lenI x.2.1.1))) = true then (some ((-1), ())) else (Option.bind (loopN (A := (Int × (Int × ((List Int) × (((List Int) × ((List Int) × Unit)) × (Int × Unit)))))) big F11L0 (0, ((lenI x.1.1), (x.1.1, (x.2.1, (0, ())))))) fun v10 => (match v10 with | Out.norm v11 => none | Out.exit v12 => (match ((match v12 with | Sum.inl v15 => (Sum.inl (v15.2.2.2.2.2.1, ())) | Sum.inr v16 => (Empty.elim v16)) : ((Int × Unit) ⊕ Empty)) with | Sum.inl v13 => (some (v13.1, ())) | Sum.inr v14 => none) | Out.ret v17 => (some v17))))
def h11 : Hd := ⟨[.st [.sl 3 (.int .i64), .sl 3 (.int .i64)], .st [.sl 3 (.int .i64), .sl 3 (.int .i64)]], [], none, .p, .int .i64, .p, []⟩
def t11 : FSig := ⟨h11.ps, h11.cs, h11.io, h11.im, h11.R, h11.m, F11⟩
theorem e11 : fnOf tys [(28, t28), (31, t31)] Try.f11 h11 = t11 := by kernel_rfl
theorem k11 : SigOk Try.prog 11 t11 := (congrArg (SigOk Try.prog 11) e11).mp (fnOf_ok rfl tysOk ⟨k28, k31, trivial⟩ Try.func11 (by decide) rfl (fun _ h => by cases h))
/-- loop.example/g00806/laws.toIntS -/
def F32L0 : (Int × ((List Int) × ((List Int) × Unit))) → Option (Out (Int × ((List Int) × ((List Int) × Unit))) ((Bool × (Int × ((List Int) × ((List Int) × Unit)))) ⊕ Empty) ((List Int) × Unit)) :=
  (fun v1 => (if (ltZ v1.1 (lenI v1.2.1)) = true then (Option.bind (getI v1.2.1 v1.1) fun v2 => (Option.bind ((Option.bind (getI v1.2.2.1 v1.1) fun v3 => (some ())) : (Option Unit)) fun v4 => (Option.bind ((Option.bind ((Option.bind (getI v1.2.2.1 v1.1) fun v5 => (some v5)) : (Option Int)) fun v6 => (some v2)) : (Option Int)) fun v7 => (some (Out.norm ((addZ .i64 v1.1 1), (v1.2.1, ((setI v1.2.2.1 v1.1 (fun v8 => v7)), ())))))))) else (some (Out.exit (Sum.inl ((ltZ v1.1 (lenI v1.2.1)), (v1.1, (v1.2.1, (v1.2.2.1, ())))))))))
def F32 (x : ((List Int) × Unit)) (c : Unit) : (Option ((List Int) × Unit)) :=
  (Option.bind ((if (eqZ (lenI x.1) (lenI x.1)) = true then (zerosI (lenI x.1) 0) else none) : (Option (List Int))) fun v0 => (Option.bind (loopN (A := (Int × ((List Int) × ((List Int) × Unit)))) big F32L0 (0, (x.1, (v0, ())))) fun v9 => (match v9 with | Out.norm v10 => none | Out.exit v11 => (match ((match v11 with | Sum.inl v14 => (Sum.inl (v14.2.2.2.1, ())) | Sum.inr v15 => (Empty.elim v15)) : (((List Int) × Unit) ⊕ Empty)) with | Sum.inl v12 => (some (v12.1, ())) | Sum.inr v13 => none) | Out.ret v16 => (some v16))))
def h32 : Hd := ⟨[.sl 3 (.int .i64)], [], none, .p, .sl 3 (.int .i64), (Ty.all (.sl 3 (.int .i64))), []⟩
def t32 : FSig := ⟨h32.ps, h32.cs, h32.io, h32.im, h32.R, h32.m, F32⟩
theorem e32 : fnOf tys [] Try.f32 h32 = t32 := by kernel_rfl
theorem k32 : SigOk Try.prog 32 t32 := (congrArg (SigOk Try.prog 32) e32).mp (fnOf_ok rfl tysOk trivial Try.func32 (by decide) rfl (fun _ h => by cases h))
/-- loop.example/g00806/laws.toSchedule -/
def F12 (x : (((List Int) × ((List Int) × Unit)) × Unit)) (c : Unit) : (Option (((List Int) × ((List Int) × Unit)) × Unit)) :=
  (Option.bind ((Option.bind (F32 (x.1.1, ()) ()) fun v0 => (some v0.1)) : (Option (List Int))) fun v1 => (Option.bind ((Option.bind (F32 (x.1.2.1, ()) ()) fun v2 => (some v2.1)) : (Option (List Int))) fun v3 => (some ((v1, (v3, ())), ()))))
def h12 : Hd := ⟨[.st [.sl 3 (.int .i64), .sl 3 (.int .i64)]], [], none, .p, .st [.sl 3 (.int .i64), .sl 3 (.int .i64)], (Ty.all (.st [.sl 3 (.int .i64), .sl 3 (.int .i64)])), []⟩
def t12 : FSig := ⟨h12.ps, h12.cs, h12.io, h12.im, h12.R, h12.m, F12⟩
theorem e12 : fnOf tys [(32, t32)] Try.f12 h12 = t12 := by kernel_rfl
theorem k12 : SigOk Try.prog 12 t12 := (congrArg (SigOk Try.prog 12) e12).mp (fnOf_ok rfl tysOk ⟨k32, trivial⟩ Try.func12 (by decide) rfl (fun _ h => by cases h))
/-- loop.example/g00806/impl.isTime -/
def F33 (x : (Int × Unit)) (c : Unit) : (Option (Bool × Unit)) :=
  (Option.bind ((Option.bind (F29 (x.1, (0, (60, ()))) ()) fun v0 => (some v0.1)) : (Option Bool)) fun v1 => (some (v1, ())))
def h33 : Hd := ⟨[.int .i64], [], none, .p, .bool, .p, []⟩
def t33 : FSig := ⟨h33.ps, h33.cs, h33.io, h33.im, h33.R, h33.m, F33⟩
theorem e33 : fnOf tys [(29, t29)] Try.f33 h33 = t33 := by kernel_rfl
theorem k33 : SigOk Try.prog 33 t33 := (congrArg (SigOk Try.prog 33) e33).mp (fnOf_ok rfl tysOk ⟨k29, trivial⟩ Try.func33 (by decide) rfl (fun _ h => by cases h))
/-- loop.example/g00806/impl.ScheduleDistance -/
def F13L0 : (Int × (Int × ((List Int) × (((List Int) × ((List Int) × Unit)) × (Int × Unit))))) → Option (Out (Int × (Int × ((List Int) × (((List Int) × ((List Int) × Unit)) × (Int × Unit))))) ((Bool × (Int × (Int × ((List Int) × (((List Int) × ((List Int) × Unit)) × (Int × Unit)))))) ⊕ Empty) (Int × Unit)) :=
  (fun v0 => (if (ltZ v0.1 v0.2.1) = true then (Option.bind (getI v0.2.2.1 v0.1) fun v1 => (Option.bind ((Option.bind (F33 (v1, ()) ()) fun v2 => (some v2.1)) : (Option Bool)) fun v3 => (Option.bind ((if (notB v3) = true then (some (true, (v0.2.2.2.2.1, (v0.1, (v1, (v0.1, (v0.2.1, (v0.2.2.1, (v0.2.2.2.1, ()))))))))) else (Option.bind (getI v0.2.2.2.1.1 v0.1) fun v4 => (Option.bind ((Option.bind (F33 (v4, ()) ()) fun v5 => (some v5.1)) : (Option Bool)) fun v6 => (some ((notB v6), (v0.2.2.2.2.1, (v0.1, (v1, (v0.1, (v0.2.1, (v0.2.2.1, (v0.2.2.2.1, ())))))))))))) : (Option (Bool × (Int × (Int × (Int × (Int × (Int × ((List Int) × (((List Int) × ((List Int) × Unit)) × Unit)))))))))) fun v7 => (if v7.1 = true then (some (Out.ret ((-1), ()))) else (Option.bind (getI v7.2.2.2.2.2.2.2.1.1 v7.2.2.1) fun v8 => (Option.bind (getI v7.2.2.2.2.2.2.2.1.1 v7.2.2.1) fun v9 => (some (Out.norm ((addZ .i64 v7.2.2.2.2.1 1), (v7.2.2.2.2.2.1, (v7.2.2.2.2.2.2.1, (v7.2.2.2.2.2.2.2.1, ((addZ .i64 v7.2.1 (maxI (subZ .i64 v7.2.2.2.1 v8) (subZ .i64 v9 v7.2.2.2.1))), ()))))))))))))) else (some (Out.exit (Sum.inl ((ltZ v0.1 v0.2.1), (v0.1, (v0.2.1, (v0.2.2.1, (v0.2.2.2.1, (v0.2.2.2.2.1, ())))))))))))
def F13 (x : (((List Int) × ((List Int) × Unit)) × (((List Int) × ((List Int) × Unit)) × Unit))) (c : Unit) : (Option (Int × Unit)) :=
  (if (notB (eqZ (lenI x.1.1) (lenI x.2.1.1))) = true then (some ((-1), ())) else (Option.bind (loopN (A := (Int × (Int × ((List Int) × (((List Int) × ((List Int) × Unit)) × (Int × Unit)))))) big F13L0 (0, ((lenI x.1.1), (x.1.1, (x.2.1, (0, ())))))) fun v10 => (match v10 with | Out.norm v11 => none | Out.exit v12 => (match ((match v12 with | Sum.inl v15 => (Sum.inl (v15.2.2.2.2.2.1, ())) | Sum.inr v16 => (Empty.elim v16)) : ((Int × Unit) ⊕ Empty)) with | Sum.inl v13 => (some (v13.1, ())) | Sum.inr v14 => none) | Out.ret v17 => (some v17))))
def h13 : Hd := ⟨[.st [.sl 3 (.int .i64), .sl 3 (.int .i64)], .st [.sl 3 (.int .i64), .sl 3 (.int .i64)]], [], none, .p, .int .i64, .p, []⟩
def t13 : FSig := ⟨h13.ps, h13.cs, h13.io, h13.im, h13.R, h13.m, F13⟩
theorem e13 : fnOf tys [(33, t33)] Try.f13 h13 = t13 := by kernel_rfl
theorem k13 : SigOk Try.prog 13 t13 := (congrArg (SigOk Try.prog 13) e13).mp (fnOf_ok rfl tysOk ⟨k33, trivial⟩ Try.func13 (by decide) rfl (fun _ h => by cases h))
/-- loop.example/g00806/laws.eqIntS -/
def F17L0 : (Int × ((List Int) × ((List Int) × Unit))) → Option (Out (Int × ((List Int) × ((List Int) × Unit))) ((Bool × (Int × ((List Int) × ((List Int) × Unit)))) ⊕ Empty) (Bool × Unit)) :=
  (fun v0 => (if (ltZ v0.1 (lenI v0.2.1)) = true then (Option.bind (getI v0.2.1 v0.1) fun v1 => (Option.bind (getI v0.2.2.1 v0.1) fun v2 => (if (notB (eqZ v1 v2)) = true then (some (Out.ret (false, ()))) else (some (Out.norm ((addZ .i64 v0.1 1), (v0.2.1, (v0.2.2.1, ())))))))) else (some (Out.exit (Sum.inl ((ltZ v0.1 (lenI v0.2.1)), (v0.1, (v0.2.1, (v0.2.2.1, ())))))))))
def F17 (x : ((List Int) × ((List Int) × Unit))) (c : Unit) : (Option (Bool × Unit)) :=
  (if (notB (eqZ (lenI x.1) (lenI x.2.1))) = true then (some (false, ())) else (Option.bind (loopN (A := (Int × ((List Int) × ((List Int) × Unit)))) big F17L0 (0, (x.1, (x.2.1, ())))) fun v3 => (match v3 with | Out.norm v4 => none | Out.exit v5 => (match ((match v5 with | Sum.inl v8 => (Sum.inl ()) | Sum.inr v9 => (Empty.elim v9)) : (Unit ⊕ Empty)) with | Sum.inl v6 => (some (true, ())) | Sum.inr v7 => none) | Out.ret v10 => (some v10))))
def h17 : Hd := ⟨[.sl 3 (.int .i64), .sl 3 (.int .i64)], [], none, .p, .bool, .p, []⟩
def t17 : FSig := ⟨h17.ps, h17.cs, h17.io, h17.im, h17.R, h17.m, F17⟩
theorem e17 : fnOf tys [] Try.f17 h17 = t17 := by kernel_rfl
theorem k17 : SigOk Try.prog 17 t17 := (congrArg (SigOk Try.prog 17) e17).mp (fnOf_ok rfl tysOk trivial Try.func17 (by decide) rfl (fun _ h => by cases h))
/-- loop.example/g00806/laws.eqSchedule -/
def F14 (x : (((List Int) × ((List Int) × Unit)) × (((List Int) × ((List Int) × Unit)) × Unit))) (c : Unit) : (Option (Bool × Unit)) :=
  (Option.bind ((Option.bind (F17 (x.1.1, (x.2.1.1, ())) ()) fun v0 => (some v0.1)) : (Option Bool)) fun v1 => (if (notB v1) = true then (some (false, ())) else (Option.bind ((Option.bind (F17 (x.1.2.1, (x.2.1.2.1, ())) ()) fun v2 => (some v2.1)) : (Option Bool)) fun v3 => (if (notB v3) = true then (some (false, ())) else (some (true, ()))))))
def h14 : Hd := ⟨[.st [.sl 3 (.int .i64), .sl 3 (.int .i64)], .st [.sl 3 (.int .i64), .sl 3 (.int .i64)]], [], none, .p, .bool, .p, []⟩
def t14 : FSig := ⟨h14.ps, h14.cs, h14.io, h14.im, h14.R, h14.m, F14⟩
theorem e14 : fnOf tys [(17, t17)] Try.f14 h14 = t14 := by kernel_rfl
theorem k14 : SigOk Try.prog 14 t14 := (congrArg (SigOk Try.prog 14) e14).mp (fnOf_ok rfl tysOk ⟨k17, trivial⟩ Try.func14 (by decide) rfl (fun _ h => by cases h))
/-- loop.example/g00806/laws.FnExactScheduleDistance -/
def F4 (x : (((List Int) × ((List Int) × Unit)) × (((List Int) × ((List Int) × Unit)) × Unit))) (c : Unit) : (Option (Bool × Unit)) :=
  (Option.bind ((Option.bind (F10 (x.1, (1048576, ())) ()) fun v0 => (some v0.1)) : (Option Int)) fun v1 => (if (ltZ v1 0) = true then (some (true, ())) else (Option.bind ((Option.bind (F10 (x.2.1, (v1, ())) ()) fun v2 => (some v2.1)) : (Option Int)) fun v3 => (if (ltZ v3 0) = true then (some (true, ())) else (Option.bind ((Option.bind (F12 (x.1, ()) ()) fun v4 => (some v4.1)) : (Option ((List Int) × ((List Int) × Unit)))) fun v5 => (Option.bind ((Option.bind (F12 (x.2.1, ()) ()) fun v6 => (some v6.1)) : (Option ((List Int) × ((List Int) × Unit)))) fun v7 => (Option.bind ((Option.bind (F11 (v5, (v7, ())) ()) fun v8 => (some v8.1)) : (Option Int)) fun v9 => (Option.bind ((Option.bind (F12 (x.1, ()) ()) fun v10 => (some v10.1)) : (Option ((List Int) × ((List Int) × Unit)))) fun v11 => (Option.bind ((Option.bind (F12 (x.2.1, ()) ()) fun v12 => (some v12.1)) : (Option ((List Int) × ((List Int) × Unit)))) fun v13 => (Option.bind ((Option.bind (F13 (v11, (v13, ())) ()) fun v14 => (some v14.1)) : (Option Int)) fun v15 => (if (notB (eqZ v15 v9)) = true then (some (false, ())) else (Option.bind ((Option.bind (F12 (x.1, ()) ()) fun v16 => (some v16.1)) : (Option ((List Int) × ((List Int) × Unit)))) fun v17 => (Option.bind ((Option.bind (F14 (v11, (v17, ())) ()) fun v18 => (some v18.1)) : (Option Bool)) fun v19 => (if (notB v19) = true then (some (false, ())) else (Option.bind ((Option.bind (F12 (x.2.1, ()) ()) fun v20 => (some v20.1)) : (Option ((List Int) × ((List Int) × Unit)))) fun v21 => (Option.bind ((Option.bind (F14 (v13, (v21, ())) ()) fun v22 => (some v22.1)) : (Option Bool)) fun v23 => (if (notB v23) = true then (some (false, ())) else (some (true, ())))))))))))))))))))
def h4 : Hd := ⟨[.st [.sl 3 (.int .i64), .sl 3 (.int .i64)], .st [.sl 3 (.int .i64), .sl 3 (.int .i64)]], [], none, .p, .bool, .p, []⟩
def t4 : FSig := ⟨h4.ps, h4.cs, h4.io, h4.im, h4.R, h4.m, F4⟩
theorem e4 : fnOf tys [(10, t10), (11, t11), (12, t12), (13, t13), (14, t14)] Try.f4 h4 = t4 := by kernel_rfl
theorem k4 : SigOk Try.prog 4 t4 := (congrArg (SigOk Try.prog 4) e4).mp (fnOf_ok rfl tysOk ⟨k10, k11, k12, k13, k14, trivial⟩ Try.func4 (by decide) rfl (fun _ h => by cases h))
/-- loop.example/g00806/spec.StartedBefore -/
def F15L0 : (Int × (Int × ((List Int) × (Int × ((List Int) × Unit))))) → Option (Out (Int × (Int × ((List Int) × (Int × ((List Int) × Unit))))) ((Bool × (Int × (Int × ((List Int) × (Int × ((List Int) × Unit)))))) ⊕ Empty) ((List Int) × Unit)) :=
  (fun v0 => (if (ltZ v0.1 v0.2.1) = true then (Option.bind (getI v0.2.2.1 v0.1) fun v1 => (Option.bind ((if (ltZ v1 v0.2.2.2.1) = true then (Option.bind (addI v0.2.2.2.2.1 (v0.1 :: [])) fun v2 => (some (Out.norm (v0.1, (v0.2.1, (v0.2.2.1, (v0.2.2.2.1, (v2, ())))))))) else (some (Out.norm (v0.1, (v0.2.1, (v0.2.2.1, (v0.2.2.2.1, (v0.2.2.2.2.1, ())))))))) : (Option (Out (Int × (Int × ((List Int) × (Int × ((List Int) × Unit))))) Empty ((List Int) × Unit)))) fun v3 => (match ((match ((match v3 with | Out.norm v12 => (Out.norm v12) | Out.exit v13 => (Out.exit v13) | Out.ret v14 => (Out.ret v14)) : (Out (Int × (Int × ((List Int) × (Int × ((List Int) × Unit))))) Empty ((List Int) × Unit))) with | Out.norm v9 => (Out.norm v9) | Out.exit v10 => (Out.exit v10) | Out.ret v11 => (Out.ret v11)) : (Out (Int × (Int × ((List Int) × (Int × ((List Int) × Unit))))) Empty ((List Int) × Unit))) with | Out.norm v4 => (some (Out.norm ((addZ .i64 v4.1 1), (v4.2.1, (v4.2.2.1, (v4.2.2.2.1, (v4.2.2.2.2.1, ()))))))) | Out.exit v5 => (match ((Empty.elim v5) : ((Int × (Int × ((List Int) × (Int × ((List Int) × Unit))))) ⊕ Empty)) with | Sum.inl v6 => (some (Out.norm ((addZ .i64 v6.1 1), (v6.2.1, (v6.2.2.1, (v6.2.2.2.1, (v6.2.2.2.2.1, ()))))))) | Sum.inr v7 => (some (Out.exit (Sum.inr (Empty.elim v7))))) | Out.ret v8 => (some (Out.ret v8))))) else (some (Out.exit (Sum.inl ((ltZ v0.1 v0.2.1), (v0.1, (v0.2.1, (v0.2.2.1, (v0.2.2.2.1, (v0.2.2.2.2.1, ())))))))))))
def F15 (x : (((List Int) × ((List Int) × Unit)) × (Int × Unit))) (c : Unit) : (Option ((List Int) × Unit)) :=
  (Option.bind (loopN (A := (Int × (Int × ((List Int) × (Int × ((List Int) × Unit)))))) big F15L0 (0, ((lenI x.1.1), (x.1.1, (x.2.1, ([], ())))))) fun v15 => (match v15 with | Out.norm v16 => none | Out.exit v17 => (match ((match v17 with | Sum.inl v20 => (Sum.inl (v20.2.2.2.2.2.1, ())) | Sum.inr v21 => (Empty.elim v21)) : (((List Int) × Unit) ⊕ Empty)) with | Sum.inl v18 => (some (v18.1, ())) | Sum.inr v19 => none) | Out.ret v22 => (some v22)))
def h15 : Hd := ⟨[.st [.sl 3 (.int .i64), .sl 3 (.int .i64)], .int .i64], [], none, .p, .sl 3 (.int .i64), (Ty.all (.sl 3 (.int .i64))), []⟩
def t15 : FSig := ⟨h15.ps, h15.cs, h15.io, h15.im, h15.R, h15.m, F15⟩
theorem e15 : fnOf tys [] Try.f15 h15 = t15 := by kernel_rfl
theorem k15 : SigOk Try.prog 15 t15 := (congrArg (SigOk Try.prog 15) e15).mp (fnOf_ok rfl tysOk trivial Try.func15 (by decide) rfl (fun _ h => by cases h))
/-- loop.example/g00806/impl.StartedBefore -/
def F16L0 : (Int × (Int × ((List Int) × (Int × ((List Int) × Unit))))) → Option (Out (Int × (Int × ((List Int) × (Int × ((List Int) × Unit))))) ((Bool × (Int × (Int × ((List Int) × (Int × ((List Int) × Unit)))))) ⊕ Empty) ((List Int) × Unit)) :=
  (fun v0 => (if (ltZ v0.1 v0.2.1) = true then (Option.bind (getI v0.2.2.1 v0.1) fun v1 => (Option.bind ((if (ltZ v1 v0.2.2.2.1) = true then (Option.bind (addI v0.2.2.2.2.1 (v0.1 :: [])) fun v2 => (some (Out.norm (v0.1, (v0.2.1, (v0.2.2.1, (v0.2.2.2.1, (v2, ())))))))) else (some (Out.norm (v0.1, (v0.2.1, (v0.2.2.1, (v0.2.2.2.1, (v0.2.2.2.2.1, ())))))))) : (Option (Out (Int × (Int × ((List Int) × (Int × ((List Int) × Unit))))) Empty ((List Int) × Unit)))) fun v3 => (match ((match ((match v3 with | Out.norm v12 => (Out.norm v12) | Out.exit v13 => (Out.exit v13) | Out.ret v14 => (Out.ret v14)) : (Out (Int × (Int × ((List Int) × (Int × ((List Int) × Unit))))) Empty ((List Int) × Unit))) with | Out.norm v9 => (Out.norm v9) | Out.exit v10 => (Out.exit v10) | Out.ret v11 => (Out.ret v11)) : (Out (Int × (Int × ((List Int) × (Int × ((List Int) × Unit))))) Empty ((List Int) × Unit))) with | Out.norm v4 => (some (Out.norm ((addZ .i64 v4.1 1), (v4.2.1, (v4.2.2.1, (v4.2.2.2.1, (v4.2.2.2.2.1, ()))))))) | Out.exit v5 => (match ((Empty.elim v5) : ((Int × (Int × ((List Int) × (Int × ((List Int) × Unit))))) ⊕ Empty)) with | Sum.inl v6 => (some (Out.norm ((addZ .i64 v6.1 1), (v6.2.1, (v6.2.2.1, (v6.2.2.2.1, (v6.2.2.2.2.1, ()))))))) | Sum.inr v7 => (some (Out.exit (Sum.inr (Empty.elim v7))))) | Out.ret v8 => (some (Out.ret v8))))) else (some (Out.exit (Sum.inl ((ltZ v0.1 v0.2.1), (v0.1, (v0.2.1, (v0.2.2.1, (v0.2.2.2.1, (v0.2.2.2.2.1, ())))))))))))
def F16 (x : (((List Int) × ((List Int) × Unit)) × (Int × Unit))) (c : Unit) : (Option ((List Int) × Unit)) :=
  (Option.bind (loopN (A := (Int × (Int × ((List Int) × (Int × ((List Int) × Unit)))))) big F16L0 (0, ((lenI x.1.1), (x.1.1, (x.2.1, ([], ())))))) fun v15 => (match v15 with | Out.norm v16 => none | Out.exit v17 => (match ((match v17 with | Sum.inl v20 => (Sum.inl (v20.2.2.2.2.2.1, ())) | Sum.inr v21 => (Empty.elim v21)) : (((List Int) × Unit) ⊕ Empty)) with | Sum.inl v18 => (some (v18.1, ())) | Sum.inr v19 => none) | Out.ret v22 => (some v22)))
def h16 : Hd := ⟨[.st [.sl 3 (.int .i64), .sl 3 (.int .i64)], .int .i64], [], none, .p, .sl 3 (.int .i64), (Ty.all (.sl 3 (.int .i64))), []⟩
def t16 : FSig := ⟨h16.ps, h16.cs, h16.io, h16.im, h16.R, h16.m, F16⟩
theorem e16 : fnOf tys [] Try.f16 h16 = t16 := by kernel_rfl
theorem k16 : SigOk Try.prog 16 t16 := (congrArg (SigOk Try.prog 16) e16).mp (fnOf_ok rfl tysOk trivial Try.func16 (by decide) rfl (fun _ h => by cases h))
/-- loop.example/g00806/laws.markIntS -/
def F19L0 : (Int × (Int × ((List Int) × Unit))) → Option (Out (Int × (Int × ((List Int) × Unit))) ((Bool × (Int × (Int × ((List Int) × Unit)))) ⊕ Empty) (Int × (List Int))) :=
  (fun v0 => (if (ltZ v0.1 (lenI v0.2.2.1)) = true then (Option.bind ((Option.bind (getI v0.2.2.1 v0.1) fun v1 => (some ())) : (Option Unit)) fun v2 => (Option.bind ((Option.bind ((Option.bind (getI v0.2.2.1 v0.1) fun v3 => (some v3)) : (Option Int)) fun v4 => (some v0.2.1)) : (Option Int)) fun v5 => (some (Out.norm ((addZ .i64 v0.1 1), ((addZ .i64 v0.2.1 1), ((setI v0.2.2.1 v0.1 (fun v6 => v5)), ()))))))) else (some (Out.exit (Sum.inl ((ltZ v0.1 (lenI v0.2.2.1)), (v0.1, (v0.2.1, (v0.2.2.1, ())))))))))
def F19 (x : ((List Int) × (Int × Unit))) (c : Unit) : (Option (Int × (List Int))) :=
  (Option.bind (loopN (A := (Int × (Int × ((List Int) × Unit)))) big F19L0 (0, (x.2.1, (x.1, ())))) fun v7 => (match v7 with | Out.norm v8 => none | Out.exit v9 => (match ((match v9 with | Sum.inl v12 => (Sum.inl (v12.2.2.1, (v12.2.2.2.1, ()))) | Sum.inr v13 => (Empty.elim v13)) : ((Int × ((List Int) × Unit)) ⊕ Empty)) with | Sum.inl v10 => (some (v10.1, v10.2.1)) | Sum.inr v11 => none) | Out.ret v14 => (some v14)))
def h19 : Hd := ⟨[.sl 3 (.int .i64), .int .i64], [], some 0, Ty.all (.sl 3 (.int .i64)), .int .i64, .p, []⟩
def t19 : FSig := ⟨h19.ps, h19.cs, h19.io, h19.im, h19.R, h19.m, F19⟩
theorem e19 : fnOf tys [] Try.f19 h19 = t19 := by kernel_rfl
theorem k19 : SigOk Try.prog 19 t19 := (congrArg (SigOk Try.prog 19) e19).mp (fnOf_ok rfl tysOk trivial Try.func19 (by decide) rfl (fun _ h => by cases h; decide))
/-- loop.example/g00806/laws.markSchedule -/
def F18 (x : (((List Int) × ((List Int) × Unit)) × (Int × Unit))) (c : Unit) : (Option (Int × ((List Int) × ((List Int) × Unit)))) :=
  (Option.bind (F19 (x.1.1, (x.2.1, ())) ()) fun v0 => (Option.bind (F19 (x.1.2.1, (v0.1, ())) ()) fun v1 => (some (v1.1, (v0.2, (v1.2, x.1.2.2))))))
def h18 : Hd := ⟨[.st [.sl 3 (.int .i64), .sl 3 (.int .i64)], .int .i64], [], some 0, Ty.all (.st [.sl 3 (.int .i64), .sl 3 (.int .i64)]), .int .i64, .p, []⟩
def t18 : FSig := ⟨h18.ps, h18.cs, h18.io, h18.im, h18.R, h18.m, F18⟩
theorem e18 : fnOf tys [(19, t19)] Try.f18 h18 = t18 := by kernel_rfl
theorem k18 : SigOk Try.prog 18 t18 := (congrArg (SigOk Try.prog 18) e18).mp (fnOf_ok rfl tysOk ⟨k19, trivial⟩ Try.func18 (by decide) rfl (fun _ h => by cases h; decide))
/-- loop.example/g00806/laws.heldIntS -/
def F20L0 : (Int × ((List Int) × (Int × Unit))) → Option (Out (Int × ((List Int) × (Int × Unit))) ((Bool × (Int × ((List Int) × (Int × Unit)))) ⊕ Empty) (Int × Unit)) :=
  (fun v0 => (if (ltZ v0.1 (lenI v0.2.1)) = true then (Option.bind (getI v0.2.1 v0.1) fun v1 => (if (notB (eqZ v1 v0.2.2.1)) = true then (some (Out.ret ((-1), ()))) else (some (Out.norm ((addZ .i64 v0.1 1), (v0.2.1, ((addZ .i64 v0.2.2.1 1), ()))))))) else (some (Out.exit (Sum.inl ((ltZ v0.1 (lenI v0.2.1)), (v0.1, (v0.2.1, (v0.2.2.1, ())))))))))
def F20 (x : ((List Int) × (Int × Unit))) (c : Unit) : (Option (Int × Unit)) :=
  (Option.bind (loopN (A := (Int × ((List Int) × (Int × Unit)))) big F20L0 (0, (x.1, (x.2.1, ())))) fun v2 => (match v2 with | Out.norm v3 => none | Out.exit v4 => (match ((match v4 with | Sum.inl v7 => (Sum.inl (v7.2.2.2.1, ())) | Sum.inr v8 => (Empty.elim v8)) : ((Int × Unit) ⊕ Empty)) with | Sum.inl v5 => (some (v5.1, ())) | Sum.inr v6 => none) | Out.ret v9 => (some v9)))
def h20 : Hd := ⟨[.sl 3 (.int .i64), .int .i64], [], none, .p, .int .i64, .p, []⟩
def t20 : FSig := ⟨h20.ps, h20.cs, h20.io, h20.im, h20.R, h20.m, F20⟩
theorem e20 : fnOf tys [] Try.f20 h20 = t20 := by kernel_rfl
theorem k20 : SigOk Try.prog 20 t20 := (congrArg (SigOk Try.prog 20) e20).mp (fnOf_ok rfl tysOk trivial Try.func20 (by decide) rfl (fun _ h => by cases h))
/-- loop.example/g00806/laws.FnExactStartedBefore -/
def F5 (x : (((List Int) × ((List Int) × Unit)) × (Int × Unit))) (c : Unit) : (Option (Bool × Unit)) :=
  (Option.bind ((Option.bind (F10 (x.1, (1048576, ())) ()) fun v0 => (some v0.1)) : (Option Int)) fun v1 => (if (ltZ v1 0) = true then (some (true, ())) else (Option.bind ((Option.bind (F12 (x.1, ()) ()) fun v2 => (some v2.1)) : (Option ((List Int) × ((List Int) × Unit)))) fun v3 => (Option.bind ((Option.bind (F15 (v3, (x.2.1, ())) ()) fun v4 => (some v4.1)) : (Option (List Int))) fun v5 => (Option.bind ((Option.bind (F12 (x.1, ()) ()) fun v6 => (some v6.1)) : (Option ((List Int) × ((List Int) × Unit)))) fun v7 => (Option.bind ((Option.bind (F16 (v7, (x.2.1, ())) ()) fun v8 => (some v8.1)) : (Option (List Int))) fun v9 => (Option.bind ((Option.bind (F17 (v9, (v5, ())) ()) fun v10 => (some v10.1)) : (Option Bool)) fun v11 => (if (notB v11) = true then (some (false, ())) else (Option.bind ((Option.bind (F12 (x.1, ()) ()) fun v12 => (some v12.1)) : (Option ((List Int) × ((List Int) × Unit)))) fun v13 => (Option.bind ((Option.bind (F14 (v7, (v13, ())) ()) fun v14 => (some v14.1)) : (Option Bool)) fun v15 => (if (notB v15) = true then (some (false, ())) else (Option.bind (F18 (v7, (1, ())) ()) fun v16 => (Option.bind ((if (ltZ v16.1 0) = true then (some (true, (x.1, (x.2.1, (v5, (v9, ())))))) else (Option.bind ((Option.bind (F17 (v9, (v5, ())) ()) fun v17 => (some v17.1)) : (Option Bool)) fun v18 => (some ((notB v18), (x.1, (x.2.1, (v5, (v9, ())))))))) : (Option (Bool × (((List Int) × ((List Int) × Unit)) × (Int × ((List Int) × ((List Int) × Unit))))))) fun v19 => (if v19.1 = true then (some (false, ())) else (Option.bind (F19 (v19.2.2.2.2.1, (1, ())) ()) fun v20 => (Option.bind ((Option.bind (F20 (v20.2, (1, ())) ()) fun v21 => (some v21.1)) : (Option Int)) fun v22 => (if (ltZ v22 0) = true then (some (false, ())) else (if (notB (eqZ v22 v20.1)) = true then (some (false, ())) else (Option.bind ((Option.bind (F12 (v19.2.1, ()) ()) fun v23 => (some v23.1)) : (Option ((List Int) × ((List Int) × Unit)))) fun v24 => (Option.bind ((Option.bind (F16 (v24, (v19.2.2.1, ())) ()) fun v25 => (some v25.1)) : (Option (List Int))) fun v26 => (Option.bind ((Option.bind (F17 (v26, (v19.2.2.2.1, ())) ()) fun v27 => (some v27.1)) : (Option Bool)) fun v28 => (if (notB v28) = true then (some (false, ())) else (Option.bind ((Option.bind (F20 (v20.2, (1, ())) ()) fun v29 => (some v29.1)) : (Option Int)) fun v30 => (if (ltZ v30 0) = true then (some (false, ())) else (if (notB (eqZ v30 v20.1)) = true then (some (false, ())) else (some (true, ())))))))))))))))))))))))))))
def h5 : Hd := ⟨[.st [.sl 3 (.int .i64), .sl 3 (.int .i64)], .int .i64], [], none, .p, .bool, .p, []⟩
def t5 : FSig := ⟨h5.ps, h5.cs, h5.io, h5.im, h5.R, h5.m, F5⟩
theorem e5 : fnOf tys [(10, t10), (12, t12), (14, t14), (15, t15), (16, t16), (17, t17), (18, t18), (19, t19), (20, t20)] Try.f5 h5 = t5 := by kernel_rfl
theorem k5 : SigOk Try.prog 5 t5 := (congrArg (SigOk Try.prog 5) e5).mp (fnOf_ok rfl tysOk ⟨k10, k12, k14, k15, k16, k17, k18, k19, k20, trivial⟩ Try.func5 (by decide) rfl (fun _ h => by cases h))
/-- loop.example/g00806/spec.PrefixKept -/
def F21L0 : (Int × (Int × ((List Int) × (((List Int) × ((List Int) × Unit)) × (((List Int) × ((List Int) × Unit)) × Unit))))) → Option (Out (Int × (Int × ((List Int) × (((List Int) × ((List Int) × Unit)) × (((List Int) × ((List Int) × Unit)) × Unit))))) ((Bool × (Int × (Int × ((List Int) × (((List Int) × ((List Int) × Unit)) × (((List Int) × ((List Int) × Unit)) × Unit)))))) ⊕ Empty) (Bool × Unit)) :=
  (fun v4 => (if (ltZ v4.1 v4.2.1) = true then (Option.bind ((Option.bind (getI v4.2.2.1 v4.1) fun v5 => (some ())) : (Option Unit)) fun v6 => (Option.bind ((Option.bind (getI v4.2.2.1 v4.1) fun v7 => (some v7)) : (Option Int)) fun v8 => (Option.bind (getI v4.2.2.2.1.1 v8) fun v9 => (Option.bind (getI v4.2.2.2.2.1.1 v8) fun v10 => (Option.bind ((if (notB (eqZ v9 v10)) = true then (some (true, (v4.1, (v4.2.1, (v4.2.2.1, (v4.2.2.2.1, (v4.2.2.2.2.1, ()))))))) else (Option.bind (getI v4.2.2.2.1.2.1 v8) fun v11 => (Option.bind (getI v4.2.2.2.2.1.2.1 v8) fun v12 => (some ((notB (eqZ v11 v12)), (v4.1, (v4.2.1, (v4.2.2.1, (v4.2.2.2.1, (v4.2.2.2.2.1, ())))))))))) : (Option (Bool × (Int × (Int × ((List Int) × (((List Int) × ((List Int) × Unit)) × (((List Int) × ((List Int) × Unit)) × Unit)))))))) fun v13 => (if v13.1 = true then (some (Out.ret (false, ()))) else (some (Out.norm ((addZ .i64 v13.2.1 1), (v13.2.2.1, (v13.2.2.2.1, (v13.2.2.2.2.1, (v13.2.2.2.2.2.1, ()))))))))))))) else (some (Out.exit (Sum.inl ((ltZ v4.1 v4.2.1), (v4.1, (v4.2.1, (v4.2.2.1, (v4.2.2.2.1, (v4.2.2.2.2.1, ())))))))))))
def F21 (x : (((List Int) × ((List Int) × Unit)) × (((List Int) × ((List Int) × Unit)) × (Int × Unit)))) (c : Unit) : (Option (Bool × Unit)) :=
  (Option.bind ((if (notB (eqZ (lenI x.1.1) (lenI x.2.1.1))) = true then (some (true, (x.2.2.1, (x.1, (x.2.1, ()))))) else (Option.bind ((if (notB (eqZ (lenI x.1.2.1) (lenI x.2.1.2.1))) = true then (some (true, (x.2.2.1, (x.1, (x.2.1, ()))))) else (some ((notB (eqZ (lenI x.1.1) (lenI x.1.2.1))), (x.2.2.1, (x.1, (x.2.1, ())))))) : (Option (Bool × (Int × (((List Int) × ((List Int) × Unit)) × (((List Int) × ((List Int) × Unit)) × Unit)))))) fun v0 => (some (v0.1, (v0.2.1, (v0.2.2.1, (v0.2.2.2.1, ()))))))) : (Option (Bool × (Int × (((List Int) × ((List Int) × Unit)) × (((List Int) × ((List Int) × Unit)) × Unit)))))) fun v1 => (if v1.1 = true then (some (false, ())) else (Option.bind ((Option.bind (F15 (v1.2.2.1, (v1.2.1, ())) ()) fun v2 => (some v2.1)) : (Option (List Int))) fun v3 => (Option.bind (loopN (A := (Int × (Int × ((List Int) × (((List Int) × ((List Int) × Unit)) × (((List Int) × ((List Int) × Unit)) × Unit)))))) big F21L0 (0, ((lenI v3), (v3, (v1.2.2.1, (v1.2.2.2.1, ())))))) fun v14 => (match v14 with | Out.norm v15 => none | Out.exit v16 => (match ((match v16 with | Sum.inl v19 => (Sum.inl ()) | Sum.inr v20 => (Empty.elim v20)) : (Unit ⊕ Empty)) with | Sum.inl v17 => (some (true, ())) | Sum.inr v18 => none) | Out.ret v21 => (some v21))))))
def h21 : Hd := ⟨[.st [.sl 3 (.int .i64), .sl 3 (.int .i64)], .st [.sl 3 (.int .i64), .sl 3 (.int .i64)], .int .i64], [], none, .p, .bool, .p, []⟩
def t21 : FSig := ⟨h21.ps, h21.cs, h21.io, h21.im, h21.R, h21.m, F21⟩
theorem e21 : fnOf tys [(15, t15)] Try.f21 h21 = t21 := by kernel_rfl
theorem k21 : SigOk Try.prog 21 t21 := (congrArg (SigOk Try.prog 21) e21).mp (fnOf_ok rfl tysOk ⟨k15, trivial⟩ Try.func21 (by decide) rfl (fun _ h => by cases h))
/-- slices.IndexFuncint,int -/
def F39L0 : (Int × (Int × (((Int × Unit) → (Option Bool)) × ((List Int) × Unit)))) → Option (Out (Int × (Int × (((Int × Unit) → (Option Bool)) × ((List Int) × Unit)))) ((Bool × (Int × (Int × (((Int × Unit) → (Option Bool)) × ((List Int) × Unit))))) ⊕ Empty) (Int × Unit)) :=
  (fun v0 => (if (ltZ v0.1 v0.2.1) = true then (Option.bind (getI v0.2.2.2.1 v0.1) fun v1 => (Option.bind (v0.2.2.1 (v1, ())) fun v2 => (if v2 = true then (some (Out.ret (v0.1, ()))) else (some (Out.norm ((addZ .i64 v0.1 1), (v0.2.1, (v0.2.2.1, (v0.2.2.2.1, ()))))))))) else (some (Out.exit (Sum.inl ((ltZ v0.1 v0.2.1), (v0.1, (v0.2.1, (v0.2.2.1, (v0.2.2.2.1, ()))))))))))
def F39 (x : ((List Int) × (((Int × Unit) → (Option Bool)) × Unit))) (c : Unit) : (Option (Int × Unit)) :=
  (Option.bind (loopN (A := (Int × (Int × (((Int × Unit) → (Option Bool)) × ((List Int) × Unit))))) big F39L0 (0, ((lenI x.1), (x.2.1, (x.1, ()))))) fun v3 => (match v3 with | Out.norm v4 => none | Out.exit v5 => (match ((match v5 with | Sum.inl v8 => (Sum.inl ()) | Sum.inr v9 => (Empty.elim v9)) : (Unit ⊕ Empty)) with | Sum.inl v6 => (some ((-1), ())) | Sum.inr v7 => none) | Out.ret v10 => (some v10)))
def h39 : Hd := ⟨[.sl 3 (.int .i64), .fn [.int .i64] (.bool)], [], none, .p, .int .i64, .p, []⟩
def t39 : FSig := ⟨h39.ps, h39.cs, h39.io, h39.im, h39.R, h39.m, F39⟩
theorem e39 : fnOf tys [] Try.f39 h39 = t39 := by kernel_rfl
theorem k39 : SigOk Try.prog 39 t39 := (congrArg (SigOk Try.prog 39) e39).mp (fnOf_ok rfl tysOk trivial Try.func39 (by decide) rfl (fun _ h => by cases h))
/-- slices.ContainsFuncint,int -/
def F34 (x : ((List Int) × (((Int × Unit) → (Option Bool)) × Unit))) (c : Unit) : (Option (Bool × Unit)) :=
  (Option.bind ((Option.bind (F39 (x.1, (x.2.1, ())) ()) fun v0 => (some v0.1)) : (Option Int)) fun v1 => (some ((leZ 0 v1), ())))
def h34 : Hd := ⟨[.sl 3 (.int .i64), .fn [.int .i64] (.bool)], [], none, .p, .bool, .p, []⟩
def t34 : FSig := ⟨h34.ps, h34.cs, h34.io, h34.im, h34.R, h34.m, F34⟩
theorem e34 : fnOf tys [(39, t39)] Try.f34 h34 = t34 := by kernel_rfl
theorem k34 : SigOk Try.prog 34 t34 := (congrArg (SigOk Try.prog 34) e34).mp (fnOf_ok rfl tysOk ⟨k39, trivial⟩ Try.func34 (by decide) rfl (fun _ h => by cases h))
/-- loop.example/g00806/impl.PrefixKept$1 -/
def F35 (x : (Int × Unit)) (c : (((List Int) × ((List Int) × Unit)) × (((List Int) × ((List Int) × Unit)) × Unit))) : (Option (Bool × Unit)) :=
  (Option.bind (getI c.1.1 x.1) fun v0 => (Option.bind (getI c.2.1.1 x.1) fun v1 => (Option.bind ((if (notB (eqZ v0 v1)) = true then (some (true, ())) else (Option.bind (getI c.1.2.1 x.1) fun v2 => (Option.bind (getI c.2.1.2.1 x.1) fun v3 => (some ((notB (eqZ v2 v3)), ()))))) : (Option (Bool × Unit))) fun v4 => (some (v4.1, ())))))
def h35 : Hd := ⟨[.int .i64], [.st [.sl 3 (.int .i64), .sl 3 (.int .i64)], .st [.sl 3 (.int .i64), .sl 3 (.int .i64)]], none, .p, .bool, .p, []⟩
def t35 : FSig := ⟨h35.ps, h35.cs, h35.io, h35.im, h35.R, h35.m, F35⟩
theorem e35 : fnOf tys [] Try.f35 h35 = t35 := by kernel_rfl
theorem k35 : SigOk Try.prog 35 t35 := (congrArg (SigOk Try.prog 35) e35).mp (fnOf_ok rfl tysOk trivial Try.func35 (by decide) rfl (fun _ h => by cases h))
/-- loop.example/g00806/impl.PrefixKept -/
def F22 (x : (((List Int) × ((List Int) × Unit)) × (((List Int) × ((List Int) × Unit)) × (Int × Unit)))) (c : Unit) : (Option (Bool × Unit)) :=
  (Option.bind ((if (notB (eqZ (lenI x.1.2.1) (lenI x.1.1))) = true then (some (true, (x.2.2.1, (x.1, (x.2.1, ()))))) else (Option.bind ((if (notB (eqZ (lenI x.2.1.1) (lenI x.1.1))) = true then (some (true, (x.2.2.1, (x.1, (x.2.1, ()))))) else (some ((notB (eqZ (lenI x.2.1.2.1) (lenI x.1.1))), (x.2.2.1, (x.1, (x.2.1, ())))))) : (Option (Bool × (Int × (((List Int) × ((List Int) × Unit)) × (((List Int) × ((List Int) × Unit)) × Unit)))))) fun v0 => (some (v0.1, (v0.2.1, (v0.2.2.1, (v0.2.2.2.1, ()))))))) : (Option (Bool × (Int × (((List Int) × ((List Int) × Unit)) × (((List Int) × ((List Int) × Unit)) × Unit)))))) fun v1 => (if v1.1 = true then (some (false, ())) else (Option.bind ((Option.bind (F16 (v1.2.2.1, (v1.2.1, ())) ()) fun v2 => (some v2.1)) : (Option (List Int))) fun v3 => (Option.bind ((Option.bind (F34 (v3, ((fun v4 => (Option.bind (F35 v4 (v1.2.2.1, (v1.2.2.2.1, ()))) fun v5 => (some v5.1))), ())) ()) fun v6 => (some v6.1)) : (Option Bool)) fun v7 => (some ((notB v7), ()))))))
def h22 : Hd := ⟨[.st [.sl 3 (.int .i64), .sl 3 (.int .i64)], .st [.sl 3 (.int .i64), .sl 3 (.int .i64)], .int .i64], [], none, .p, .bool, .p, []⟩
def t22 : FSig := ⟨h22.ps, h22.cs, h22.io, h22.im, h22.R, h22.m, F22⟩
theorem e22 : fnOf tys [(16, t16), (34, t34), (35, t35)] Try.f22 h22 = t22 := by kernel_rfl
theorem k22 : SigOk Try.prog 22 t22 := (congrArg (SigOk Try.prog 22) e22).mp (fnOf_ok rfl tysOk ⟨k16, k34, k35, trivial⟩ Try.func22 (by decide) rfl (fun _ h => by cases h))
/-- loop.example/g00806/laws.FnExactPrefixKept -/
def F6 (x : (((List Int) × ((List Int) × Unit)) × (((List Int) × ((List Int) × Unit)) × (Int × Unit)))) (c : Unit) : (Option (Bool × Unit)) :=
  (Option.bind ((Option.bind (F10 (x.1, (1048576, ())) ()) fun v0 => (some v0.1)) : (Option Int)) fun v1 => (if (ltZ v1 0) = true then (some (true, ())) else (Option.bind ((Option.bind (F10 (x.2.1, (v1, ())) ()) fun v2 => (some v2.1)) : (Option Int)) fun v3 => (if (ltZ v3 0) = true then (some (true, ())) else (Option.bind ((Option.bind (F12 (x.1, ()) ()) fun v4 => (some v4.1)) : (Option ((List Int) × ((List Int) × Unit)))) fun v5 => (Option.bind ((Option.bind (F12 (x.2.1, ()) ()) fun v6 => (some v6.1)) : (Option ((List Int) × ((List Int) × Unit)))) fun v7 => (Option.bind ((Option.bind (F21 (v5, (v7, (x.2.2.1, ()))) ()) fun v8 => (some v8.1)) : (Option Bool)) fun v9 => (Option.bind ((Option.bind (F12 (x.1, ()) ()) fun v10 => (some v10.1)) : (Option ((List Int) × ((List Int) × Unit)))) fun v11 => (Option.bind ((Option.bind (F12 (x.2.1, ()) ()) fun v12 => (some v12.1)) : (Option ((List Int) × ((List Int) × Unit)))) fun v13 => (Option.bind ((Option.bind (F22 (v11, (v13, (x.2.2.1, ()))) ()) fun v14 => (some v14.1)) : (Option Bool)) fun v15 => (if (notB (eqB v15 v9)) = true then (some (false, ())) else (Option.bind ((Option.bind (F12 (x.1, ()) ()) fun v16 => (some v16.1)) : (Option ((List Int) × ((List Int) × Unit)))) fun v17 => (Option.bind ((Option.bind (F14 (v11, (v17, ())) ()) fun v18 => (some v18.1)) : (Option Bool)) fun v19 => (if (notB v19) = true then (some (false, ())) else (Option.bind ((Option.bind (F12 (x.2.1, ()) ()) fun v20 => (some v20.1)) : (Option ((List Int) × ((List Int) × Unit)))) fun v21 => (Option.bind ((Option.bind (F14 (v13, (v21, ())) ()) fun v22 => (some v22.1)) : (Option Bool)) fun v23 => (if (notB v23) = true then (some (false, ())) else (some (true, ())))))))))))))))))))
def h6 : Hd := ⟨[.st [.sl 3 (.int .i64), .sl 3 (.int .i64)], .st [.sl 3 (.int .i64), .sl 3 (.int .i64)], .int .i64], [], none, .p, .bool, .p, []⟩
def t6 : FSig := ⟨h6.ps, h6.cs, h6.io, h6.im, h6.R, h6.m, F6⟩
theorem e6 : fnOf tys [(10, t10), (12, t12), (14, t14), (21, t21), (22, t22)] Try.f6 h6 = t6 := by kernel_rfl
theorem k6 : SigOk Try.prog 6 t6 := (congrArg (SigOk Try.prog 6) e6).mp (fnOf_ok rfl tysOk ⟨k10, k12, k14, k21, k22, trivial⟩ Try.func6 (by decide) rfl (fun _ h => by cases h))
/-- loop.example/g00806/laws.szLiteralS -/
def F43 (x : ((List (Int × (Int × (Int × Unit)))) × (Int × Unit))) (c : Unit) : (Option (Int × Unit)) :=
  (if (ltZ (subZ .i64 x.2.1 (lenI x.1)) 0) = true then (some ((-1), ())) else (some ((subZ .i64 x.2.1 (lenI x.1)), ())))
def h43 : Hd := ⟨[.sl 81 (.st [.int .i64, .int .i64, .int .i64]), .int .i64], [], none, .p, .int .i64, .p, []⟩
def t43 : FSig := ⟨h43.ps, h43.cs, h43.io, h43.im, h43.R, h43.m, F43⟩
theorem e43 : fnOf tys [] Try.f43 h43 = t43 := by kernel_rfl
theorem k43 : SigOk Try.prog 43 t43 := (congrArg (SigOk Try.prog 43) e43).mp (fnOf_ok rfl tysOk trivial Try.func43 (by decide) rfl (fun _ h => by cases h))
/-- loop.example/g00806/laws.szLine -/
def F40 (x : ((Int × ((Int × (Int × (Int × (Int × Unit)))) × ((List (Int × (Int × (Int × Unit)))) × Unit))) × (Int × Unit))) (c : Unit) : (Option (Int × Unit)) :=
  (Option.bind ((Option.bind (F43 (x.1.2.2.1, (x.2.1, ())) ()) fun v0 => (some v0.1)) : (Option Int)) fun v1 => (if (ltZ v1 0) = true then (some ((-1), ())) else (some (v1, ()))))
def h40 : Hd := ⟨[.st [.int .i64, .st [.int .i64, .int .i64, .int .i64, .int .i64], .sl 81 (.st [.int .i64, .int .i64, .int .i64])], .int .i64], [], none, .p, .int .i64, .p, []⟩
def t40 : FSig := ⟨h40.ps, h40.cs, h40.io, h40.im, h40.R, h40.m, F40⟩
theorem e40 : fnOf tys [(43, t43)] Try.f40 h40 = t40 := by kernel_rfl
theorem k40 : SigOk Try.prog 40 t40 := (congrArg (SigOk Try.prog 40) e40).mp (fnOf_ok rfl tysOk ⟨k43, trivial⟩ Try.func40 (by decide) rfl (fun _ h => by cases h))
/-- loop.example/g00806/laws.szLineS -/
def F36L0 : (Int × ((List (Int × ((Int × (Int × (Int × (Int × Unit)))) × ((List (Int × (Int × (Int × Unit)))) × Unit)))) × (Int × Unit))) → Option (Out (Int × ((List (Int × ((Int × (Int × (Int × (Int × Unit)))) × ((List (Int × (Int × (Int × Unit)))) × Unit)))) × (Int × Unit))) ((Bool × (Int × ((List (Int × ((Int × (Int × (Int × (Int × Unit)))) × ((List (Int × (Int × (Int × Unit)))) × Unit)))) × (Int × Unit)))) ⊕ Empty) (Int × Unit)) :=
  (fun v0 => (if (ltZ v0.1 (lenI v0.2.1)) = true then (Option.bind (getI v0.2.1 v0.1) fun v1 => (Option.bind ((Option.bind (F40 (v1, (v0.2.2.1, ())) ()) fun v2 => (some v2.1)) : (Option Int)) fun v3 => (if (ltZ v3 0) = true then (some (Out.ret ((-1), ()))) else (some (Out.norm ((addZ .i64 v0.1 1), (v0.2.1, (v3, ())))))))) else (some (Out.exit (Sum.inl ((ltZ v0.1 (lenI v0.2.1)), (v0.1, (v0.2.1, (v0.2.2.1, ())))))))))
def F36 (x : ((List (Int × ((Int × (Int × (Int × (Int × Unit)))) × ((List (Int × (Int × (Int × Unit)))) × Unit)))) × (Int × Unit))) (c : Unit) : (Option (Int × Unit)) :=
  (if (ltZ (subZ .i64 x.2.1 (lenI x.1)) 0) = true then (some ((-1), ())) else (Option.bind (loopN (A := (Int × ((List (Int × ((Int × (Int × (Int × (Int × Unit)))) × ((List (Int × (Int × (Int × Unit)))) × Unit)))) × (Int × Unit)))) big F36L0 (0, (x.1, ((subZ .i64 x.2.1 (lenI x.1)), ())))) fun v4 => (match v4 with | Out.norm v5 => none | Out.exit v6 => (match ((match v6 with | Sum.inl v9 => (Sum.inl (v9.2.2.2.1, ())) | Sum.inr v10 => (Empty.elim v10)) : ((Int × Unit) ⊕ Empty)) with | Sum.inl v7 => (some (v7.1, ())) | Sum.inr v8 => none) | Out.ret v11 => (some v11))))
def h36 : Hd := ⟨[.sl 66 (.st [.int .i64, .st [.int .i64, .int .i64, .int .i64, .int .i64], .sl 81 (.st [.int .i64, .int .i64, .int .i64])]), .int .i64], [], none, .p, .int .i64, .p, []⟩
def t36 : FSig := ⟨h36.ps, h36.cs, h36.io, h36.im, h36.R, h36.m, F36⟩
theorem e36 : fnOf tys [(40, t40)] Try.f36 h36 = t36 := by kernel_rfl
theorem k36 : SigOk Try.prog 36 t36 := (congrArg (SigOk Try.prog 36) e36).mp (fnOf_ok rfl tysOk ⟨k40, trivial⟩ Try.func36 (by decide) rfl (fun _ h => by cases h))
/-- loop.example/g00806/laws.szResult -/
def F23 (x : ((Int × (((List Int) × ((List Int) × Unit)) × (Int × (Int × ((List (Int × ((Int × (Int × (Int × (Int × Unit)))) × ((List (Int × (Int × (Int × Unit)))) × Unit)))) × (Int × Unit)))))) × (Int × Unit))) (c : Unit) : (Option (Int × Unit)) :=
  (Option.bind ((Option.bind (F10 (x.1.2.1, (x.2.1, ())) ()) fun v0 => (some v0.1)) : (Option Int)) fun v1 => (if (ltZ v1 0) = true then (some ((-1), ())) else (Option.bind ((Option.bind (F36 (x.1.2.2.2.2.1, (v1, ())) ()) fun v2 => (some v2.1)) : (Option Int)) fun v3 => (if (ltZ v3 0) = true then (some ((-1), ())) else (some (v3, ()))))))
def h23 : Hd := ⟨[.st [.int .i64, .st [.sl 3 (.int .i64), .sl 3 (.int .i64)], .int .i64, .int .i64, .sl 66 (.st [.int .i64, .st [.int .i64, .int .i64, .int .i64, .int .i64], .sl 81 (.st [.int .i64, .int .i64, .int .i64])]), .int .i64], .int .i64], [], none, .p, .int .i64, .p, []⟩
def t23 : FSig := ⟨h23.ps, h23.cs, h23.io, h23.im, h23.R, h23.m, F23⟩
theorem e23 : fnOf tys [(10, t10), (36, t36)] Try.f23 h23 = t23 := by kernel_rfl
theorem k23 : SigOk Try.prog 23 t23 := (congrArg (SigOk Try.prog 23) e23).mp (fnOf_ok rfl tysOk ⟨k10, k36, trivial⟩ Try.func23 (by decide) rfl (fun _ h => by cases h))
/-- loop.example/g00806/spec.ResultGap -/
def F24 (x : ((Int × (((List Int) × ((List Int) × Unit)) × (Int × (Int × ((List (Int × ((Int × (Int × (Int × (Int × Unit)))) × ((List (Int × (Int × (Int × Unit)))) × Unit)))) × (Int × Unit)))))) × Unit)) (c : Unit) : (Option (Int × Unit)) :=
  (Option.bind ((if (notB (eqZ x.1.1 1)) = true then (some ((notB (eqZ x.1.1 3)), (x.1, ()))) else (some (false, (x.1, ())))) : (Option (Bool × ((Int × (((List Int) × ((List Int) × Unit)) × (Int × (Int × ((List (Int × ((Int × (Int × (Int × (Int × Unit)))) × ((List (Int × (Int × (Int × Unit)))) × Unit)))) × (Int × Unit)))))) × Unit)))) fun v0 => (if v0.1 = true then (some ((-1), ())) else (some ((subZ .i64 v0.2.1.2.2.1 v0.2.1.2.2.2.1), ()))))
def h24 : Hd := ⟨[.st [.int .i64, .st [.sl 3 (.int .i64), .sl 3 (.int .i64)], .int .i64, .int .i64, .sl 70 (.st [.int .i64, .st [.int .i64, .int .i64, .int .i64, .int .i64], .sl 79 (.st [.int .i64, .int .i64, .int .i64])]), .int .i64]], [], none, .p, .int .i64, .p, []⟩
def t24 : FSig := ⟨h24.ps, h24.cs, h24.io, h24.im, h24.R, h24.m, F24⟩
theorem e24 : fnOf tys [] Try.f24 h24 = t24 := by kernel_rfl
theorem k24 : SigOk Try.prog 24 t24 := (congrArg (SigOk Try.prog 24) e24).mp (fnOf_ok rfl tysOk trivial Try.func24 (by decide) rfl (fun _ h => by cases h))
/-- loop.example/g00806/laws.toRule -/
def F44 (x : ((Int × (Int × (Int × (Int × Unit)))) × Unit)) (c : Unit) : (Option ((Int × (Int × (Int × (Int × Unit)))) × Unit)) :=
  (some ((x.1.1, (x.1.2.1, (x.1.2.2.1, (x.1.2.2.2.1, ())))), ()))
def h44 : Hd := ⟨[.st [.int .i64, .int .i64, .int .i64, .int .i64]], [], none, .p, .st [.int .i64, .int .i64, .int .i64, .int .i64], .p, []⟩
def t44 : FSig := ⟨h44.ps, h44.cs, h44.io, h44.im, h44.R, h44.m, F44⟩
theorem e44 : fnOf tys [] Try.f44 h44 = t44 := by kernel_rfl
theorem k44 : SigOk Try.prog 44 t44 := (congrArg (SigOk Try.prog 44) e44).mp (fnOf_ok rfl tysOk trivial Try.func44 (by decide) rfl (fun _ h => by cases h))
/-- loop.example/g00806/laws.toLiteral -/
def F48 (x : ((Int × (Int × (Int × Unit))) × Unit)) (c : Unit) : (Option ((Int × (Int × (Int × Unit))) × Unit)) :=
  (some ((x.1.1, (x.1.2.1, (x.1.2.2.1, ()))), ()))
def h48 : Hd := ⟨[.st [.int .i64, .int .i64, .int .i64]], [], none, .p, .st [.int .i64, .int .i64, .int .i64], .p, []⟩
def t48 : FSig := ⟨h48.ps, h48.cs, h48.io, h48.im, h48.R, h48.m, F48⟩
theorem e48 : fnOf tys [] Try.f48 h48 = t48 := by kernel_rfl
theorem k48 : SigOk Try.prog 48 t48 := (congrArg (SigOk Try.prog 48) e48).mp (fnOf_ok rfl tysOk trivial Try.func48 (by decide) rfl (fun _ h => by cases h))
/-- loop.example/g00806/laws.toLiteralS -/
def F45L0 : (Int × ((List (Int × (Int × (Int × Unit)))) × ((List (Int × (Int × (Int × Unit)))) × Unit))) → Option (Out (Int × ((List (Int × (Int × (Int × Unit)))) × ((List (Int × (Int × (Int × Unit)))) × Unit))) ((Bool × (Int × ((List (Int × (Int × (Int × Unit)))) × ((List (Int × (Int × (Int × Unit)))) × Unit)))) ⊕ Empty) ((List (Int × (Int × (Int × Unit)))) × Unit)) :=
  (fun v1 => (if (ltZ v1.1 (lenI v1.2.1)) = true then (Option.bind (getI v1.2.1 v1.1) fun v2 => (Option.bind ((Option.bind (F48 (v2, ()) ()) fun v3 => (some v3.1)) : (Option (Int × (Int × (Int × Unit))))) fun v4 => (Option.bind ((Option.bind (getI v1.2.2.1 v1.1) fun v5 => (some ())) : (Option Unit)) fun v6 => (Option.bind ((Option.bind ((Option.bind (getI v1.2.2.1 v1.1) fun v7 => (some v7)) : (Option (Int × (Int × (Int × Unit))))) fun v8 => (some v4)) : (Option (Int × (Int × (Int × Unit))))) fun v9 => (some (Out.norm ((addZ .i64 v1.1 1), (v1.2.1, ((setI v1.2.2.1 v1.1 (fun v10 => v9)), ()))))))))) else (some (Out.exit (Sum.inl ((ltZ v1.1 (lenI v1.2.1)), (v1.1, (v1.2.1, (v1.2.2.1, ())))))))))
def F45 (x : ((List (Int × (Int × (Int × Unit)))) × Unit)) (c : Unit) : (Option ((List (Int × (Int × (Int × Unit)))) × Unit)) :=
  (Option.bind ((if (eqZ (lenI x.1) (lenI x.1)) = true then (zerosI (lenI x.1) (0, (0, (0, ())))) else none) : (Option (List (Int × (Int × (Int × Unit)))))) fun v0 => (Option.bind (loopN (A := (Int × ((List (Int × (Int × (Int × Unit)))) × ((List (Int × (Int × (Int × Unit)))) × Unit)))) big F45L0 (0, (x.1, (v0, ())))) fun v11 => (match v11 with | Out.norm v12 => none | Out.exit v13 => (match ((match v13 with | Sum.inl v16 => (Sum.inl (v16.2.2.2.1, ())) | Sum.inr v17 => (Empty.elim v17)) : (((List (Int × (Int × (Int × Unit)))) × Unit) ⊕ Empty)) with | Sum.inl v14 => (some (v14.1, ())) | Sum.inr v15 => none) | Out.ret v18 => (some v18))))
def h45 : Hd := ⟨[.sl 81 (.st [.int .i64, .int .i64, .int .i64])], [], none, .p, .sl 79 (.st [.int .i64, .int .i64, .int .i64]), (Ty.all (.sl 79 (.st [.int .i64, .int .i64, .int .i64]))), []⟩
def t45 : FSig := ⟨h45.ps, h45.cs, h45.io, h45.im, h45.R, h45.m, F45⟩
theorem e45 : fnOf tys [(48, t48)] Try.f45 h45 = t45 := by kernel_rfl
theorem k45 : SigOk Try.prog 45 t45 := (congrArg (SigOk Try.prog 45) e45).mp (fnOf_ok rfl tysOk ⟨k48, trivial⟩ Try.func45 (by decide) rfl (fun _ h => by cases h))
/-- loop.example/g00806/laws.toLine -/
def F41 (x : ((Int × ((Int × (Int × (Int × (Int × Unit)))) × ((List (Int × (Int × (Int × Unit)))) × Unit))) × Unit)) (c : Unit) : (Option ((Int × ((Int × (Int × (Int × (Int × Unit)))) × ((List (Int × (Int × (Int × Unit)))) × Unit))) × Unit)) :=
  (Option.bind ((Option.bind (F44 (x.1.2.1, ()) ()) fun v0 => (some v0.1)) : (Option (Int × (Int × (Int × (Int × Unit)))))) fun v1 => (Option.bind ((Option.bind (F45 (x.1.2.2.1, ()) ()) fun v2 => (some v2.1)) : (Option (List (Int × (Int × (Int × Unit)))))) fun v3 => (some ((x.1.1, (v1, (v3, ()))), ()))))
def h41 : Hd := ⟨[.st [.int .i64, .st [.int .i64, .int .i64, .int .i64, .int .i64], .sl 81 (.st [.int .i64, .int .i64, .int .i64])]], [], none, .p, .st [.int .i64, .st [.int .i64, .int .i64, .int .i64, .int .i64], .sl 79 (.st [.int .i64, .int .i64, .int .i64])], (Ty.all (.st [.int .i64, .st [.int .i64, .int .i64, .int .i64, .int .i64], .sl 79 (.st [.int .i64, .int .i64, .int .i64])])), []⟩
def t41 : FSig := ⟨h41.ps, h41.cs, h41.io, h41.im, h41.R, h41.m, F41⟩
theorem e41 : fnOf tys [(44, t44), (45, t45)] Try.f41 h41 = t41 := by kernel_rfl
theorem k41 : SigOk Try.prog 41 t41 := (congrArg (SigOk Try.prog 41) e41).mp (fnOf_ok rfl tysOk ⟨k44, k45, trivial⟩ Try.func41 (by decide) rfl (fun _ h => by cases h))
/-- loop.example/g00806/laws.toLineS -/
def F37L0 : (Int × ((List (Int × ((Int × (Int × (Int × (Int × Unit)))) × ((List (Int × (Int × (Int × Unit)))) × Unit)))) × ((List (Int × ((Int × (Int × (Int × (Int × Unit)))) × ((List (Int × (Int × (Int × Unit)))) × Unit)))) × Unit))) → Option (Out (Int × ((List (Int × ((Int × (Int × (Int × (Int × Unit)))) × ((List (Int × (Int × (Int × Unit)))) × Unit)))) × ((List (Int × ((Int × (Int × (Int × (Int × Unit)))) × ((List (Int × (Int × (Int × Unit)))) × Unit)))) × Unit))) ((Bool × (Int × ((List (Int × ((Int × (Int × (Int × (Int × Unit)))) × ((List (Int × (Int × (Int × Unit)))) × Unit)))) × ((List (Int × ((Int × (Int × (Int × (Int × Unit)))) × ((List (Int × (Int × (Int × Unit)))) × Unit)))) × Unit)))) ⊕ Empty) ((List (Int × ((Int × (Int × (Int × (Int × Unit)))) × ((List (Int × (Int × (Int × Unit)))) × Unit)))) × Unit)) :=
  (fun v1 => (if (ltZ v1.1 (lenI v1.2.1)) = true then (Option.bind (getI v1.2.1 v1.1) fun v2 => (Option.bind ((Option.bind (F41 (v2, ()) ()) fun v3 => (some v3.1)) : (Option (Int × ((Int × (Int × (Int × (Int × Unit)))) × ((List (Int × (Int × (Int × Unit)))) × Unit))))) fun v4 => (Option.bind ((Option.bind (getI v1.2.2.1 v1.1) fun v5 => (some ())) : (Option Unit)) fun v6 => (Option.bind ((Option.bind ((Option.bind (getI v1.2.2.1 v1.1) fun v7 => (some v7)) : (Option (Int × ((Int × (Int × (Int × (Int × Unit)))) × ((List (Int × (Int × (Int × Unit)))) × Unit))))) fun v8 => (some v4)) : (Option (Int × ((Int × (Int × (Int × (Int × Unit)))) × ((List (Int × (Int × (Int × Unit)))) × Unit))))) fun v9 => (some (Out.norm ((addZ .i64 v1.1 1), (v1.2.1, ((setI v1.2.2.1 v1.1 (fun v10 => v9)), ()))))))))) else (some (Out.exit (Sum.inl ((ltZ v1.1 (lenI v1.2.1)), (v1.1, (v1.2.1, (v1.2.2.1, ())))))))))
def F37 (x : ((List (Int × ((Int × (Int × (Int × (Int × Unit)))) × ((List (Int × (Int × (Int × Unit)))) × Unit)))) × Unit)) (c : Unit) : (Option ((List (Int × ((Int × (Int × (Int × (Int × Unit)))) × ((List (Int × (Int × (Int × Unit)))) × Unit)))) × Unit)) :=
  (Option.bind ((if (eqZ (lenI x.1) (lenI x.1)) = true then (zerosI (lenI x.1) (0, ((0, (0, (0, (0, ())))), ([], ())))) else none) : (Option (List (Int × ((Int × (Int × (Int × (Int × Unit)))) × ((List (Int × (Int × (Int × Unit)))) × Unit)))))) fun v0 => (Option.bind (loopN (A := (Int × ((List (Int × ((Int × (Int × (Int × (Int × Unit)))) × ((List (Int × (Int × (Int × Unit)))) × Unit)))) × ((List (Int × ((Int × (Int × (Int × (Int × Unit)))) × ((List (Int × (Int × (Int × Unit)))) × Unit)))) × Unit)))) big F37L0 (0, (x.1, (v0, ())))) fun v11 => (match v11 with | Out.norm v12 => none | Out.exit v13 => (match ((match v13 with | Sum.inl v16 => (Sum.inl (v16.2.2.2.1, ())) | Sum.inr v17 => (Empty.elim v17)) : (((List (Int × ((Int × (Int × (Int × (Int × Unit)))) × ((List (Int × (Int × (Int × Unit)))) × Unit)))) × Unit) ⊕ Empty)) with | Sum.inl v14 => (some (v14.1, ())) | Sum.inr v15 => none) | Out.ret v18 => (some v18))))
def h37 : Hd := ⟨[.sl 66 (.st [.int .i64, .st [.int .i64, .int .i64, .int .i64, .int .i64], .sl 81 (.st [.int .i64, .int .i64, .int .i64])])], [], none, .p, .sl 70 (.st [.int .i64, .st [.int .i64, .int .i64, .int .i64, .int .i64], .sl 79 (.st [.int .i64, .int .i64, .int .i64])]), (Ty.all (.sl 70 (.st [.int .i64, .st [.int .i64, .int .i64, .int .i64, .int .i64], .sl 79 (.st [.int .i64, .int .i64, .int .i64])]))), []⟩
def t37 : FSig := ⟨h37.ps, h37.cs, h37.io, h37.im, h37.R, h37.m, F37⟩
theorem e37 : fnOf tys [(41, t41)] Try.f37 h37 = t37 := by kernel_rfl
theorem k37 : SigOk Try.prog 37 t37 := (congrArg (SigOk Try.prog 37) e37).mp (fnOf_ok rfl tysOk ⟨k41, trivial⟩ Try.func37 (by decide) rfl (fun _ h => by cases h))
/-- loop.example/g00806/laws.toResult -/
def F25 (x : ((Int × (((List Int) × ((List Int) × Unit)) × (Int × (Int × ((List (Int × ((Int × (Int × (Int × (Int × Unit)))) × ((List (Int × (Int × (Int × Unit)))) × Unit)))) × (Int × Unit)))))) × Unit)) (c : Unit) : (Option ((Int × (((List Int) × ((List Int) × Unit)) × (Int × (Int × ((List (Int × ((Int × (Int × (Int × (Int × Unit)))) × ((List (Int × (Int × (Int × Unit)))) × Unit)))) × (Int × Unit)))))) × Unit)) :=
  (Option.bind ((Option.bind (F12 (x.1.2.1, ()) ()) fun v0 => (some v0.1)) : (Option ((List Int) × ((List Int) × Unit)))) fun v1 => (Option.bind ((Option.bind (F37 (x.1.2.2.2.2.1, ()) ()) fun v2 => (some v2.1)) : (Option (List (Int × ((Int × (Int × (Int × (Int × Unit)))) × ((List (Int × (Int × (Int × Unit)))) × Unit)))))) fun v3 => (some ((x.1.1, (v1, (x.1.2.2.1, (x.1.2.2.2.1, (v3, (x.1.2.2.2.2.2.1, ())))))), ()))))
def h25 : Hd := ⟨[.st [.int .i64, .st [.sl 3 (.int .i64), .sl 3 (.int .i64)], .int .i64, .int .i64, .sl 66 (.st [.int .i64, .st [.int .i64, .int .i64, .int .i64, .int .i64], .sl 81 (.st [.int .i64, .int .i64, .int .i64])]), .int .i64]], [], none, .p, .st [.int .i64, .st [.sl 3 (.int .i64), .sl 3 (.int .i64)], .int .i64, .int .i64, .sl 70 (.st [.int .i64, .st [.int .i64, .int .i64, .int .i64, .int .i64], .sl 79 (.st [.int .i64, .int .i64, .int .i64])]), .int .i64], (Ty.all (.st [.int .i64, .st [.sl 3 (.int .i64), .sl 3 (.int .i64)], .int .i64, .int .i64, .sl 70 (.st [.int .i64, .st [.int .i64, .int .i64, .int .i64, .int .i64], .sl 79 (.st [.int .i64, .int .i64, .int .i64])]), .int .i64])), []⟩
def t25 : FSig := ⟨h25.ps, h25.cs, h25.io, h25.im, h25.R, h25.m, F25⟩
theorem e25 : fnOf tys [(12, t12), (37, t37)] Try.f25 h25 = t25 := by kernel_rfl
theorem k25 : SigOk Try.prog 25 t25 := (congrArg (SigOk Try.prog 25) e25).mp (fnOf_ok rfl tysOk ⟨k12, k37, trivial⟩ Try.func25 (by decide) rfl (fun _ h => by cases h))
/-- loop.example/g00806/impl.ResultGap -/
def F26 (x : ((Int × (((List Int) × ((List Int) × Unit)) × (Int × (Int × ((List (Int × ((Int × (Int × (Int × (Int × Unit)))) × ((List (Int × (Int × (Int × Unit)))) × Unit)))) × (Int × Unit)))))) × Unit)) (c : Unit) : (Option (Int × Unit)) :=
  (Option.bind ((if (notB (eqZ x.1.1 1)) = true then (some ((notB (eqZ x.1.1 3)), (x.1, ()))) else (some (false, (x.1, ())))) : (Option (Bool × ((Int × (((List Int) × ((List Int) × Unit)) × (Int × (Int × ((List (Int × ((Int × (Int × (Int × (Int × Unit)))) × ((List (Int × (Int × (Int × Unit)))) × Unit)))) × (Int × Unit)))))) × Unit)))) fun v0 => (if v0.1 = true then (some ((-1), ())) else (some ((subZ .i64 v0.2.1.2.2.1 v0.2.1.2.2.2.1), ()))))
def h26 : Hd := ⟨[.st [.int .i64, .st [.sl 3 (.int .i64), .sl 3 (.int .i64)], .int .i64, .int .i64, .sl 70 (.st [.int .i64, .st [.int .i64, .int .i64, .int .i64, .int .i64], .sl 79 (.st [.int .i64, .int .i64, .int .i64])]), .int .i64]], [], none, .p, .int .i64, .p, []⟩
def t26 : FSig := ⟨h26.ps, h26.cs, h26.io, h26.im, h26.R, h26.m, F26⟩
theorem e26 : fnOf tys [] Try.f26 h26 = t26 := by kernel_rfl
theorem k26 : SigOk Try.prog 26 t26 := (congrArg (SigOk Try.prog 26) e26).mp (fnOf_ok rfl tysOk trivial Try.func26 (by decide) rfl (fun _ h => by cases h))
/-- loop.example/g00806/laws.eqRule -/
def F46 (x : ((Int × (Int × (Int × (Int × Unit)))) × ((Int × (Int × (Int × (Int × Unit)))) × Unit))) (c : Unit) : (Option (Bool × Unit)) :=
  (if (notB (eqZ x.1.1 x.2.1.1)) = true then (some (false, ())) else (if (notB (eqZ x.1.2.1 x.2.1.2.1)) = true then (some (false, ())) else (if (notB (eqZ x.1.2.2.1 x.2.1.2.2.1)) = true then (some (false, ())) else (if (notB (eqZ x.1.2.2.2.1 x.2.1.2.2.2.1)) = true then (some (false, ())) else (some (true, ()))))))
def h46 : Hd := ⟨[.st [.int .i64, .int .i64, .int .i64, .int .i64], .st [.int .i64, .int .i64, .int .i64, .int .i64]], [], none, .p, .bool, .p, []⟩
def t46 : FSig := ⟨h46.ps, h46.cs, h46.io, h46.im, h46.R, h46.m, F46⟩
theorem e46 : fnOf tys [] Try.f46 h46 = t46 := by kernel_rfl
theorem k46 : SigOk Try.prog 46 t46 := (congrArg (SigOk Try.prog 46) e46).mp (fnOf_ok rfl tysOk trivial Try.func46 (by decide) rfl (fun _ h => by cases h))
/-- loop.example/g00806/laws.eqLiteral -/
def F49 (x : ((Int × (Int × (Int × Unit))) × ((Int × (Int × (Int × Unit))) × Unit))) (c : Unit) : (Option (Bool × Unit)) :=
  (if (notB (eqZ x.1.1 x.2.1.1)) = true then (some (false, ())) else (if (notB (eqZ x.1.2.1 x.2.1.2.1)) = true then (some (false, ())) else (if (notB (eqZ x.1.2.2.1 x.2.1.2.2.1)) = true then (some (false, ())) else (some (true, ())))))
def h49 : Hd := ⟨[.st [.int .i64, .int .i64, .int .i64], .st [.int .i64, .int .i64, .int .i64]], [], none, .p, .bool, .p, []⟩
def t49 : FSig := ⟨h49.ps, h49.cs, h49.io, h49.im, h49.R, h49.m, F49⟩
theorem e49 : fnOf tys [] Try.f49 h49 = t49 := by kernel_rfl
theorem k49 : SigOk Try.prog 49 t49 := (congrArg (SigOk Try.prog 49) e49).mp (fnOf_ok rfl tysOk trivial Try.func49 (by decide) rfl (fun _ h => by cases h))
/-- loop.example/g00806/laws.eqLiteralS -/
def F47L0 : (Int × ((List (Int × (Int × (Int × Unit)))) × ((List (Int × (Int × (Int × Unit)))) × Unit))) → Option (Out (Int × ((List (Int × (Int × (Int × Unit)))) × ((List (Int × (Int × (Int × Unit)))) × Unit))) ((Bool × (Int × ((List (Int × (Int × (Int × Unit)))) × ((List (Int × (Int × (Int × Unit)))) × Unit)))) ⊕ Empty) (Bool × Unit)) :=
  (fun v0 => (if (ltZ v0.1 (lenI v0.2.1)) = true then (Option.bind (getI v0.2.1 v0.1) fun v1 => (Option.bind (getI v0.2.2.1 v0.1) fun v2 => (Option.bind ((Option.bind (F49 (v1, (v2, ())) ()) fun v3 => (some v3.1)) : (Option Bool)) fun v4 => (if (notB v4) = true then (some (Out.ret (false, ()))) else (some (Out.norm ((addZ .i64 v0.1 1), (v0.2.1, (v0.2.2.1, ()))))))))) else (some (Out.exit (Sum.inl ((ltZ v0.1 (lenI v0.2.1)), (v0.1, (v0.2.1, (v0.2.2.1, ())))))))))
def F47 (x : ((List (Int × (Int × (Int × Unit)))) × ((List (Int × (Int × (Int × Unit)))) × Unit))) (c : Unit) : (Option (Bool × Unit)) :=
  (if (notB (eqZ (lenI x.1) (lenI x.2.1))) = true then (some (false, ())) else (Option.bind (loopN (A := (Int × ((List (Int × (Int × (Int × Unit)))) × ((List (Int × (Int × (Int × Unit)))) × Unit)))) big F47L0 (0, (x.1, (x.2.1, ())))) fun v5 => (match v5 with | Out.norm v6 => none | Out.exit v7 => (match ((match v7 with | Sum.inl v10 => (Sum.inl ()) | Sum.inr v11 => (Empty.elim v11)) : (Unit ⊕ Empty)) with | Sum.inl v8 => (some (true, ())) | Sum.inr v9 => none) | Out.ret v12 => (some v12))))
def h47 : Hd := ⟨[.sl 79 (.st [.int .i64, .int .i64, .int .i64]), .sl 79 (.st [.int .i64, .int .i64, .int .i64])], [], none, .p, .bool, .p, []⟩
def t47 : FSig := ⟨h47.ps, h47.cs, h47.io, h47.im, h47.R, h47.m, F47⟩
theorem e47 : fnOf tys [(49, t49)] Try.f47 h47 = t47 := by kernel_rfl
theorem k47 : SigOk Try.prog 47 t47 := (congrArg (SigOk Try.prog 47) e47).mp (fnOf_ok rfl tysOk ⟨k49, trivial⟩ Try.func47 (by decide) rfl (fun _ h => by cases h))
/-- loop.example/g00806/laws.eqLine -/
def F42 (x : ((Int × ((Int × (Int × (Int × (Int × Unit)))) × ((List (Int × (Int × (Int × Unit)))) × Unit))) × ((Int × ((Int × (Int × (Int × (Int × Unit)))) × ((List (Int × (Int × (Int × Unit)))) × Unit))) × Unit))) (c : Unit) : (Option (Bool × Unit)) :=
  (if (notB (eqZ x.1.1 x.2.1.1)) = true then (some (false, ())) else (Option.bind ((Option.bind (F46 (x.1.2.1, (x.2.1.2.1, ())) ()) fun v0 => (some v0.1)) : (Option Bool)) fun v1 => (if (notB v1) = true then (some (false, ())) else (Option.bind ((Option.bind (F47 (x.1.2.2.1, (x.2.1.2.2.1, ())) ()) fun v2 => (some v2.1)) : (Option Bool)) fun v3 => (if (notB v3) = true then (some (false, ())) else (some (true, ())))))))
def h42 : Hd := ⟨[.st [.int .i64, .st [.int .i64, .int .i64, .int .i64, .int .i64], .sl 79 (.st [.int .i64, .int .i64, .int .i64])], .st [.int .i64, .st [.int .i64, .int .i64, .int .i64, .int .i64], .sl 79 (.st [.int .i64, .int .i64, .int .i64])]], [], none, .p, .bool, .p, []⟩
def t42 : FSig := ⟨h42.ps, h42.cs, h42.io, h42.im, h42.R, h42.m, F42⟩
theorem e42 : fnOf tys [(46, t46), (47, t47)] Try.f42 h42 = t42 := by kernel_rfl
theorem k42 : SigOk Try.prog 42 t42 := (congrArg (SigOk Try.prog 42) e42).mp (fnOf_ok rfl tysOk ⟨k46, k47, trivial⟩ Try.func42 (by decide) rfl (fun _ h => by cases h))
/-- loop.example/g00806/laws.eqLineS -/
def F38L0 : (Int × ((List (Int × ((Int × (Int × (Int × (Int × Unit)))) × ((List (Int × (Int × (Int × Unit)))) × Unit)))) × ((List (Int × ((Int × (Int × (Int × (Int × Unit)))) × ((List (Int × (Int × (Int × Unit)))) × Unit)))) × Unit))) → Option (Out (Int × ((List (Int × ((Int × (Int × (Int × (Int × Unit)))) × ((List (Int × (Int × (Int × Unit)))) × Unit)))) × ((List (Int × ((Int × (Int × (Int × (Int × Unit)))) × ((List (Int × (Int × (Int × Unit)))) × Unit)))) × Unit))) ((Bool × (Int × ((List (Int × ((Int × (Int × (Int × (Int × Unit)))) × ((List (Int × (Int × (Int × Unit)))) × Unit)))) × ((List (Int × ((Int × (Int × (Int × (Int × Unit)))) × ((List (Int × (Int × (Int × Unit)))) × Unit)))) × Unit)))) ⊕ Empty) (Bool × Unit)) :=
  (fun v0 => (if (ltZ v0.1 (lenI v0.2.1)) = true then (Option.bind (getI v0.2.1 v0.1) fun v1 => (Option.bind (getI v0.2.2.1 v0.1) fun v2 => (Option.bind ((Option.bind (F42 (v1, (v2, ())) ()) fun v3 => (some v3.1)) : (Option Bool)) fun v4 => (if (notB v4) = true then (some (Out.ret (false, ()))) else (some (Out.norm ((addZ .i64 v0.1 1), (v0.2.1, (v0.2.2.1, ()))))))))) else (some (Out.exit (Sum.inl ((ltZ v0.1 (lenI v0.2.1)), (v0.1, (v0.2.1, (v0.2.2.1, ())))))))))
def F38 (x : ((List (Int × ((Int × (Int × (Int × (Int × Unit)))) × ((List (Int × (Int × (Int × Unit)))) × Unit)))) × ((List (Int × ((Int × (Int × (Int × (Int × Unit)))) × ((List (Int × (Int × (Int × Unit)))) × Unit)))) × Unit))) (c : Unit) : (Option (Bool × Unit)) :=
  (if (notB (eqZ (lenI x.1) (lenI x.2.1))) = true then (some (false, ())) else (Option.bind (loopN (A := (Int × ((List (Int × ((Int × (Int × (Int × (Int × Unit)))) × ((List (Int × (Int × (Int × Unit)))) × Unit)))) × ((List (Int × ((Int × (Int × (Int × (Int × Unit)))) × ((List (Int × (Int × (Int × Unit)))) × Unit)))) × Unit)))) big F38L0 (0, (x.1, (x.2.1, ())))) fun v5 => (match v5 with | Out.norm v6 => none | Out.exit v7 => (match ((match v7 with | Sum.inl v10 => (Sum.inl ()) | Sum.inr v11 => (Empty.elim v11)) : (Unit ⊕ Empty)) with | Sum.inl v8 => (some (true, ())) | Sum.inr v9 => none) | Out.ret v12 => (some v12))))
def h38 : Hd := ⟨[.sl 70 (.st [.int .i64, .st [.int .i64, .int .i64, .int .i64, .int .i64], .sl 79 (.st [.int .i64, .int .i64, .int .i64])]), .sl 70 (.st [.int .i64, .st [.int .i64, .int .i64, .int .i64, .int .i64], .sl 79 (.st [.int .i64, .int .i64, .int .i64])])], [], none, .p, .bool, .p, []⟩
def t38 : FSig := ⟨h38.ps, h38.cs, h38.io, h38.im, h38.R, h38.m, F38⟩
theorem e38 : fnOf tys [(42, t42)] Try.f38 h38 = t38 := by kernel_rfl
theorem k38 : SigOk Try.prog 38 t38 := (congrArg (SigOk Try.prog 38) e38).mp (fnOf_ok rfl tysOk ⟨k42, trivial⟩ Try.func38 (by decide) rfl (fun _ h => by cases h))
/-- loop.example/g00806/laws.eqResult -/
def F27 (x : ((Int × (((List Int) × ((List Int) × Unit)) × (Int × (Int × ((List (Int × ((Int × (Int × (Int × (Int × Unit)))) × ((List (Int × (Int × (Int × Unit)))) × Unit)))) × (Int × Unit)))))) × ((Int × (((List Int) × ((List Int) × Unit)) × (Int × (Int × ((List (Int × ((Int × (Int × (Int × (Int × Unit)))) × ((List (Int × (Int × (Int × Unit)))) × Unit)))) × (Int × Unit)))))) × Unit))) (c : Unit) : (Option (Bool × Unit)) :=
  (if (notB (eqZ x.1.1 x.2.1.1)) = true then (some (false, ())) else (Option.bind ((Option.bind (F14 (x.1.2.1, (x.2.1.2.1, ())) ()) fun v0 => (some v0.1)) : (Option Bool)) fun v1 => (if (notB v1) = true then (some (false, ())) else (if (notB (eqZ x.1.2.2.1 x.2.1.2.2.1)) = true then (some (false, ())) else (if (notB (eqZ x.1.2.2.2.1 x.2.1.2.2.2.1)) = true then (some (false, ())) else (Option.bind ((Option.bind (F38 (x.1.2.2.2.2.1, (x.2.1.2.2.2.2.1, ())) ()) fun v2 => (some v2.1)) : (Option Bool)) fun v3 => (if (notB v3) = true then (some (false, ())) else (if (notB (eqZ x.1.2.2.2.2.2.1 x.2.1.2.2.2.2.2.1)) = true then (some (false, ())) else (some (true, ()))))))))))
def h27 : Hd := ⟨[.st [.int .i64, .st [.sl 3 (.int .i64), .sl 3 (.int .i64)], .int .i64, .int .i64, .sl 70 (.st [.int .i64, .st [.int .i64, .int .i64, .int .i64, .int .i64], .sl 79 (.st [.int .i64, .int .i64, .int .i64])]), .int .i64], .st [.int .i64, .st [.sl 3 (.int .i64), .sl 3 (.int .i64)], .int .i64, .int .i64, .sl 70 (.st [.int .i64, .st [.int .i64, .int .i64, .int .i64, .int .i64], .sl 79 (.st [.int .i64, .int .i64, .int .i64])]), .int .i64]], [], none, .p, .bool, .p, []⟩
def t27 : FSig := ⟨h27.ps, h27.cs, h27.io, h27.im, h27.R, h27.m, F27⟩
theorem e27 : fnOf tys [(14, t14), (38, t38)] Try.f27 h27 = t27 := by kernel_rfl
theorem k27 : SigOk Try.prog 27 t27 := (congrArg (SigOk Try.prog 27) e27).mp (fnOf_ok rfl tysOk ⟨k14, k38, trivial⟩ Try.func27 (by decide) rfl (fun _ h => by cases h))
/-- loop.example/g00806/laws.FnExactResultGap -/
def F7 (x : ((Int × (((List Int) × ((List Int) × Unit)) × (Int × (Int × ((List (Int × ((Int × (Int × (Int × (Int × Unit)))) × ((List (Int × (Int × (Int × Unit)))) × Unit)))) × (Int × Unit)))))) × Unit)) (c : Unit) : (Option (Bool × Unit)) :=
  (Option.bind ((Option.bind (F23 (x.1, (1048576, ())) ()) fun v0 => (some v0.1)) : (Option Int)) fun v1 => (if (ltZ v1 0) = true then (some (true, ())) else (Option.bind ((Option.bind (F25 (x.1, ()) ()) fun v2 => (some v2.1)) : (Option (Int × (((List Int) × ((List Int) × Unit)) × (Int × (Int × ((List (Int × ((Int × (Int × (Int × (Int × Unit)))) × ((List (Int × (Int × (Int × Unit)))) × Unit)))) × (Int × Unit)))))))) fun v3 => (Option.bind ((Option.bind (F24 (v3, ()) ()) fun v4 => (some v4.1)) : (Option Int)) fun v5 => (Option.bind ((Option.bind (F25 (x.1, ()) ()) fun v6 => (some v6.1)) : (Option (Int × (((List Int) × ((List Int) × Unit)) × (Int × (Int × ((List (Int × ((Int × (Int × (Int × (Int × Unit)))) × ((List (Int × (Int × (Int × Unit)))) × Unit)))) × (Int × Unit)))))))) fun v7 => (Option.bind ((Option.bind (F26 (v7, ()) ()) fun v8 => (some v8.1)) : (Option Int)) fun v9 => (if (notB (eqZ v9 v5)) = true then (some (false, ())) else (Option.bind ((Option.bind (F25 (x.1, ()) ()) fun v10 => (some v10.1)) : (Option (Int × (((List Int) × ((List Int) × Unit)) × (Int × (Int × ((List (Int × ((Int × (Int × (Int × (Int × Unit)))) × ((List (Int × (Int × (Int × Unit)))) × Unit)))) × (Int × Unit)))))))) fun v11 => (Option.bind ((Option.bind (F27 (v7, (v11, ())) ()) fun v12 => (some v12.1)) : (Option Bool)) fun v13 => (if (notB v13) = true then (some (false, ())) else (some (true, ()))))))))))))
def h7 : Hd := ⟨[.st [.int .i64, .st [.sl 3 (.int .i64), .sl 3 (.int .i64)], .int .i64, .int .i64, .sl 66 (.st [.int .i64, .st [.int .i64, .int .i64, .int .i64, .int .i64], .sl 81 (.st [.int .i64, .int .i64, .int .i64])]), .int .i64]], [], none, .p, .bool, .p, []⟩
def t7 : FSig := ⟨h7.ps, h7.cs, h7.io, h7.im, h7.R, h7.m, F7⟩
theorem e7 : fnOf tys [(23, t23), (24, t24), (25, t25), (26, t26), (27, t27)] Try.f7 h7 = t7 := by kernel_rfl
theorem k7 : SigOk Try.prog 7 t7 := (congrArg (SigOk Try.prog 7) e7).mp (fnOf_ok rfl tysOk ⟨k23, k24, k25, k26, k27, trivial⟩ Try.func7 (by decide) rfl (fun _ h => by cases h))
end Go.Proofs.Ytooohimfepookaa
