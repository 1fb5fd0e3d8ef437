/-
  The functions of this seat as plain Lean functions, and that the program computes them. No condition.
-/
import Derived.Test.YtemeabdacejkpaaN32
import Derived.Test.YtemeabdacejkpaaProg
import Derived.KernelRfl
namespace Go.Proofs.Ytemeabdacejkpaa
open Go.Abs
set_option linter.unusedVariables false
set_option maxRecDepth 100000
theorem tn3 : TnOk Try.prog 3 (.int .i64) := ⟨Try.underlying3, fun _ h => (by cases h), Try.t3, rfl, rfl, fun _ _ => rfl⟩
theorem tn4 : TnOk Try.prog 4 (.bool) := ⟨Try.underlying4, fun _ h => (by cases h), Try.t4, rfl, rfl, fun _ _ => rfl⟩
theorem tn5 : TnOk Try.prog 5 (.int .u8) := ⟨Try.underlying5, fun _ h => (by cases h), Try.t5, rfl, rfl, fun _ _ => rfl⟩
theorem tn9 : TnOk Try.prog 9 (.str) := ⟨Try.underlying9, fun _ h => (by cases h), Try.t9, rfl, rfl, fun _ _ => rfl⟩
theorem tn22 : TnOk Try.prog 22 (.sl 5 (.int .u8)) := ⟨⟨Try.underlying22, Try.t5, _, rfl, rfl, rfl, rfl, by decide, by decide, fun _ _ => rfl, fun k h => by cases h; exact Try.underlying5⟩, fun _ h => (by cases h), Try.t22, rfl, rfl, fun _ _ => rfl⟩
theorem tn23 : TnOk Try.prog 23 (.sl 35 (.st [.str, .int .i64, .sl 37 (.st [.int .i64, .sl 3 (.int .i64), .sl 3 (.int .i64)])])) := ⟨⟨Try.underlying23, Try.t35, _, rfl, rfl, rfl, rfl, by decide, by decide, fun _ _ => rfl, fun k h => by cases h⟩, fun _ h => (by cases h), Try.t23, rfl, rfl, fun _ _ => rfl⟩
theorem tn24 : TnOk Try.prog 24 (.sl 115 (.st [.int .i64, .int .i64, .bool, .int .i64])) := ⟨⟨Try.underlying24, Try.t115, _, rfl, rfl, rfl, rfl, by decide, by decide, fun _ _ => rfl, fun k h => by cases h⟩, fun _ h => (by cases h), Try.t24, rfl, rfl, fun _ _ => rfl⟩
theorem tn25 : TnOk Try.prog 25 (.sl 44 (.st [.sl 176 (.st [.int .i64, .int .i64]), .sl 26 (.sl 3 (.int .i64))])) := ⟨⟨Try.underlying25, Try.t44, _, rfl, rfl, rfl, rfl, by decide, by decide, fun _ _ => rfl, fun k h => by cases h⟩, fun _ h => (by cases h), Try.t25, rfl, rfl, fun _ _ => rfl⟩
theorem tn26 : TnOk Try.prog 26 (.sl 3 (.int .i64)) := ⟨⟨Try.underlying26, Try.t3, _, rfl, rfl, rfl, rfl, by decide, by decide, fun _ _ => rfl, fun k h => by cases h; exact Try.underlying3⟩, fun _ h => (by cases h), Try.t26, rfl, rfl, fun _ _ => rfl⟩
theorem tn27 : TnOk Try.prog 27 (.st [.int .i64, .sl 35 (.st [.str, .int .i64, .sl 37 (.st [.int .i64, .sl 3 (.int .i64), .sl 3 (.int .i64)])]), .sl 115 (.st [.int .i64, .int .i64, .bool, .int .i64]), .sl 44 (.st [.sl 176 (.st [.int .i64, .int .i64]), .sl 26 (.sl 3 (.int .i64))]), .sl 3 (.int .i64)]) := ⟨⟨_, Try.underlying27, Try.eqGuardType27, Try.stoodInHeld27, rfl, fun j τ h => by
    cases j with
    | zero => cases h; exact ⟨_, _, rfl, rfl, by decide, by decide, Try.underlying3, rfl, fun us h => by cases h⟩
    | succ j =>
     cases j with
     | zero => cases h; exact ⟨_, _, rfl, rfl, by decide, by decide, Try.underlying23, rfl, fun us h => by cases h⟩
     | succ j =>
      cases j with
      | zero => cases h; exact ⟨_, _, rfl, rfl, by decide, by decide, Try.underlying24, rfl, fun us h => by cases h⟩
      | succ j =>
       cases j with
       | zero => cases h; exact ⟨_, _, rfl, rfl, by decide, by decide, Try.underlying25, rfl, fun us h => by cases h⟩
       | succ j =>
        cases j with
        | zero => cases h; exact ⟨_, _, rfl, rfl, by decide, by decide, Try.underlying26, rfl, fun us h => by cases h⟩
        | succ j =>
         cases h⟩, (fun us hus fs hfs j τ h f hf => by
    cases hus
    rw [Try.underlying27] at hfs
    cases hfs
    cases j with
    | zero => cases h; cases hf; exact ⟨fun k e => by cases e; exact Try.underlying3, fun e => (by cases e), fun e => (by cases e)⟩
    | succ j =>
     cases j with
     | zero => cases h; cases hf; exact ⟨fun k e => (by cases e), fun e => (by cases e), fun e => (by cases e)⟩
     | succ j =>
      cases j with
      | zero => cases h; cases hf; exact ⟨fun k e => (by cases e), fun e => (by cases e), fun e => (by cases e)⟩
      | succ j =>
       cases j with
       | zero => cases h; cases hf; exact ⟨fun k e => (by cases e), fun e => (by cases e), fun e => (by cases e)⟩
       | succ j =>
        cases j with
        | zero => cases h; cases hf; exact ⟨fun k e => (by cases e), fun e => (by cases e), fun e => (by cases e)⟩
        | succ j =>
         cases h), Try.t27, rfl, rfl, fun _ _ => rfl⟩
theorem tn28 : TnOk Try.prog 28 (.st [.int .i64, .sl 35 (.st [.str, .int .i64, .sl 37 (.st [.int .i64, .sl 3 (.int .i64), .sl 3 (.int .i64)])]), .sl 115 (.st [.int .i64, .int .i64, .bool, .int .i64]), .sl 44 (.st [.sl 176 (.st [.int .i64, .int .i64]), .sl 26 (.sl 3 (.int .i64))]), .sl 3 (.int .i64)]) := ⟨⟨_, Try.underlying28, Try.eqGuardType28, Try.stoodInHeld28, rfl, fun j τ h => by
    cases j with
    | zero => cases h; exact ⟨_, _, rfl, rfl, by decide, by decide, Try.underlying3, rfl, fun us h => by cases h⟩
    | succ j =>
     cases j with
     | zero => cases h; exact ⟨_, _, rfl, rfl, by decide, by decide, Try.underlying23, rfl, fun us h => by cases h⟩
     | succ j =>
      cases j with
      | zero => cases h; exact ⟨_, _, rfl, rfl, by decide, by decide, Try.underlying24, rfl, fun us h => by cases h⟩
      | succ j =>
       cases j with
       | zero => cases h; exact ⟨_, _, rfl, rfl, by decide, by decide, Try.underlying25, rfl, fun us h => by cases h⟩
       | succ j =>
        cases j with
        | zero => cases h; exact ⟨_, _, rfl, rfl, by decide, by decide, Try.underlying26, rfl, fun us h => by cases h⟩
        | succ j =>
         cases h⟩, (fun us hus fs hfs j τ h f hf => by
    cases hus
    rw [Try.underlying28] at hfs
    cases hfs
    cases j with
    | zero => cases h; cases hf; exact ⟨fun k e => by cases e; exact Try.underlying3, fun e => (by cases e), fun e => (by cases e)⟩
    | succ j =>
     cases j with
     | zero => cases h; cases hf; exact ⟨fun k e => (by cases e), fun e => (by cases e), fun e => (by cases e)⟩
     | succ j =>
      cases j with
      | zero => cases h; cases hf; exact ⟨fun k e => (by cases e), fun e => (by cases e), fun e => (by cases e)⟩
      | succ j =>
       cases j with
       | zero => cases h; cases hf; exact ⟨fun k e => (by cases e), fun e => (by cases e), fun e => (by cases e)⟩
       | succ j =>
        cases j with
        | zero => cases h; cases hf; exact ⟨fun k e => (by cases e), fun e => (by cases e), fun e => (by cases e)⟩
        | succ j =>
         cases h), Try.t28, rfl, rfl, fun _ _ => rfl⟩
theorem tn33 : TnOk Try.prog 33 (.sl 37 (.st [.int .i64, .sl 3 (.int .i64), .sl 3 (.int .i64)])) := ⟨⟨Try.underlying33, Try.t37, _, rfl, rfl, rfl, rfl, by decide, by decide, fun _ _ => rfl, fun k h => by cases h⟩, fun _ h => (by cases h), Try.t33, rfl, rfl, fun _ _ => rfl⟩
theorem tn34 : TnOk Try.prog 34 (.st [.str, .int .i64, .sl 37 (.st [.int .i64, .sl 3 (.int .i64), .sl 3 (.int .i64)])]) := ⟨⟨_, Try.underlying34, Try.eqGuardType34, Try.stoodInHeld34, rfl, fun j τ h => by
    cases j with
    | zero => cases h; exact ⟨_, _, rfl, rfl, by decide, by decide, Try.underlying9, rfl, fun us h => by cases h⟩
    | succ j =>
     cases j with
     | zero => cases h; exact ⟨_, _, rfl, rfl, by decide, by decide, Try.underlying3, rfl, fun us h => by cases h⟩
     | succ j =>
      cases j with
      | zero => cases h; exact ⟨_, _, rfl, rfl, by decide, by decide, Try.underlying33, rfl, fun us h => by cases h⟩
      | succ j =>
       cases h⟩, (fun us hus fs hfs j τ h f hf => by
    cases hus
    rw [Try.underlying34] at hfs
    cases hfs
    cases j with
    | zero => cases h; cases hf; exact ⟨fun k e => (by cases e), fun e => (by cases e), fun _ => Try.underlying9⟩
    | succ j =>
     cases j with
     | zero => cases h; cases hf; exact ⟨fun k e => by cases e; exact Try.underlying3, fun e => (by cases e), fun e => (by cases e)⟩
     | succ j =>
      cases j with
      | zero => cases h; cases hf; exact ⟨fun k e => (by cases e), fun e => (by cases e), fun e => (by cases e)⟩
      | succ j =>
       cases h), Try.t34, rfl, rfl, fun _ _ => rfl⟩
theorem tn35 : TnOk Try.prog 35 (.st [.str, .int .i64, .sl 37 (.st [.int .i64, .sl 3 (.int .i64), .sl 3 (.int .i64)])]) := ⟨⟨_, Try.underlying35, Try.eqGuardType35, Try.stoodInHeld35, rfl, fun j τ h => by
    cases j with
    | zero => cases h; exact ⟨_, _, rfl, rfl, by decide, by decide, Try.underlying9, rfl, fun us h => by cases h⟩
    | succ j =>
     cases j with
     | zero => cases h; exact ⟨_, _, rfl, rfl, by decide, by decide, Try.underlying3, rfl, fun us h => by cases h⟩
     | succ j =>
      cases j with
      | zero => cases h; exact ⟨_, _, rfl, rfl, by decide, by decide, Try.underlying33, rfl, fun us h => by cases h⟩
      | succ j =>
       cases h⟩, (fun us hus fs hfs j τ h f hf => by
    cases hus
    rw [Try.underlying35] at hfs
    cases hfs
    cases j with
    | zero => cases h; cases hf; exact ⟨fun k e => (by cases e), fun e => (by cases e), fun _ => Try.underlying9⟩
    | succ j =>
     cases j with
     | zero => cases h; cases hf; exact ⟨fun k e => by cases e; exact Try.underlying3, fun e => (by cases e), fun e => (by cases e)⟩
     | succ j =>
      cases j with
      | zero => cases h; cases hf; exact ⟨fun k e => (by cases e), fun e => (by cases e), fun e => (by cases e)⟩
      | succ j =>
       cases h), Try.t35, rfl, rfl, fun _ _ => rfl⟩
theorem tn36 : TnOk Try.prog 36 (.st [.int .i64, .sl 3 (.int .i64), .sl 3 (.int .i64)]) := ⟨⟨_, Try.underlying36, Try.eqGuardType36, Try.stoodInHeld36, rfl, fun j τ h => by
    cases j with
    | zero => cases h; exact ⟨_, _, rfl, rfl, by decide, by decide, Try.underlying3, rfl, fun us h => by cases h⟩
    | succ j =>
     cases j with
     | zero => cases h; exact ⟨_, _, rfl, rfl, by decide, by decide, Try.underlying26, rfl, fun us h => by cases h⟩
     | succ j =>
      cases j with
      | zero => cases h; exact ⟨_, _, rfl, rfl, by decide, by decide, Try.underlying26, rfl, fun us h => by cases h⟩
      | succ j =>
       cases h⟩, (fun us hus fs hfs j τ h f hf => by
    cases hus
    rw [Try.underlying36] at hfs
    cases hfs
    cases j with
    | zero => cases h; cases hf; exact ⟨fun k e => by cases e; exact Try.underlying3, fun e => (by cases e), fun e => (by cases e)⟩
    | succ j =>
     cases j with
     | zero => cases h; cases hf; exact ⟨fun k e => (by cases e), fun e => (by cases e), fun e => (by cases e)⟩
     | succ j =>
      cases j with
      | zero => cases h; cases hf; exact ⟨fun k e => (by cases e), fun e => (by cases e), fun e => (by cases e)⟩
      | succ j =>
       cases h), Try.t36, rfl, rfl, fun _ _ => rfl⟩
theorem tn37 : TnOk Try.prog 37 (.st [.int .i64, .sl 3 (.int .i64), .sl 3 (.int .i64)]) := ⟨⟨_, Try.underlying37, Try.eqGuardType37, Try.stoodInHeld37, rfl, fun j τ h => by
    cases j with
    | zero => cases h; exact ⟨_, _, rfl, rfl, by decide, by decide, Try.underlying3, rfl, fun us h => by cases h⟩
    | succ j =>
     cases j with
     | zero => cases h; exact ⟨_, _, rfl, rfl, by decide, by decide, Try.underlying26, rfl, fun us h => by cases h⟩
     | succ j =>
      cases j with
      | zero => cases h; exact ⟨_, _, rfl, rfl, by decide, by decide, Try.underlying26, rfl, fun us h => by cases h⟩
      | succ j =>
       cases h⟩, (fun us hus fs hfs j τ h f hf => by
    cases hus
    rw [Try.underlying37] at hfs
    cases hfs
    cases j with
    | zero => cases h; cases hf; exact ⟨fun k e => by cases e; exact Try.underlying3, fun e => (by cases e), fun e => (by cases e)⟩
    | succ j =>
     cases j with
     | zero => cases h; cases hf; exact ⟨fun k e => (by cases e), fun e => (by cases e), fun e => (by cases e)⟩
     | succ j =>
      cases j with
      | zero => cases h; cases hf; exact ⟨fun k e => (by cases e), fun e => (by cases e), fun e => (by cases e)⟩
      | succ j =>
       cases h), Try.t37, rfl, rfl, fun _ _ => rfl⟩
theorem tn39 : TnOk Try.prog 39 (.fn [.st [.int .i64, .sl 35 (.st [.str, .int .i64, .sl 37 (.st [.int .i64, .sl 3 (.int .i64), .sl 3 (.int .i64)])]), .sl 115 (.st [.int .i64, .int .i64, .bool, .int .i64]), .sl 44 (.st [.sl 176 (.st [.int .i64, .int .i64]), .sl 26 (.sl 3 (.int .i64))]), .sl 3 (.int .i64)], .st [.int .i64, .sl 35 (.st [.str, .int .i64, .sl 37 (.st [.int .i64, .sl 3 (.int .i64), .sl 3 (.int .i64)])]), .sl 115 (.st [.int .i64, .int .i64, .bool, .int .i64]), .sl 44 (.st [.sl 176 (.st [.int .i64, .int .i64]), .sl 26 (.sl 3 (.int .i64))]), .sl 3 (.int .i64)]] (.bool)) := ⟨⟨_, _, _, Try.underlying39⟩, fun _ h => (by cases h), Try.t39, rfl, rfl, fun _ h => by cases h⟩
theorem tn41 : TnOk Try.prog 41 (.sl 176 (.st [.int .i64, .int .i64])) := ⟨⟨Try.underlying41, Try.t176, _, rfl, rfl, rfl, rfl, by decide, by decide, fun _ _ => rfl, fun k h => by cases h⟩, fun _ h => (by cases h), Try.t41, rfl, rfl, fun _ _ => rfl⟩
theorem tn42 : TnOk Try.prog 42 (.sl 26 (.sl 3 (.int .i64))) := ⟨⟨Try.underlying42, Try.t26, _, rfl, rfl, rfl, rfl, by decide, by decide, fun _ _ => rfl, fun k h => by cases h⟩, fun _ h => (by cases h), Try.t42, rfl, rfl, fun _ _ => rfl⟩
theorem tn43 : TnOk Try.prog 43 (.st [.sl 176 (.st [.int .i64, .int .i64]), .sl 26 (.sl 3 (.int .i64))]) := ⟨⟨_, Try.underlying43, Try.eqGuardType43, Try.stoodInHeld43, rfl, fun j τ h => by
    cases j with
    | zero => cases h; exact ⟨_, _, rfl, rfl, by decide, by decide, Try.underlying41, rfl, fun us h => by cases h⟩
    | succ j =>
     cases j with
     | zero => cases h; exact ⟨_, _, rfl, rfl, by decide, by decide, Try.underlying42, rfl, fun us h => by cases h⟩
     | succ j =>
      cases h⟩, (fun us hus fs hfs j τ h f hf => by
    cases hus
    rw [Try.underlying43] at hfs
    cases hfs
    cases j with
    | zero => cases h; cases hf; exact ⟨fun k e => (by cases e), fun e => (by cases e), fun e => (by cases e)⟩
    | succ j =>
     cases j with
     | zero => cases h; cases hf; exact ⟨fun k e => (by cases e), fun e => (by cases e), fun e => (by cases e)⟩
     | succ j =>
      cases h), Try.t43, rfl, rfl, fun _ _ => rfl⟩
theorem tn44 : TnOk Try.prog 44 (.st [.sl 176 (.st [.int .i64, .int .i64]), .sl 26 (.sl 3 (.int .i64))]) := ⟨⟨_, Try.underlying44, Try.eqGuardType44, Try.stoodInHeld44, rfl, fun j τ h => by
    cases j with
    | zero => cases h; exact ⟨_, _, rfl, rfl, by decide, by decide, Try.underlying41, rfl, fun us h => by cases h⟩
    | succ j =>
     cases j with
     | zero => cases h; exact ⟨_, _, rfl, rfl, by decide, by decide, Try.underlying42, rfl, fun us h => by cases h⟩
     | succ j =>
      cases h⟩, (fun us hus fs hfs j τ h f hf => by
    cases hus
    rw [Try.underlying44] at hfs
    cases hfs
    cases j with
    | zero => cases h; cases hf; exact ⟨fun k e => (by cases e), fun e => (by cases e), fun e => (by cases e)⟩
    | succ j =>
     cases j with
     | zero => cases h; cases hf; exact ⟨fun k e => (by cases e), fun e => (by cases e), fun e => (by cases e)⟩
     | succ j =>
      cases h), Try.t44, rfl, rfl, fun _ _ => rfl⟩
theorem tn46 : TnOk Try.prog 46 (.fn [.st [.str, .int .i64, .sl 37 (.st [.int .i64, .sl 3 (.int .i64), .sl 3 (.int .i64)])], .st [.str, .int .i64, .sl 37 (.st [.int .i64, .sl 3 (.int .i64), .sl 3 (.int .i64)])]] (.bool)) := ⟨⟨_, _, _, Try.underlying46⟩, fun _ h => (by cases h), Try.t46, rfl, rfl, fun _ h => by cases h⟩
theorem tn48 : TnOk Try.prog 48 (.st [.sl 3 (.int .i64), .sl 3 (.int .i64)]) := ⟨⟨_, Try.underlying48, Try.eqGuardType48, Try.stoodInHeld48, rfl, fun j τ h => by
    cases j with
    | zero => cases h; exact ⟨_, _, rfl, rfl, by decide, by decide, Try.underlying26, rfl, fun us h => by cases h⟩
    | succ j =>
     cases j with
     | zero => cases h; exact ⟨_, _, rfl, rfl, by decide, by decide, Try.underlying26, rfl, fun us h => by cases h⟩
     | succ j =>
      cases h⟩, (fun us hus fs hfs j τ h f hf => by
    cases hus
    rw [Try.underlying48] at hfs
    cases hfs
    cases j with
    | zero => cases h; cases hf; exact ⟨fun k e => (by cases e), fun e => (by cases e), fun e => (by cases e)⟩
    | succ j =>
     cases j with
     | zero => cases h; cases hf; exact ⟨fun k e => (by cases e), fun e => (by cases e), fun e => (by cases e)⟩
     | succ j =>
      cases h), Try.t48, rfl, rfl, fun _ _ => rfl⟩
theorem tn54 : TnOk Try.prog 54 (.fn [.st [.int .i64, .st [.sl 3 (.int .i64), .sl 3 (.int .i64)], .int .i64, .int .i64, .sl 128 (.st [.int .i64, .st [.int .i64, .int .i64, .int .i64, .int .i64], .sl 69 (.st [.int .i64, .int .i64, .int .i64])]), .int .i64], .st [.int .i64, .st [.sl 3 (.int .i64), .sl 3 (.int .i64)], .int .i64, .int .i64, .sl 128 (.st [.int .i64, .st [.int .i64, .int .i64, .int .i64, .int .i64], .sl 69 (.st [.int .i64, .int .i64, .int .i64])]), .int .i64]] (.bool)) := ⟨⟨_, _, _, Try.underlying54⟩, fun _ h => (by cases h), Try.t54, rfl, rfl, fun _ h => by cases h⟩
theorem tn55 : TnOk Try.prog 55 (.st [.sl 3 (.int .i64), .sl 3 (.int .i64)]) := ⟨⟨_, Try.underlying55, Try.eqGuardType55, Try.stoodInHeld55, rfl, fun j τ h => by
    cases j with
    | zero => cases h; exact ⟨_, _, rfl, rfl, by decide, by decide, Try.underlying26, rfl, fun us h => by cases h⟩
    | succ j =>
     cases j with
     | zero => cases h; exact ⟨_, _, rfl, rfl, by decide, by decide, Try.underlying26, rfl, fun us h => by cases h⟩
     | succ j =>
      cases h⟩, (fun us hus fs hfs j τ h f hf => by
    cases hus
    rw [Try.underlying55] at hfs
    cases hfs
    cases j with
    | zero => cases h; cases hf; exact ⟨fun k e => (by cases e), fun e => (by cases e), fun e => (by cases e)⟩
    | succ j =>
     cases j with
     | zero => cases h; cases hf; exact ⟨fun k e => (by cases e), fun e => (by cases e), fun e => (by cases e)⟩
     | succ j =>
      cases h), Try.t55, rfl, rfl, fun _ _ => rfl⟩
theorem tn56 : TnOk Try.prog 56 (.sl 128 (.st [.int .i64, .st [.int .i64, .int .i64, .int .i64, .int .i64], .sl 69 (.st [.int .i64, .int .i64, .int .i64])])) := ⟨⟨Try.underlying56, Try.t128, _, rfl, rfl, rfl, rfl, by decide, by decide, fun _ _ => rfl, fun k h => by cases h⟩, fun _ h => (by cases h), Try.t56, rfl, rfl, fun _ _ => rfl⟩
theorem tn57 : TnOk Try.prog 57 (.st [.int .i64, .st [.sl 3 (.int .i64), .sl 3 (.int .i64)], .int .i64, .int .i64, .sl 128 (.st [.int .i64, .st [.int .i64, .int .i64, .int .i64, .int .i64], .sl 69 (.st [.int .i64, .int .i64, .int .i64])]), .int .i64]) := ⟨⟨_, Try.underlying57, Try.eqGuardType57, Try.stoodInHeld57, rfl, fun j τ h => by
    cases j with
    | zero => cases h; exact ⟨_, _, rfl, rfl, by decide, by decide, Try.underlying3, rfl, fun us h => by cases h⟩
    | succ j =>
     cases j with
     | zero => cases h; exact ⟨_, _, rfl, rfl, by decide, by decide, Try.underlying55, rfl, ⟨_, rfl⟩⟩
     | succ j =>
      cases j with
      | zero => cases h; exact ⟨_, _, rfl, rfl, by decide, by decide, Try.underlying3, rfl, fun us h => by cases h⟩
      | succ j =>
       cases j with
       | zero => cases h; exact ⟨_, _, rfl, rfl, by decide, by decide, Try.underlying3, rfl, fun us h => by cases h⟩
       | succ j =>
        cases j with
        | zero => cases h; exact ⟨_, _, rfl, rfl, by decide, by decide, Try.underlying56, rfl, fun us h => by cases h⟩
        | succ j =>
         cases j with
         | zero => cases h; exact ⟨_, _, rfl, rfl, by decide, by decide, Try.underlying3, rfl, fun us h => by cases h⟩
         | succ j =>
          cases h⟩, (fun us hus fs hfs j τ h f hf => by
    cases hus
    rw [Try.underlying57] at hfs
    cases hfs
    cases j with
    | zero => cases h; cases hf; exact ⟨fun k e => by cases e; exact Try.underlying3, fun e => (by cases e), fun e => (by cases e)⟩
    | succ j =>
     cases j with
     | zero => cases h; cases hf; exact ⟨fun k e => (by cases e), fun e => (by cases e), fun e => (by cases e)⟩
     | succ j =>
      cases j with
      | zero => cases h; cases hf; exact ⟨fun k e => by cases e; exact Try.underlying3, fun e => (by cases e), fun e => (by cases e)⟩
      | succ j =>
       cases j with
       | zero => cases h; cases hf; exact ⟨fun k e => by cases e; exact Try.underlying3, fun e => (by cases e), fun e => (by cases e)⟩
       | succ j =>
        cases j with
        | zero => cases h; cases hf; exact ⟨fun k e => (by cases e), fun e => (by cases e), fun e => (by cases e)⟩
        | succ j =>
         cases j with
         | zero => cases h; cases hf; exact ⟨fun k e => by cases e; exact Try.underlying3, fun e => (by cases e), fun e => (by cases e)⟩
         | succ j =>
          cases h), Try.t57, rfl, rfl, fun _ _ => rfl⟩
theorem tn58 : TnOk Try.prog 58 (.st [.int .i64, .st [.sl 3 (.int .i64), .sl 3 (.int .i64)], .int .i64, .int .i64, .sl 128 (.st [.int .i64, .st [.int .i64, .int .i64, .int .i64, .int .i64], .sl 69 (.st [.int .i64, .int .i64, .int .i64])]), .int .i64]) := ⟨⟨_, Try.underlying58, Try.eqGuardType58, Try.stoodInHeld58, rfl, fun j τ h => by
    cases j with
    | zero => cases h; exact ⟨_, _, rfl, rfl, by decide, by decide, Try.underlying3, rfl, fun us h => by cases h⟩
    | succ j =>
     cases j with
     | zero => cases h; exact ⟨_, _, rfl, rfl, by decide, by decide, Try.underlying55, rfl, ⟨_, rfl⟩⟩
     | succ j =>
      cases j with
      | zero => cases h; exact ⟨_, _, rfl, rfl, by decide, by decide, Try.underlying3, rfl, fun us h => by cases h⟩
      | succ j =>
       cases j with
       | zero => cases h; exact ⟨_, _, rfl, rfl, by decide, by decide, Try.underlying3, rfl, fun us h => by cases h⟩
       | succ j =>
        cases j with
        | zero => cases h; exact ⟨_, _, rfl, rfl, by decide, by decide, Try.underlying56, rfl, fun us h => by cases h⟩
        | succ j =>
         cases j with
         | zero => cases h; exact ⟨_, _, rfl, rfl, by decide, by decide, Try.underlying3, rfl, fun us h => by cases h⟩
         | succ j =>
          cases h⟩, (fun us hus fs hfs j τ h f hf => by
    cases hus
    rw [Try.underlying58] at hfs
    cases hfs
    cases j with
    | zero => cases h; cases hf; exact ⟨fun k e => by cases e; exact Try.underlying3, fun e => (by cases e), fun e => (by cases e)⟩
    | succ j =>
     cases j with
     | zero => cases h; cases hf; exact ⟨fun k e => (by cases e), fun e => (by cases e), fun e => (by cases e)⟩
     | succ j =>
      cases j with
      | zero => cases h; cases hf; exact ⟨fun k e => by cases e; exact Try.underlying3, fun e => (by cases e), fun e => (by cases e)⟩
      | succ j =>
       cases j with
       | zero => cases h; cases hf; exact ⟨fun k e => by cases e; exact Try.underlying3, fun e => (by cases e), fun e => (by cases e)⟩
       | succ j =>
        cases j with
        | zero => cases h; cases hf; exact ⟨fun k e => (by cases e), fun e => (by cases e), fun e => (by cases e)⟩
        | succ j =>
         cases j with
         | zero => cases h; cases hf; exact ⟨fun k e => by cases e; exact Try.underlying3, fun e => (by cases e), fun e => (by cases e)⟩
         | succ j =>
          cases h), Try.t58, rfl, rfl, fun _ _ => rfl⟩
theorem tn63 : TnOk Try.prog 63 (.st [.int .i64, .int .i64, .int .i64]) := ⟨⟨_, Try.underlying63, Try.eqGuardType63, Try.stoodInHeld63, rfl, fun j τ h => by
    cases j with
    | zero => cases h; exact ⟨_, _, rfl, rfl, by decide, by decide, Try.underlying3, rfl, fun us h => by cases h⟩
    | succ j =>
     cases j with
     | zero => cases h; exact ⟨_, _, rfl, rfl, by decide, by decide, Try.underlying3, rfl, fun us h => by cases h⟩
     | succ j =>
      cases j with
      | zero => cases h; exact ⟨_, _, rfl, rfl, by decide, by decide, Try.underlying3, rfl, fun us h => by cases h⟩
      | succ j =>
       cases h⟩, (fun us hus fs hfs j τ h f hf => by
    cases hus
    rw [Try.underlying63] at hfs
    cases hfs
    cases j with
    | zero => cases h; cases hf; exact ⟨fun k e => by cases e; exact Try.underlying3, fun e => (by cases e), fun e => (by cases e)⟩
    | succ j =>
     cases j with
     | zero => cases h; cases hf; exact ⟨fun k e => by cases e; exact Try.underlying3, fun e => (by cases e), fun e => (by cases e)⟩
     | succ j =>
      cases j with
      | zero => cases h; cases hf; exact ⟨fun k e => by cases e; exact Try.underlying3, fun e => (by cases e), fun e => (by cases e)⟩
      | succ j =>
       cases h), Try.t63, rfl, rfl, fun _ _ => rfl⟩
theorem tn69 : TnOk Try.prog 69 (.st [.int .i64, .int .i64, .int .i64]) := ⟨⟨_, Try.underlying69, Try.eqGuardType69, Try.stoodInHeld69, rfl, fun j τ h => by
    cases j with
    | zero => cases h; exact ⟨_, _, rfl, rfl, by decide, by decide, Try.underlying3, rfl, fun us h => by cases h⟩
    | succ j =>
     cases j with
     | zero => cases h; exact ⟨_, _, rfl, rfl, by decide, by decide, Try.underlying3, rfl, fun us h => by cases h⟩
     | succ j =>
      cases j with
      | zero => cases h; exact ⟨_, _, rfl, rfl, by decide, by decide, Try.underlying3, rfl, fun us h => by cases h⟩
      | succ j =>
       cases h⟩, (fun us hus fs hfs j τ h f hf => by
    cases hus
    rw [Try.underlying69] at hfs
    cases hfs
    cases j with
    | zero => cases h; cases hf; exact ⟨fun k e => by cases e; exact Try.underlying3, fun e => (by cases e), fun e => (by cases e)⟩
    | succ j =>
     cases j with
     | zero => cases h; cases hf; exact ⟨fun k e => by cases e; exact Try.underlying3, fun e => (by cases e), fun e => (by cases e)⟩
     | succ j =>
      cases j with
      | zero => cases h; cases hf; exact ⟨fun k e => by cases e; exact Try.underlying3, fun e => (by cases e), fun e => (by cases e)⟩
      | succ j =>
       cases h), Try.t69, rfl, rfl, fun _ _ => rfl⟩
theorem tn80 : TnOk Try.prog 80 (.st [.st [.int .i64, .sl 35 (.st [.str, .int .i64, .sl 37 (.st [.int .i64, .sl 3 (.int .i64), .sl 3 (.int .i64)])]), .sl 115 (.st [.int .i64, .int .i64, .bool, .int .i64]), .sl 44 (.st [.sl 176 (.st [.int .i64, .int .i64]), .sl 26 (.sl 3 (.int .i64))]), .sl 3 (.int .i64)], .st [.int .i64, .st [.sl 3 (.int .i64), .sl 3 (.int .i64)], .int .i64, .int .i64, .sl 128 (.st [.int .i64, .st [.int .i64, .int .i64, .int .i64, .int .i64], .sl 69 (.st [.int .i64, .int .i64, .int .i64])]), .int .i64], .int .i64]) := ⟨⟨_, Try.underlying80, Try.eqGuardType80, Try.stoodInHeld80, rfl, fun j τ h => by
    cases j with
    | zero => cases h; exact ⟨_, _, rfl, rfl, by decide, by decide, Try.underlying28, rfl, ⟨_, rfl⟩⟩
    | succ j =>
     cases j with
     | zero => cases h; exact ⟨_, _, rfl, rfl, by decide, by decide, Try.underlying58, rfl, ⟨_, rfl⟩⟩
     | succ j =>
      cases j with
      | zero => cases h; exact ⟨_, _, rfl, rfl, by decide, by decide, Try.underlying3, rfl, fun us h => by cases h⟩
      | succ j =>
       cases h⟩, (fun us hus fs hfs j τ h f hf => by
    cases hus
    rw [Try.underlying80] at hfs
    cases hfs
    cases j with
    | zero => cases h; cases hf; exact ⟨fun k e => (by cases e), fun e => (by cases e), fun e => (by cases e)⟩
    | succ j =>
     cases j with
     | zero => cases h; cases hf; exact ⟨fun k e => (by cases e), fun e => (by cases e), fun e => (by cases e)⟩
     | succ j =>
      cases j with
      | zero => cases h; cases hf; exact ⟨fun k e => by cases e; exact Try.underlying3, fun e => (by cases e), fun e => (by cases e)⟩
      | succ j =>
       cases h), Try.t80, rfl, rfl, fun _ _ => rfl⟩
theorem tn81 : TnOk Try.prog 81 (.st [.st [.int .i64, .sl 35 (.st [.str, .int .i64, .sl 37 (.st [.int .i64, .sl 3 (.int .i64), .sl 3 (.int .i64)])]), .sl 115 (.st [.int .i64, .int .i64, .bool, .int .i64]), .sl 44 (.st [.sl 176 (.st [.int .i64, .int .i64]), .sl 26 (.sl 3 (.int .i64))]), .sl 3 (.int .i64)], .st [.int .i64, .st [.sl 3 (.int .i64), .sl 3 (.int .i64)], .int .i64, .int .i64, .sl 128 (.st [.int .i64, .st [.int .i64, .int .i64, .int .i64, .int .i64], .sl 69 (.st [.int .i64, .int .i64, .int .i64])]), .int .i64], .int .i64]) := ⟨⟨_, Try.underlying81, Try.eqGuardType81, Try.stoodInHeld81, rfl, fun j τ h => by
    cases j with
    | zero => cases h; exact ⟨_, _, rfl, rfl, by decide, by decide, Try.underlying28, rfl, ⟨_, rfl⟩⟩
    | succ j =>
     cases j with
     | zero => cases h; exact ⟨_, _, rfl, rfl, by decide, by decide, Try.underlying58, rfl, ⟨_, rfl⟩⟩
     | succ j =>
      cases j with
      | zero => cases h; exact ⟨_, _, rfl, rfl, by decide, by decide, Try.underlying3, rfl, fun us h => by cases h⟩
      | succ j =>
       cases h⟩, (fun us hus fs hfs j τ h f hf => by
    cases hus
    rw [Try.underlying81] at hfs
    cases hfs
    cases j with
    | zero => cases h; cases hf; exact ⟨fun k e => (by cases e), fun e => (by cases e), fun e => (by cases e)⟩
    | succ j =>
     cases j with
     | zero => cases h; cases hf; exact ⟨fun k e => (by cases e), fun e => (by cases e), fun e => (by cases e)⟩
     | succ j =>
      cases j with
      | zero => cases h; cases hf; exact ⟨fun k e => by cases e; exact Try.underlying3, fun e => (by cases e), fun e => (by cases e)⟩
      | succ j =>
       cases h), Try.t81, rfl, rfl, fun _ _ => rfl⟩
theorem tn82 : TnOk Try.prog 82 (.fn [] (.st [.st [.int .i64, .sl 35 (.st [.str, .int .i64, .sl 37 (.st [.int .i64, .sl 3 (.int .i64), .sl 3 (.int .i64)])]), .sl 115 (.st [.int .i64, .int .i64, .bool, .int .i64]), .sl 44 (.st [.sl 176 (.st [.int .i64, .int .i64]), .sl 26 (.sl 3 (.int .i64))]), .sl 3 (.int .i64)], .st [.int .i64, .st [.sl 3 (.int .i64), .sl 3 (.int .i64)], .int .i64, .int .i64, .sl 128 (.st [.int .i64, .st [.int .i64, .int .i64, .int .i64, .int .i64], .sl 69 (.st [.int .i64, .int .i64, .int .i64])]), .int .i64], .int .i64])) := ⟨⟨_, _, _, Try.underlying82⟩, fun _ h => (by cases h), Try.t82, rfl, rfl, fun _ h => by cases h⟩
theorem tn83 : TnOk Try.prog 83 (.fn [.st [.st [.int .i64, .sl 35 (.st [.str, .int .i64, .sl 37 (.st [.int .i64, .sl 3 (.int .i64), .sl 3 (.int .i64)])]), .sl 115 (.st [.int .i64, .int .i64, .bool, .int .i64]), .sl 44 (.st [.sl 176 (.st [.int .i64, .int .i64]), .sl 26 (.sl 3 (.int .i64))]), .sl 3 (.int .i64)], .st [.int .i64, .st [.sl 3 (.int .i64), .sl 3 (.int .i64)], .int .i64, .int .i64, .sl 128 (.st [.int .i64, .st [.int .i64, .int .i64, .int .i64, .int .i64], .sl 69 (.st [.int .i64, .int .i64, .int .i64])]), .int .i64], .int .i64], .st [.st [.int .i64, .sl 35 (.st [.str, .int .i64, .sl 37 (.st [.int .i64, .sl 3 (.int .i64), .sl 3 (.int .i64)])]), .sl 115 (.st [.int .i64, .int .i64, .bool, .int .i64]), .sl 44 (.st [.sl 176 (.st [.int .i64, .int .i64]), .sl 26 (.sl 3 (.int .i64))]), .sl 3 (.int .i64)], .st [.int .i64, .st [.sl 3 (.int .i64), .sl 3 (.int .i64)], .int .i64, .int .i64, .sl 128 (.st [.int .i64, .st [.int .i64, .int .i64, .int .i64, .int .i64], .sl 69 (.st [.int .i64, .int .i64, .int .i64])]), .int .i64], .int .i64]] (.bool)) := ⟨⟨_, _, _, Try.underlying83⟩, fun _ h => (by cases h), Try.t83, rfl, rfl, fun _ h => by cases h⟩
theorem tn84 : TnOk Try.prog 84 (.fn [.st [.st [.int .i64, .sl 35 (.st [.str, .int .i64, .sl 37 (.st [.int .i64, .sl 3 (.int .i64), .sl 3 (.int .i64)])]), .sl 115 (.st [.int .i64, .int .i64, .bool, .int .i64]), .sl 44 (.st [.sl 176 (.st [.int .i64, .int .i64]), .sl 26 (.sl 3 (.int .i64))]), .sl 3 (.int .i64)], .st [.int .i64, .st [.sl 3 (.int .i64), .sl 3 (.int .i64)], .int .i64, .int .i64, .sl 128 (.st [.int .i64, .st [.int .i64, .int .i64, .int .i64, .int .i64], .sl 69 (.st [.int .i64, .int .i64, .int .i64])]), .int .i64], .int .i64], .int .i64] (.int .i64)) := ⟨⟨_, _, _, Try.underlying84⟩, fun _ h => (by cases h), Try.t84, rfl, rfl, fun _ h => by cases h⟩
theorem tn85 : TnOk Try.prog 85 (.fn [] (.bool)) := ⟨⟨_, _, _, Try.underlying85⟩, fun _ h => (by cases h), Try.t85, rfl, rfl, fun _ h => by cases h⟩
theorem tn102 : TnOk Try.prog 102 (.fn [.st [.sl 3 (.int .i64), .sl 3 (.int .i64)], .st [.sl 3 (.int .i64), .sl 3 (.int .i64)]] (.bool)) := ⟨⟨_, _, _, Try.underlying102⟩, fun _ h => (by cases h), Try.t102, rfl, rfl, fun _ h => by cases h⟩
theorem tn113 : TnOk Try.prog 113 (.fn [.sl 115 (.st [.int .i64, .int .i64, .bool, .int .i64]), .sl 115 (.st [.int .i64, .int .i64, .bool, .int .i64])] (.bool)) := ⟨⟨_, _, _, Try.underlying113⟩, fun _ h => (by cases h), Try.t113, rfl, rfl, fun _ h => by cases h⟩
theorem tn114 : TnOk Try.prog 114 (.st [.int .i64, .int .i64, .bool, .int .i64]) := ⟨⟨_, Try.underlying114, Try.eqGuardType114, Try.stoodInHeld114, rfl, fun j τ h => by
    cases j with
    | zero => cases h; exact ⟨_, _, rfl, rfl, by decide, by decide, Try.underlying3, rfl, fun us h => by cases h⟩
    | succ j =>
     cases j with
     | zero => cases h; exact ⟨_, _, rfl, rfl, by decide, by decide, Try.underlying3, rfl, fun us h => by cases h⟩
     | succ j =>
      cases j with
      | zero => cases h; exact ⟨_, _, rfl, rfl, by decide, by decide, Try.underlying4, rfl, fun us h => by cases h⟩
      | succ j =>
       cases j with
       | zero => cases h; exact ⟨_, _, rfl, rfl, by decide, by decide, Try.underlying3, rfl, fun us h => by cases h⟩
       | succ j =>
        cases h⟩, (fun us hus fs hfs j τ h f hf => by
    cases hus
    rw [Try.underlying114] at hfs
    cases hfs
    cases j with
    | zero => cases h; cases hf; exact ⟨fun k e => by cases e; exact Try.underlying3, fun e => (by cases e), fun e => (by cases e)⟩
    | succ j =>
     cases j with
     | zero => cases h; cases hf; exact ⟨fun k e => by cases e; exact Try.underlying3, fun e => (by cases e), fun e => (by cases e)⟩
     | succ j =>
      cases j with
      | zero => cases h; cases hf; exact ⟨fun k e => (by cases e), fun _ => Try.underlying4, fun e => (by cases e)⟩
      | succ j =>
       cases j with
       | zero => cases h; cases hf; exact ⟨fun k e => by cases e; exact Try.underlying3, fun e => (by cases e), fun e => (by cases e)⟩
       | succ j =>
        cases h), Try.t114, rfl, rfl, fun _ _ => rfl⟩
theorem tn115 : TnOk Try.prog 115 (.st [.int .i64, .int .i64, .bool, .int .i64]) := ⟨⟨_, Try.underlying115, Try.eqGuardType115, Try.stoodInHeld115, rfl, fun j τ h => by
    cases j with
    | zero => cases h; exact ⟨_, _, rfl, rfl, by decide, by decide, Try.underlying3, rfl, fun us h => by cases h⟩
    | succ j =>
     cases j with
     | zero => cases h; exact ⟨_, _, rfl, rfl, by decide, by decide, Try.underlying3, rfl, fun us h => by cases h⟩
     | succ j =>
      cases j with
      | zero => cases h; exact ⟨_, _, rfl, rfl, by decide, by decide, Try.underlying4, rfl, fun us h => by cases h⟩
      | succ j =>
       cases j with
       | zero => cases h; exact ⟨_, _, rfl, rfl, by decide, by decide, Try.underlying3, rfl, fun us h => by cases h⟩
       | succ j =>
        cases h⟩, (fun us hus fs hfs j τ h f hf => by
    cases hus
    rw [Try.underlying115] at hfs
    cases hfs
    cases j with
    | zero => cases h; cases hf; exact ⟨fun k e => by cases e; exact Try.underlying3, fun e => (by cases e), fun e => (by cases e)⟩
    | succ j =>
     cases j with
     | zero => cases h; cases hf; exact ⟨fun k e => by cases e; exact Try.underlying3, fun e => (by cases e), fun e => (by cases e)⟩
     | succ j =>
      cases j with
      | zero => cases h; cases hf; exact ⟨fun k e => (by cases e), fun _ => Try.underlying4, fun e => (by cases e)⟩
      | succ j =>
       cases j with
       | zero => cases h; cases hf; exact ⟨fun k e => by cases e; exact Try.underlying3, fun e => (by cases e), fun e => (by cases e)⟩
       | succ j =>
        cases h), Try.t115, rfl, rfl, fun _ _ => rfl⟩
theorem tn117 : TnOk Try.prog 117 (.fn [.st [.sl 176 (.st [.int .i64, .int .i64]), .sl 26 (.sl 3 (.int .i64))], .st [.sl 176 (.st [.int .i64, .int .i64]), .sl 26 (.sl 3 (.int .i64))]] (.bool)) := ⟨⟨_, _, _, Try.underlying117⟩, fun _ h => (by cases h), Try.t117, rfl, rfl, fun _ h => by cases h⟩
theorem tn118 : TnOk Try.prog 118 (.fn [.sl 3 (.int .i64), .sl 3 (.int .i64)] (.bool)) := ⟨⟨_, _, _, Try.underlying118⟩, fun _ h => (by cases h), Try.t118, rfl, rfl, fun _ h => by cases h⟩
theorem tn122 : TnOk Try.prog 122 (.fn [.st [.int .i64, .sl 3 (.int .i64), .sl 3 (.int .i64)], .st [.int .i64, .sl 3 (.int .i64), .sl 3 (.int .i64)]] (.bool)) := ⟨⟨_, _, _, Try.underlying122⟩, fun _ h => (by cases h), Try.t122, rfl, rfl, fun _ h => by cases h⟩
theorem tn124 : TnOk Try.prog 124 (.st [.int .i64, .int .i64, .int .i64, .int .i64]) := ⟨⟨_, Try.underlying124, Try.eqGuardType124, Try.stoodInHeld124, rfl, fun j τ h => by
    cases j with
    | zero => cases h; exact ⟨_, _, rfl, rfl, by decide, by decide, Try.underlying3, rfl, fun us h => by cases h⟩
    | succ j =>
     cases j with
     | zero => cases h; exact ⟨_, _, rfl, rfl, by decide, by decide, Try.underlying3, rfl, fun us h => by cases h⟩
     | succ j =>
      cases j with
      | zero => cases h; exact ⟨_, _, rfl, rfl, by decide, by decide, Try.underlying3, rfl, fun us h => by cases h⟩
      | succ j =>
       cases j with
       | zero => cases h; exact ⟨_, _, rfl, rfl, by decide, by decide, Try.underlying3, rfl, fun us h => by cases h⟩
       | succ j =>
        cases h⟩, (fun us hus fs hfs j τ h f hf => by
    cases hus
    rw [Try.underlying124] at hfs
    cases hfs
    cases j with
    | zero => cases h; cases hf; exact ⟨fun k e => by cases e; exact Try.underlying3, fun e => (by cases e), fun e => (by cases e)⟩
    | succ j =>
     cases j with
     | zero => cases h; cases hf; exact ⟨fun k e => by cases e; exact Try.underlying3, fun e => (by cases e), fun e => (by cases e)⟩
     | succ j =>
      cases j with
      | zero => cases h; cases hf; exact ⟨fun k e => by cases e; exact Try.underlying3, fun e => (by cases e), fun e => (by cases e)⟩
      | succ j =>
       cases j with
       | zero => cases h; cases hf; exact ⟨fun k e => by cases e; exact Try.underlying3, fun e => (by cases e), fun e => (by cases e)⟩
       | succ j =>
        cases h), Try.t124, rfl, rfl, fun _ _ => rfl⟩
theorem tn125 : TnOk Try.prog 125 (.st [.int .i64, .int .i64, .int .i64, .int .i64]) := ⟨⟨_, Try.underlying125, Try.eqGuardType125, Try.stoodInHeld125, rfl, fun j τ h => by
    cases j with
    | zero => cases h; exact ⟨_, _, rfl, rfl, by decide, by decide, Try.underlying3, rfl, fun us h => by cases h⟩
    | succ j =>
     cases j with
     | zero => cases h; exact ⟨_, _, rfl, rfl, by decide, by decide, Try.underlying3, rfl, fun us h => by cases h⟩
     | succ j =>
      cases j with
      | zero => cases h; exact ⟨_, _, rfl, rfl, by decide, by decide, Try.underlying3, rfl, fun us h => by cases h⟩
      | succ j =>
       cases j with
       | zero => cases h; exact ⟨_, _, rfl, rfl, by decide, by decide, Try.underlying3, rfl, fun us h => by cases h⟩
       | succ j =>
        cases h⟩, (fun us hus fs hfs j τ h f hf => by
    cases hus
    rw [Try.underlying125] at hfs
    cases hfs
    cases j with
    | zero => cases h; cases hf; exact ⟨fun k e => by cases e; exact Try.underlying3, fun e => (by cases e), fun e => (by cases e)⟩
    | succ j =>
     cases j with
     | zero => cases h; cases hf; exact ⟨fun k e => by cases e; exact Try.underlying3, fun e => (by cases e), fun e => (by cases e)⟩
     | succ j =>
      cases j with
      | zero => cases h; cases hf; exact ⟨fun k e => by cases e; exact Try.underlying3, fun e => (by cases e), fun e => (by cases e)⟩
      | succ j =>
       cases j with
       | zero => cases h; cases hf; exact ⟨fun k e => by cases e; exact Try.underlying3, fun e => (by cases e), fun e => (by cases e)⟩
       | succ j =>
        cases h), Try.t125, rfl, rfl, fun _ _ => rfl⟩
theorem tn126 : TnOk Try.prog 126 (.sl 69 (.st [.int .i64, .int .i64, .int .i64])) := ⟨⟨Try.underlying126, Try.t69, _, rfl, rfl, rfl, rfl, by decide, by decide, fun _ _ => rfl, fun k h => by cases h⟩, fun _ h => (by cases h), Try.t126, rfl, rfl, fun _ _ => rfl⟩
theorem tn127 : TnOk Try.prog 127 (.st [.int .i64, .st [.int .i64, .int .i64, .int .i64, .int .i64], .sl 69 (.st [.int .i64, .int .i64, .int .i64])]) := ⟨⟨_, Try.underlying127, Try.eqGuardType127, Try.stoodInHeld127, rfl, fun j τ h => by
    cases j with
    | zero => cases h; exact ⟨_, _, rfl, rfl, by decide, by decide, Try.underlying3, rfl, fun us h => by cases h⟩
    | succ j =>
     cases j with
     | zero => cases h; exact ⟨_, _, rfl, rfl, by decide, by decide, Try.underlying125, rfl, ⟨_, rfl⟩⟩
     | succ j =>
      cases j with
      | zero => cases h; exact ⟨_, _, rfl, rfl, by decide, by decide, Try.underlying126, rfl, fun us h => by cases h⟩
      | succ j =>
       cases h⟩, (fun us hus fs hfs j τ h f hf => by
    cases hus
    rw [Try.underlying127] at hfs
    cases hfs
    cases j with
    | zero => cases h; cases hf; exact ⟨fun k e => by cases e; exact Try.underlying3, fun e => (by cases e), fun e => (by cases e)⟩
    | succ j =>
     cases j with
     | zero => cases h; cases hf; exact ⟨fun k e => (by cases e), fun e => (by cases e), fun e => (by cases e)⟩
     | succ j =>
      cases j with
      | zero => cases h; cases hf; exact ⟨fun k e => (by cases e), fun e => (by cases e), fun e => (by cases e)⟩
      | succ j =>
       cases h), Try.t127, rfl, rfl, fun _ _ => rfl⟩
theorem tn128 : TnOk Try.prog 128 (.st [.int .i64, .st [.int .i64, .int .i64, .int .i64, .int .i64], .sl 69 (.st [.int .i64, .int .i64, .int .i64])]) := ⟨⟨_, Try.underlying128, Try.eqGuardType128, Try.stoodInHeld128, rfl, fun j τ h => by
    cases j with
    | zero => cases h; exact ⟨_, _, rfl, rfl, by decide, by decide, Try.underlying3, rfl, fun us h => by cases h⟩
    | succ j =>
     cases j with
     | zero => cases h; exact ⟨_, _, rfl, rfl, by decide, by decide, Try.underlying125, rfl, ⟨_, rfl⟩⟩
     | succ j =>
      cases j with
      | zero => cases h; exact ⟨_, _, rfl, rfl, by decide, by decide, Try.underlying126, rfl, fun us h => by cases h⟩
      | succ j =>
       cases h⟩, (fun us hus fs hfs j τ h f hf => by
    cases hus
    rw [Try.underlying128] at hfs
    cases hfs
    cases j with
    | zero => cases h; cases hf; exact ⟨fun k e => by cases e; exact Try.underlying3, fun e => (by cases e), fun e => (by cases e)⟩
    | succ j =>
     cases j with
     | zero => cases h; cases hf; exact ⟨fun k e => (by cases e), fun e => (by cases e), fun e => (by cases e)⟩
     | succ j =>
      cases j with
      | zero => cases h; cases hf; exact ⟨fun k e => (by cases e), fun e => (by cases e), fun e => (by cases e)⟩
      | succ j =>
       cases h), Try.t128, rfl, rfl, fun _ _ => rfl⟩
theorem tn129 : TnOk Try.prog 129 (.fn [.st [.int .i64, .st [.int .i64, .int .i64, .int .i64, .int .i64], .sl 69 (.st [.int .i64, .int .i64, .int .i64])], .st [.int .i64, .st [.int .i64, .int .i64, .int .i64, .int .i64], .sl 69 (.st [.int .i64, .int .i64, .int .i64])]] (.bool)) := ⟨⟨_, _, _, Try.underlying129⟩, fun _ h => (by cases h), Try.t129, rfl, rfl, fun _ h => by cases h⟩
theorem tn131 : TnOk Try.prog 131 (.fn [.sl 128 (.st [.int .i64, .st [.int .i64, .int .i64, .int .i64, .int .i64], .sl 69 (.st [.int .i64, .int .i64, .int .i64])]), .sl 128 (.st [.int .i64, .st [.int .i64, .int .i64, .int .i64, .int .i64], .sl 69 (.st [.int .i64, .int .i64, .int .i64])])] (.bool)) := ⟨⟨_, _, _, Try.underlying131⟩, fun _ h => (by cases h), Try.t131, rfl, rfl, fun _ h => by cases h⟩
theorem tn132 : TnOk Try.prog 132 (.fn [.sl 3 (.int .i64), .int .i64] (.int .i64)) := ⟨⟨_, _, _, Try.underlying132⟩, fun _ h => (by cases h), Try.t132, rfl, rfl, fun _ h => by cases h⟩
theorem tn133 : TnOk Try.prog 133 (.fn [.sl 26 (.sl 3 (.int .i64)), .int .i64] (.int .i64)) := ⟨⟨_, _, _, Try.underlying133⟩, fun _ h => (by cases h), Try.t133, rfl, rfl, fun _ h => by cases h⟩
theorem tn144 : TnOk Try.prog 144 (.fn [.sl 26 (.sl 3 (.int .i64)), .sl 26 (.sl 3 (.int .i64))] (.bool)) := ⟨⟨_, _, _, Try.underlying144⟩, fun _ h => (by cases h), Try.t144, rfl, rfl, fun _ h => by cases h⟩
theorem tn148 : TnOk Try.prog 148 (.fn [.st [.sl 3 (.int .i64), .sl 3 (.int .i64)], .int .i64] (.int .i64)) := ⟨⟨_, _, _, Try.underlying148⟩, fun _ h => (by cases h), Try.t148, rfl, rfl, fun _ h => by cases h⟩
theorem tn151 : TnOk Try.prog 151 (.fn [.sl 176 (.st [.int .i64, .int .i64]), .int .i64] (.int .i64)) := ⟨⟨_, _, _, Try.underlying151⟩, fun _ h => (by cases h), Try.t151, rfl, rfl, fun _ h => by cases h⟩
theorem tn153 : TnOk Try.prog 153 (.fn [.st [.int .i64, .sl 35 (.st [.str, .int .i64, .sl 37 (.st [.int .i64, .sl 3 (.int .i64), .sl 3 (.int .i64)])]), .sl 115 (.st [.int .i64, .int .i64, .bool, .int .i64]), .sl 44 (.st [.sl 176 (.st [.int .i64, .int .i64]), .sl 26 (.sl 3 (.int .i64))]), .sl 3 (.int .i64)], .int .i64] (.int .i64)) := ⟨⟨_, _, _, Try.underlying153⟩, fun _ h => (by cases h), Try.t153, rfl, rfl, fun _ h => by cases h⟩
theorem tn154 : TnOk Try.prog 154 (.fn [.st [.int .i64, .st [.sl 3 (.int .i64), .sl 3 (.int .i64)], .int .i64, .int .i64, .sl 128 (.st [.int .i64, .st [.int .i64, .int .i64, .int .i64, .int .i64], .sl 69 (.st [.int .i64, .int .i64, .int .i64])]), .int .i64], .int .i64] (.int .i64)) := ⟨⟨_, _, _, Try.underlying154⟩, fun _ h => (by cases h), Try.t154, rfl, rfl, fun _ h => by cases h⟩
theorem tn161 : TnOk Try.prog 161 (.fn [.sl 35 (.st [.str, .int .i64, .sl 37 (.st [.int .i64, .sl 3 (.int .i64), .sl 3 (.int .i64)])]), .sl 35 (.st [.str, .int .i64, .sl 37 (.st [.int .i64, .sl 3 (.int .i64), .sl 3 (.int .i64)])])] (.bool)) := ⟨⟨_, _, _, Try.underlying161⟩, fun _ h => (by cases h), Try.t161, rfl, rfl, fun _ h => by cases h⟩
theorem tn162 : TnOk Try.prog 162 (.fn [.sl 44 (.st [.sl 176 (.st [.int .i64, .int .i64]), .sl 26 (.sl 3 (.int .i64))]), .sl 44 (.st [.sl 176 (.st [.int .i64, .int .i64]), .sl 26 (.sl 3 (.int .i64))])] (.bool)) := ⟨⟨_, _, _, Try.underlying162⟩, fun _ h => (by cases h), Try.t162, rfl, rfl, fun _ h => by cases h⟩
theorem tn175 : TnOk Try.prog 175 (.st [.int .i64, .int .i64]) := ⟨⟨_, Try.underlying175, Try.eqGuardType175, Try.stoodInHeld175, rfl, fun j τ h => by
    cases j with
    | zero => cases h; exact ⟨_, _, rfl, rfl, by decide, by decide, Try.underlying3, rfl, fun us h => by cases h⟩
    | succ j =>
     cases j with
     | zero => cases h; exact ⟨_, _, rfl, rfl, by decide, by decide, Try.underlying3, rfl, fun us h => by cases h⟩
     | succ j =>
      cases h⟩, (fun us hus fs hfs j τ h f hf => by
    cases hus
    rw [Try.underlying175] at hfs
    cases hfs
    cases j with
    | zero => cases h; cases hf; exact ⟨fun k e => by cases e; exact Try.underlying3, fun e => (by cases e), fun e => (by cases e)⟩
    | succ j =>
     cases j with
     | zero => cases h; cases hf; exact ⟨fun k e => by cases e; exact Try.underlying3, fun e => (by cases e), fun e => (by cases e)⟩
     | succ j =>
      cases h), Try.t175, rfl, rfl, fun _ _ => rfl⟩
theorem tn176 : TnOk Try.prog 176 (.st [.int .i64, .int .i64]) := ⟨⟨_, Try.underlying176, Try.eqGuardType176, Try.stoodInHeld176, rfl, fun j τ h => by
    cases j with
    | zero => cases h; exact ⟨_, _, rfl, rfl, by decide, by decide, Try.underlying3, rfl, fun us h => by cases h⟩
    | succ j =>
     cases j with
     | zero => cases h; exact ⟨_, _, rfl, rfl, by decide, by decide, Try.underlying3, rfl, fun us h => by cases h⟩
     | succ j =>
      cases h⟩, (fun us hus fs hfs j τ h f hf => by
    cases hus
    rw [Try.underlying176] at hfs
    cases hfs
    cases j with
    | zero => cases h; cases hf; exact ⟨fun k e => by cases e; exact Try.underlying3, fun e => (by cases e), fun e => (by cases e)⟩
    | succ j =>
     cases j with
     | zero => cases h; cases hf; exact ⟨fun k e => by cases e; exact Try.underlying3, fun e => (by cases e), fun e => (by cases e)⟩
     | succ j =>
      cases h), Try.t176, rfl, rfl, fun _ _ => rfl⟩
theorem tn177 : TnOk Try.prog 177 (.fn [.sl 176 (.st [.int .i64, .int .i64]), .sl 176 (.st [.int .i64, .int .i64])] (.bool)) := ⟨⟨_, _, _, Try.underlying177⟩, fun _ h => (by cases h), Try.t177, rfl, rfl, fun _ h => by cases h⟩
theorem tn184 : TnOk Try.prog 184 (.fn [.sl 69 (.st [.int .i64, .int .i64, .int .i64]), .sl 69 (.st [.int .i64, .int .i64, .int .i64])] (.bool)) := ⟨⟨_, _, _, Try.underlying184⟩, fun _ h => (by cases h), Try.t184, rfl, rfl, fun _ h => by cases h⟩
theorem tn187 : TnOk Try.prog 187 (.fn [.sl 35 (.st [.str, .int .i64, .sl 37 (.st [.int .i64, .sl 3 (.int .i64), .sl 3 (.int .i64)])]), .int .i64] (.int .i64)) := ⟨⟨_, _, _, Try.underlying187⟩, fun _ h => (by cases h), Try.t187, rfl, rfl, fun _ h => by cases h⟩
theorem tn188 : TnOk Try.prog 188 (.fn [.sl 115 (.st [.int .i64, .int .i64, .bool, .int .i64]), .int .i64] (.int .i64)) := ⟨⟨_, _, _, Try.underlying188⟩, fun _ h => (by cases h), Try.t188, rfl, rfl, fun _ h => by cases h⟩
theorem tn189 : TnOk Try.prog 189 (.fn [.sl 44 (.st [.sl 176 (.st [.int .i64, .int .i64]), .sl 26 (.sl 3 (.int .i64))]), .int .i64] (.int .i64)) := ⟨⟨_, _, _, Try.underlying189⟩, fun _ h => (by cases h), Try.t189, rfl, rfl, fun _ h => by cases h⟩
theorem tn190 : TnOk Try.prog 190 (.fn [.sl 128 (.st [.int .i64, .st [.int .i64, .int .i64, .int .i64, .int .i64], .sl 69 (.st [.int .i64, .int .i64, .int .i64])]), .int .i64] (.int .i64)) := ⟨⟨_, _, _, Try.underlying190⟩, fun _ h => (by cases h), Try.t190, rfl, rfl, fun _ h => by cases h⟩
theorem tn203 : TnOk Try.prog 203 (.fn [.st [.int .i64, .int .i64, .bool, .int .i64], .st [.int .i64, .int .i64, .bool, .int .i64]] (.bool)) := ⟨⟨_, _, _, Try.underlying203⟩, fun _ h => (by cases h), Try.t203, rfl, rfl, fun _ h => by cases h⟩
theorem tn215 : TnOk Try.prog 215 (.fn [.st [.int .i64, .int .i64, .int .i64, .int .i64], .st [.int .i64, .int .i64, .int .i64, .int .i64]] (.bool)) := ⟨⟨_, _, _, Try.underlying215⟩, fun _ h => (by cases h), Try.t215, rfl, rfl, fun _ h => by cases h⟩
theorem tn216 : TnOk Try.prog 216 (.fn [.int .i64] (.str)) := ⟨⟨_, _, _, Try.underlying216⟩, fun _ h => (by cases h), Try.t216, rfl, rfl, fun _ h => by cases h⟩
theorem tn217 : TnOk Try.prog 217 (.fn [.sl 37 (.st [.int .i64, .sl 3 (.int .i64), .sl 3 (.int .i64)]), .int .i64] (.int .i64)) := ⟨⟨_, _, _, Try.underlying217⟩, fun _ h => (by cases h), Try.t217, rfl, rfl, fun _ h => by cases h⟩
theorem tn218 : TnOk Try.prog 218 (.fn [.sl 69 (.st [.int .i64, .int .i64, .int .i64]), .int .i64] (.int .i64)) := ⟨⟨_, _, _, Try.underlying218⟩, fun _ h => (by cases h), Try.t218, rfl, rfl, fun _ h => by cases h⟩
theorem tn223 : TnOk Try.prog 223 (.fn [.sl 37 (.st [.int .i64, .sl 3 (.int .i64), .sl 3 (.int .i64)]), .sl 37 (.st [.int .i64, .sl 3 (.int .i64), .sl 3 (.int .i64)])] (.bool)) := ⟨⟨_, _, _, Try.underlying223⟩, fun _ h => (by cases h), Try.t223, rfl, rfl, fun _ h => by cases h⟩
theorem tn226 : TnOk Try.prog 226 (.fn [.st [.int .i64, .int .i64, .int .i64], .st [.int .i64, .int .i64, .int .i64]] (.bool)) := ⟨⟨_, _, _, Try.underlying226⟩, fun _ h => (by cases h), Try.t226, rfl, rfl, fun _ h => by cases h⟩
theorem tn232 : TnOk Try.prog 232 (.fn [.st [.int .i64, .int .i64], .st [.int .i64, .int .i64]] (.bool)) := ⟨⟨_, _, _, Try.underlying232⟩, fun _ h => (by cases h), Try.t232, rfl, rfl, fun _ h => by cases h⟩
def tys : List (Nat × Ty) := [(3, .int .i64), (4, .bool), (5, .int .u8), (9, .str), (22, .sl 5 (.int .u8)), (23, .sl 35 (.st [.str, .int .i64, .sl 37 (.st [.int .i64, .sl 3 (.int .i64), .sl 3 (.int .i64)])])), (24, .sl 115 (.st [.int .i64, .int .i64, .bool, .int .i64])), (25, .sl 44 (.st [.sl 176 (.st [.int .i64, .int .i64]), .sl 26 (.sl 3 (.int .i64))])), (26, .sl 3 (.int .i64)), (27, .st [.int .i64, .sl 35 (.st [.str, .int .i64, .sl 37 (.st [.int .i64, .sl 3 (.int .i64), .sl 3 (.int .i64)])]), .sl 115 (.st [.int .i64, .int .i64, .bool, .int .i64]), .sl 44 (.st [.sl 176 (.st [.int .i64, .int .i64]), .sl 26 (.sl 3 (.int .i64))]), .sl 3 (.int .i64)]), (28, .st [.int .i64, .sl 35 (.st [.str, .int .i64, .sl 37 (.st [.int .i64, .sl 3 (.int .i64), .sl 3 (.int .i64)])]), .sl 115 (.st [.int .i64, .int .i64, .bool, .int .i64]), .sl 44 (.st [.sl 176 (.st [.int .i64, .int .i64]), .sl 26 (.sl 3 (.int .i64))]), .sl 3 (.int .i64)]), (33, .sl 37 (.st [.int .i64, .sl 3 (.int .i64), .sl 3 (.int .i64)])), (34, .st [.str, .int .i64, .sl 37 (.st [.int .i64, .sl 3 (.int .i64), .sl 3 (.int .i64)])]), (35, .st [.str, .int .i64, .sl 37 (.st [.int .i64, .sl 3 (.int .i64), .sl 3 (.int .i64)])]), (36, .st [.int .i64, .sl 3 (.int .i64), .sl 3 (.int .i64)]), (37, .st [.int .i64, .sl 3 (.int .i64), .sl 3 (.int .i64)]), (39, .fn [.st [.int .i64, .sl 35 (.st [.str, .int .i64, .sl 37 (.st [.int .i64, .sl 3 (.int .i64), .sl 3 (.int .i64)])]), .sl 115 (.st [.int .i64, .int .i64, .bool, .int .i64]), .sl 44 (.st [.sl 176 (.st [.int .i64, .int .i64]), .sl 26 (.sl 3 (.int .i64))]), .sl 3 (.int .i64)], .st [.int .i64, .sl 35 (.st [.str, .int .i64, .sl 37 (.st [.int .i64, .sl 3 (.int .i64), .sl 3 (.int .i64)])]), .sl 115 (.st [.int .i64, .int .i64, .bool, .int .i64]), .sl 44 (.st [.sl 176 (.st [.int .i64, .int .i64]), .sl 26 (.sl 3 (.int .i64))]), .sl 3 (.int .i64)]] (.bool)), (41, .sl 176 (.st [.int .i64, .int .i64])), (42, .sl 26 (.sl 3 (.int .i64))), (43, .st [.sl 176 (.st [.int .i64, .int .i64]), .sl 26 (.sl 3 (.int .i64))]), (44, .st [.sl 176 (.st [.int .i64, .int .i64]), .sl 26 (.sl 3 (.int .i64))]), (46, .fn [.st [.str, .int .i64, .sl 37 (.st [.int .i64, .sl 3 (.int .i64), .sl 3 (.int .i64)])], .st [.str, .int .i64, .sl 37 (.st [.int .i64, .sl 3 (.int .i64), .sl 3 (.int .i64)])]] (.bool)), (48, .st [.sl 3 (.int .i64), .sl 3 (.int .i64)]), (54, .fn [.st [.int .i64, .st [.sl 3 (.int .i64), .sl 3 (.int .i64)], .int .i64, .int .i64, .sl 128 (.st [.int .i64, .st [.int .i64, .int .i64, .int .i64, .int .i64], .sl 69 (.st [.int .i64, .int .i64, .int .i64])]), .int .i64], .st [.int .i64, .st [.sl 3 (.int .i64), .sl 3 (.int .i64)], .int .i64, .int .i64, .sl 128 (.st [.int .i64, .st [.int .i64, .int .i64, .int .i64, .int .i64], .sl 69 (.st [.int .i64, .int .i64, .int .i64])]), .int .i64]] (.bool)), (55, .st [.sl 3 (.int .i64), .sl 3 (.int .i64)]), (56, .sl 128 (.st [.int .i64, .st [.int .i64, .int .i64, .int .i64, .int .i64], .sl 69 (.st [.int .i64, .int .i64, .int .i64])])), (57, .st [.int .i64, .st [.sl 3 (.int .i64), .sl 3 (.int .i64)], .int .i64, .int .i64, .sl 128 (.st [.int .i64, .st [.int .i64, .int .i64, .int .i64, .int .i64], .sl 69 (.st [.int .i64, .int .i64, .int .i64])]), .int .i64]), (58, .st [.int .i64, .st [.sl 3 (.int .i64), .sl 3 (.int .i64)], .int .i64, .int .i64, .sl 128 (.st [.int .i64, .st [.int .i64, .int .i64, .int .i64, .int .i64], .sl 69 (.st [.int .i64, .int .i64, .int .i64])]), .int .i64]), (63, .st [.int .i64, .int .i64, .int .i64]), (69, .st [.int .i64, .int .i64, .int .i64]), (80, .st [.st [.int .i64, .sl 35 (.st [.str, .int .i64, .sl 37 (.st [.int .i64, .sl 3 (.int .i64), .sl 3 (.int .i64)])]), .sl 115 (.st [.int .i64, .int .i64, .bool, .int .i64]), .sl 44 (.st [.sl 176 (.st [.int .i64, .int .i64]), .sl 26 (.sl 3 (.int .i64))]), .sl 3 (.int .i64)], .st [.int .i64, .st [.sl 3 (.int .i64), .sl 3 (.int .i64)], .int .i64, .int .i64, .sl 128 (.st [.int .i64, .st [.int .i64, .int .i64, .int .i64, .int .i64], .sl 69 (.st [.int .i64, .int .i64, .int .i64])]), .int .i64], .int .i64]), (81, .st [.st [.int .i64, .sl 35 (.st [.str, .int .i64, .sl 37 (.st [.int .i64, .sl 3 (.int .i64), .sl 3 (.int .i64)])]), .sl 115 (.st [.int .i64, .int .i64, .bool, .int .i64]), .sl 44 (.st [.sl 176 (.st [.int .i64, .int .i64]), .sl 26 (.sl 3 (.int .i64))]), .sl 3 (.int .i64)], .st [.int .i64, .st [.sl 3 (.int .i64), .sl 3 (.int .i64)], .int .i64, .int .i64, .sl 128 (.st [.int .i64, .st [.int .i64, .int .i64, .int .i64, .int .i64], .sl 69 (.st [.int .i64, .int .i64, .int .i64])]), .int .i64], .int .i64]), (82, .fn [] (.st [.st [.int .i64, .sl 35 (.st [.str, .int .i64, .sl 37 (.st [.int .i64, .sl 3 (.int .i64), .sl 3 (.int .i64)])]), .sl 115 (.st [.int .i64, .int .i64, .bool, .int .i64]), .sl 44 (.st [.sl 176 (.st [.int .i64, .int .i64]), .sl 26 (.sl 3 (.int .i64))]), .sl 3 (.int .i64)], .st [.int .i64, .st [.sl 3 (.int .i64), .sl 3 (.int .i64)], .int .i64, .int .i64, .sl 128 (.st [.int .i64, .st [.int .i64, .int .i64, .int .i64, .int .i64], .sl 69 (.st [.int .i64, .int .i64, .int .i64])]), .int .i64], .int .i64])), (83, .fn [.st [.st [.int .i64, .sl 35 (.st [.str, .int .i64, .sl 37 (.st [.int .i64, .sl 3 (.int .i64), .sl 3 (.int .i64)])]), .sl 115 (.st [.int .i64, .int .i64, .bool, .int .i64]), .sl 44 (.st [.sl 176 (.st [.int .i64, .int .i64]), .sl 26 (.sl 3 (.int .i64))]), .sl 3 (.int .i64)], .st [.int .i64, .st [.sl 3 (.int .i64), .sl 3 (.int .i64)], .int .i64, .int .i64, .sl 128 (.st [.int .i64, .st [.int .i64, .int .i64, .int .i64, .int .i64], .sl 69 (.st [.int .i64, .int .i64, .int .i64])]), .int .i64], .int .i64], .st [.st [.int .i64, .sl 35 (.st [.str, .int .i64, .sl 37 (.st [.int .i64, .sl 3 (.int .i64), .sl 3 (.int .i64)])]), .sl 115 (.st [.int .i64, .int .i64, .bool, .int .i64]), .sl 44 (.st [.sl 176 (.st [.int .i64, .int .i64]), .sl 26 (.sl 3 (.int .i64))]), .sl 3 (.int .i64)], .st [.int .i64, .st [.sl 3 (.int .i64), .sl 3 (.int .i64)], .int .i64, .int .i64, .sl 128 (.st [.int .i64, .st [.int .i64, .int .i64, .int .i64, .int .i64], .sl 69 (.st [.int .i64, .int .i64, .int .i64])]), .int .i64], .int .i64]] (.bool)), (84, .fn [.st [.st [.int .i64, .sl 35 (.st [.str, .int .i64, .sl 37 (.st [.int .i64, .sl 3 (.int .i64), .sl 3 (.int .i64)])]), .sl 115 (.st [.int .i64, .int .i64, .bool, .int .i64]), .sl 44 (.st [.sl 176 (.st [.int .i64, .int .i64]), .sl 26 (.sl 3 (.int .i64))]), .sl 3 (.int .i64)], .st [.int .i64, .st [.sl 3 (.int .i64), .sl 3 (.int .i64)], .int .i64, .int .i64, .sl 128 (.st [.int .i64, .st [.int .i64, .int .i64, .int .i64, .int .i64], .sl 69 (.st [.int .i64, .int .i64, .int .i64])]), .int .i64], .int .i64], .int .i64] (.int .i64)), (85, .fn [] (.bool)), (102, .fn [.st [.sl 3 (.int .i64), .sl 3 (.int .i64)], .st [.sl 3 (.int .i64), .sl 3 (.int .i64)]] (.bool)), (113, .fn [.sl 115 (.st [.int .i64, .int .i64, .bool, .int .i64]), .sl 115 (.st [.int .i64, .int .i64, .bool, .int .i64])] (.bool)), (114, .st [.int .i64, .int .i64, .bool, .int .i64]), (115, .st [.int .i64, .int .i64, .bool, .int .i64]), (117, .fn [.st [.sl 176 (.st [.int .i64, .int .i64]), .sl 26 (.sl 3 (.int .i64))], .st [.sl 176 (.st [.int .i64, .int .i64]), .sl 26 (.sl 3 (.int .i64))]] (.bool)), (118, .fn [.sl 3 (.int .i64), .sl 3 (.int .i64)] (.bool)), (122, .fn [.st [.int .i64, .sl 3 (.int .i64), .sl 3 (.int .i64)], .st [.int .i64, .sl 3 (.int .i64), .sl 3 (.int .i64)]] (.bool)), (124, .st [.int .i64, .int .i64, .int .i64, .int .i64]), (125, .st [.int .i64, .int .i64, .int .i64, .int .i64]), (126, .sl 69 (.st [.int .i64, .int .i64, .int .i64])), (127, .st [.int .i64, .st [.int .i64, .int .i64, .int .i64, .int .i64], .sl 69 (.st [.int .i64, .int .i64, .int .i64])]), (128, .st [.int .i64, .st [.int .i64, .int .i64, .int .i64, .int .i64], .sl 69 (.st [.int .i64, .int .i64, .int .i64])]), (129, .fn [.st [.int .i64, .st [.int .i64, .int .i64, .int .i64, .int .i64], .sl 69 (.st [.int .i64, .int .i64, .int .i64])], .st [.int .i64, .st [.int .i64, .int .i64, .int .i64, .int .i64], .sl 69 (.st [.int .i64, .int .i64, .int .i64])]] (.bool)), (131, .fn [.sl 128 (.st [.int .i64, .st [.int .i64, .int .i64, .int .i64, .int .i64], .sl 69 (.st [.int .i64, .int .i64, .int .i64])]), .sl 128 (.st [.int .i64, .st [.int .i64, .int .i64, .int .i64, .int .i64], .sl 69 (.st [.int .i64, .int .i64, .int .i64])])] (.bool)), (132, .fn [.sl 3 (.int .i64), .int .i64] (.int .i64)), (133, .fn [.sl 26 (.sl 3 (.int .i64)), .int .i64] (.int .i64)), (144, .fn [.sl 26 (.sl 3 (.int .i64)), .sl 26 (.sl 3 (.int .i64))] (.bool)), (148, .fn [.st [.sl 3 (.int .i64), .sl 3 (.int .i64)], .int .i64] (.int .i64)), (151, .fn [.sl 176 (.st [.int .i64, .int .i64]), .int .i64] (.int .i64)), (153, .fn [.st [.int .i64, .sl 35 (.st [.str, .int .i64, .sl 37 (.st [.int .i64, .sl 3 (.int .i64), .sl 3 (.int .i64)])]), .sl 115 (.st [.int .i64, .int .i64, .bool, .int .i64]), .sl 44 (.st [.sl 176 (.st [.int .i64, .int .i64]), .sl 26 (.sl 3 (.int .i64))]), .sl 3 (.int .i64)], .int .i64] (.int .i64)), (154, .fn [.st [.int .i64, .st [.sl 3 (.int .i64), .sl 3 (.int .i64)], .int .i64, .int .i64, .sl 128 (.st [.int .i64, .st [.int .i64, .int .i64, .int .i64, .int .i64], .sl 69 (.st [.int .i64, .int .i64, .int .i64])]), .int .i64], .int .i64] (.int .i64)), (161, .fn [.sl 35 (.st [.str, .int .i64, .sl 37 (.st [.int .i64, .sl 3 (.int .i64), .sl 3 (.int .i64)])]), .sl 35 (.st [.str, .int .i64, .sl 37 (.st [.int .i64, .sl 3 (.int .i64), .sl 3 (.int .i64)])])] (.bool)), (162, .fn [.sl 44 (.st [.sl 176 (.st [.int .i64, .int .i64]), .sl 26 (.sl 3 (.int .i64))]), .sl 44 (.st [.sl 176 (.st [.int .i64, .int .i64]), .sl 26 (.sl 3 (.int .i64))])] (.bool)), (175, .st [.int .i64, .int .i64]), (176, .st [.int .i64, .int .i64]), (177, .fn [.sl 176 (.st [.int .i64, .int .i64]), .sl 176 (.st [.int .i64, .int .i64])] (.bool)), (184, .fn [.sl 69 (.st [.int .i64, .int .i64, .int .i64]), .sl 69 (.st [.int .i64, .int .i64, .int .i64])] (.bool)), (187, .fn [.sl 35 (.st [.str, .int .i64, .sl 37 (.st [.int .i64, .sl 3 (.int .i64), .sl 3 (.int .i64)])]), .int .i64] (.int .i64)), (188, .fn [.sl 115 (.st [.int .i64, .int .i64, .bool, .int .i64]), .int .i64] (.int .i64)), (189, .fn [.sl 44 (.st [.sl 176 (.st [.int .i64, .int .i64]), .sl 26 (.sl 3 (.int .i64))]), .int .i64] (.int .i64)), (190, .fn [.sl 128 (.st [.int .i64, .st [.int .i64, .int .i64, .int .i64, .int .i64], .sl 69 (.st [.int .i64, .int .i64, .int .i64])]), .int .i64] (.int .i64)), (203, .fn [.st [.int .i64, .int .i64, .bool, .int .i64], .st [.int .i64, .int .i64, .bool, .int .i64]] (.bool)), (215, .fn [.st [.int .i64, .int .i64, .int .i64, .int .i64], .st [.int .i64, .int .i64, .int .i64, .int .i64]] (.bool)), (216, .fn [.int .i64] (.str)), (217, .fn [.sl 37 (.st [.int .i64, .sl 3 (.int .i64), .sl 3 (.int .i64)]), .int .i64] (.int .i64)), (218, .fn [.sl 69 (.st [.int .i64, .int .i64, .int .i64]), .int .i64] (.int .i64)), (223, .fn [.sl 37 (.st [.int .i64, .sl 3 (.int .i64), .sl 3 (.int .i64)]), .sl 37 (.st [.int .i64, .sl 3 (.int .i64), .sl 3 (.int .i64)])] (.bool)), (226, .fn [.st [.int .i64, .int .i64, .int .i64], .st [.int .i64, .int .i64, .int .i64]] (.bool)), (232, .fn [.st [.int .i64, .int .i64], .st [.int .i64, .int .i64]] (.bool))]
theorem tysOk : LkAll (TnOk Try.prog) tys := ⟨tn3, tn4, tn5, tn9, tn22, tn23, tn24, tn25, tn26, tn27, tn28, tn33, tn34, tn35, tn36, tn37, tn39, tn41, tn42, tn43, tn44, tn46, tn48, tn54, tn55, tn56, tn57, tn58, tn63, tn69, tn80, tn81, tn82, tn83, tn84, tn85, tn102, tn113, tn114, tn115, tn117, tn118, tn122, tn124, tn125, tn126, tn127, tn128, tn129, tn131, tn132, tn133, tn144, tn148, tn151, tn153, tn154, tn161, tn162, tn175, tn176, tn177, tn184, tn187, tn188, tn189, tn190, tn203, tn215, tn216, tn217, tn218, tn223, tn226, tn232, trivial⟩
def laws_eqIntS_L0 : (Int × ((List Int) × ((List Int) × Unit))) → Option (Out (Int × ((List Int) × ((List Int) × Unit))) ((Bool × (Int × ((List Int) × ((List Int) × Unit)))) ⊕ Empty) (Bool × Unit)) :=
  (fun v0 => (if (ltZ v0.1 (lenI v0.2.1)) = true then (Option.bind (getI v0.2.1 v0.1) fun v1 => (Option.bind (getI v0.2.2.1 v0.1) fun v2 => (if (notB (eqZ v1 v2)) = true then (some (Out.ret (false, ()))) else (some (Out.norm ((addZ .i64 v0.1 1), (v0.2.1, (v0.2.2.1, ())))))))) else (some (Out.exit (Sum.inl ((ltZ v0.1 (lenI v0.2.1)), (v0.1, (v0.2.1, (v0.2.2.1, ())))))))))
def laws_eqIntS (x : ((List Int) × ((List Int) × Unit))) (c : Unit) : (Option (Bool × Unit)) :=
  (if (notB (eqZ (lenI x.1) (lenI x.2.1))) = true then (some (false, ())) else (Option.bind (loopN (A := (Int × ((List Int) × ((List Int) × Unit)))) big laws_eqIntS_L0 (0, (x.1, (x.2.1, ())))) fun v3 => (match v3 with | Out.norm v4 => none | Out.exit v5 => (match ((match v5 with | Sum.inl v8 => (Sum.inl ()) | Sum.inr v9 => (Empty.elim v9)) : (Unit ⊕ Empty)) with | Sum.inl v6 => (some (true, ())) | Sum.inr v7 => none) | Out.ret v10 => (some v10))))
def H_laws_eqIntS : Hd := ⟨[.sl 3 (.int .i64), .sl 3 (.int .i64)], [], none, .p, .bool, .p, []⟩
def T_laws_eqIntS : FSig := ⟨H_laws_eqIntS.ps, H_laws_eqIntS.cs, H_laws_eqIntS.io, H_laws_eqIntS.im, H_laws_eqIntS.R, H_laws_eqIntS.m, laws_eqIntS⟩
theorem E_laws_eqIntS : fnOf tys [] Try.f97 H_laws_eqIntS = T_laws_eqIntS := by kernel_rfl
theorem K_laws_eqIntS : SigOk Try.prog 97 T_laws_eqIntS := (congrArg (SigOk Try.prog 97) E_laws_eqIntS).mp (fnOf_ok rfl tysOk trivial Try.func97 (by decide) rfl (fun _ h => by cases h))
def laws_eqSchedule (x : (((List Int) × ((List Int) × Unit)) × (((List Int) × ((List Int) × Unit)) × Unit))) (c : Unit) : (Option (Bool × Unit)) :=
  (Option.bind ((Option.bind (laws_eqIntS (x.1.1, (x.2.1.1, ())) ()) fun v0 => (some v0.1)) : (Option Bool)) fun v1 => (if (notB v1) = true then (some (false, ())) else (Option.bind ((Option.bind (laws_eqIntS (x.1.2.1, (x.2.1.2.1, ())) ()) fun v2 => (some v2.1)) : (Option Bool)) fun v3 => (if (notB v3) = true then (some (false, ())) else (some (true, ()))))))
def H_laws_eqSchedule : Hd := ⟨[.st [.sl 3 (.int .i64), .sl 3 (.int .i64)], .st [.sl 3 (.int .i64), .sl 3 (.int .i64)]], [], none, .p, .bool, .p, []⟩
def T_laws_eqSchedule : FSig := ⟨H_laws_eqSchedule.ps, H_laws_eqSchedule.cs, H_laws_eqSchedule.io, H_laws_eqSchedule.im, H_laws_eqSchedule.R, H_laws_eqSchedule.m, laws_eqSchedule⟩
theorem E_laws_eqSchedule : fnOf tys [(97, T_laws_eqIntS)] Try.f55 H_laws_eqSchedule = T_laws_eqSchedule := by kernel_rfl
theorem K_laws_eqSchedule : SigOk Try.prog 55 T_laws_eqSchedule := (congrArg (SigOk Try.prog 55) E_laws_eqSchedule).mp (fnOf_ok rfl tysOk ⟨K_laws_eqIntS, trivial⟩ Try.func55 (by decide) rfl (fun _ h => by cases h))
def laws_eqRule (x : ((Int × (Int × (Int × (Int × Unit)))) × ((Int × (Int × (Int × (Int × Unit)))) × Unit))) (c : Unit) : (Option (Bool × Unit)) :=
  (if (notB (eqZ x.1.1 x.2.1.1)) = true then (some (false, ())) else (if (notB (eqZ x.1.2.1 x.2.1.2.1)) = true then (some (false, ())) else (if (notB (eqZ x.1.2.2.1 x.2.1.2.2.1)) = true then (some (false, ())) else (if (notB (eqZ x.1.2.2.2.1 x.2.1.2.2.2.1)) = true then (some (false, ())) else (some (true, ()))))))
def H_laws_eqRule : Hd := ⟨[.st [.int .i64, .int .i64, .int .i64, .int .i64], .st [.int .i64, .int .i64, .int .i64, .int .i64]], [], none, .p, .bool, .p, []⟩
def T_laws_eqRule : FSig := ⟨H_laws_eqRule.ps, H_laws_eqRule.cs, H_laws_eqRule.io, H_laws_eqRule.im, H_laws_eqRule.R, H_laws_eqRule.m, laws_eqRule⟩
theorem E_laws_eqRule : fnOf tys [] Try.f190 H_laws_eqRule = T_laws_eqRule := by kernel_rfl
theorem K_laws_eqRule : SigOk Try.prog 190 T_laws_eqRule := (congrArg (SigOk Try.prog 190) E_laws_eqRule).mp (fnOf_ok rfl tysOk trivial Try.func190 (by decide) rfl (fun _ h => by cases h))
def laws_eqLiteral (x : ((Int × (Int × (Int × Unit))) × ((Int × (Int × (Int × Unit))) × Unit))) (c : Unit) : (Option (Bool × Unit)) :=
  (if (notB (eqZ x.1.1 x.2.1.1)) = true then (some (false, ())) else (if (notB (eqZ x.1.2.1 x.2.1.2.1)) = true then (some (false, ())) else (if (notB (eqZ x.1.2.2.1 x.2.1.2.2.1)) = true then (some (false, ())) else (some (true, ())))))
def H_laws_eqLiteral : Hd := ⟨[.st [.int .i64, .int .i64, .int .i64], .st [.int .i64, .int .i64, .int .i64]], [], none, .p, .bool, .p, []⟩
def T_laws_eqLiteral : FSig := ⟨H_laws_eqLiteral.ps, H_laws_eqLiteral.cs, H_laws_eqLiteral.io, H_laws_eqLiteral.im, H_laws_eqLiteral.R, H_laws_eqLiteral.m, laws_eqLiteral⟩
theorem E_laws_eqLiteral : fnOf tys [] Try.f210 H_laws_eqLiteral = T_laws_eqLiteral := by kernel_rfl
theorem K_laws_eqLiteral : SigOk Try.prog 210 T_laws_eqLiteral := (congrArg (SigOk Try.prog 210) E_laws_eqLiteral).mp (fnOf_ok rfl tysOk trivial Try.func210 (by decide) rfl (fun _ h => by cases h))
def laws_eqLiteralS_L0 : (Int × ((List (Int × (Int × (Int × Unit)))) × ((List (Int × (Int × (Int × Unit)))) × Unit))) → Option (Out (Int × ((List (Int × (Int × (Int × Unit)))) × ((List (Int × (Int × (Int × Unit)))) × Unit))) ((Bool × (Int × ((List (Int × (Int × (Int × Unit)))) × ((List (Int × (Int × (Int × Unit)))) × Unit)))) ⊕ Empty) (Bool × Unit)) :=
  (fun v0 => (if (ltZ v0.1 (lenI v0.2.1)) = true then (Option.bind (getI v0.2.1 v0.1) fun v1 => (Option.bind (getI v0.2.2.1 v0.1) fun v2 => (Option.bind ((Option.bind (laws_eqLiteral (v1, (v2, ())) ()) fun v3 => (some v3.1)) : (Option Bool)) fun v4 => (if (notB v4) = true then (some (Out.ret (false, ()))) else (some (Out.norm ((addZ .i64 v0.1 1), (v0.2.1, (v0.2.2.1, ()))))))))) else (some (Out.exit (Sum.inl ((ltZ v0.1 (lenI v0.2.1)), (v0.1, (v0.2.1, (v0.2.2.1, ())))))))))
def laws_eqLiteralS (x : ((List (Int × (Int × (Int × Unit)))) × ((List (Int × (Int × (Int × Unit)))) × Unit))) (c : Unit) : (Option (Bool × Unit)) :=
  (if (notB (eqZ (lenI x.1) (lenI x.2.1))) = true then (some (false, ())) else (Option.bind (loopN (A := (Int × ((List (Int × (Int × (Int × Unit)))) × ((List (Int × (Int × (Int × Unit)))) × Unit)))) big laws_eqLiteralS_L0 (0, (x.1, (x.2.1, ())))) fun v5 => (match v5 with | Out.norm v6 => none | Out.exit v7 => (match ((match v7 with | Sum.inl v10 => (Sum.inl ()) | Sum.inr v11 => (Empty.elim v11)) : (Unit ⊕ Empty)) with | Sum.inl v8 => (some (true, ())) | Sum.inr v9 => none) | Out.ret v12 => (some v12))))
def H_laws_eqLiteralS : Hd := ⟨[.sl 69 (.st [.int .i64, .int .i64, .int .i64]), .sl 69 (.st [.int .i64, .int .i64, .int .i64])], [], none, .p, .bool, .p, []⟩
def T_laws_eqLiteralS : FSig := ⟨H_laws_eqLiteralS.ps, H_laws_eqLiteralS.cs, H_laws_eqLiteralS.io, H_laws_eqLiteralS.im, H_laws_eqLiteralS.R, H_laws_eqLiteralS.m, laws_eqLiteralS⟩
theorem E_laws_eqLiteralS : fnOf tys [(210, T_laws_eqLiteral)] Try.f191 H_laws_eqLiteralS = T_laws_eqLiteralS := by kernel_rfl
theorem K_laws_eqLiteralS : SigOk Try.prog 191 T_laws_eqLiteralS := (congrArg (SigOk Try.prog 191) E_laws_eqLiteralS).mp (fnOf_ok rfl tysOk ⟨K_laws_eqLiteral, trivial⟩ Try.func191 (by decide) rfl (fun _ h => by cases h))
def laws_eqLine (x : ((Int × ((Int × (Int × (Int × (Int × Unit)))) × ((List (Int × (Int × (Int × Unit)))) × Unit))) × ((Int × ((Int × (Int × (Int × (Int × Unit)))) × ((List (Int × (Int × (Int × Unit)))) × Unit))) × Unit))) (c : Unit) : (Option (Bool × Unit)) :=
  (if (notB (eqZ x.1.1 x.2.1.1)) = true then (some (false, ())) else (Option.bind ((Option.bind (laws_eqRule (x.1.2.1, (x.2.1.2.1, ())) ()) fun v0 => (some v0.1)) : (Option Bool)) fun v1 => (if (notB v1) = true then (some (false, ())) else (Option.bind ((Option.bind (laws_eqLiteralS (x.1.2.2.1, (x.2.1.2.2.1, ())) ()) fun v2 => (some v2.1)) : (Option Bool)) fun v3 => (if (notB v3) = true then (some (false, ())) else (some (true, ())))))))
def H_laws_eqLine : Hd := ⟨[.st [.int .i64, .st [.int .i64, .int .i64, .int .i64, .int .i64], .sl 69 (.st [.int .i64, .int .i64, .int .i64])], .st [.int .i64, .st [.int .i64, .int .i64, .int .i64, .int .i64], .sl 69 (.st [.int .i64, .int .i64, .int .i64])]], [], none, .p, .bool, .p, []⟩
def T_laws_eqLine : FSig := ⟨H_laws_eqLine.ps, H_laws_eqLine.cs, H_laws_eqLine.io, H_laws_eqLine.im, H_laws_eqLine.R, H_laws_eqLine.m, laws_eqLine⟩
theorem E_laws_eqLine : fnOf tys [(190, T_laws_eqRule), (191, T_laws_eqLiteralS)] Try.f152 H_laws_eqLine = T_laws_eqLine := by kernel_rfl
theorem K_laws_eqLine : SigOk Try.prog 152 T_laws_eqLine := (congrArg (SigOk Try.prog 152) E_laws_eqLine).mp (fnOf_ok rfl tysOk ⟨K_laws_eqRule, K_laws_eqLiteralS, trivial⟩ Try.func152 (by decide) rfl (fun _ h => by cases h))
def laws_eqLineS_L0 : (Int × ((List (Int × ((Int × (Int × (Int × (Int × Unit)))) × ((List (Int × (Int × (Int × Unit)))) × Unit)))) × ((List (Int × ((Int × (Int × (Int × (Int × Unit)))) × ((List (Int × (Int × (Int × Unit)))) × Unit)))) × Unit))) → Option (Out (Int × ((List (Int × ((Int × (Int × (Int × (Int × Unit)))) × ((List (Int × (Int × (Int × Unit)))) × Unit)))) × ((List (Int × ((Int × (Int × (Int × (Int × Unit)))) × ((List (Int × (Int × (Int × Unit)))) × Unit)))) × Unit))) ((Bool × (Int × ((List (Int × ((Int × (Int × (Int × (Int × Unit)))) × ((List (Int × (Int × (Int × Unit)))) × Unit)))) × ((List (Int × ((Int × (Int × (Int × (Int × Unit)))) × ((List (Int × (Int × (Int × Unit)))) × Unit)))) × Unit)))) ⊕ Empty) (Bool × Unit)) :=
  (fun v0 => (if (ltZ v0.1 (lenI v0.2.1)) = true then (Option.bind (getI v0.2.1 v0.1) fun v1 => (Option.bind (getI v0.2.2.1 v0.1) fun v2 => (Option.bind ((Option.bind (laws_eqLine (v1, (v2, ())) ()) fun v3 => (some v3.1)) : (Option Bool)) fun v4 => (if (notB v4) = true then (some (Out.ret (false, ()))) else (some (Out.norm ((addZ .i64 v0.1 1), (v0.2.1, (v0.2.2.1, ()))))))))) else (some (Out.exit (Sum.inl ((ltZ v0.1 (lenI v0.2.1)), (v0.1, (v0.2.1, (v0.2.2.1, ())))))))))
def laws_eqLineS (x : ((List (Int × ((Int × (Int × (Int × (Int × Unit)))) × ((List (Int × (Int × (Int × Unit)))) × Unit)))) × ((List (Int × ((Int × (Int × (Int × (Int × Unit)))) × ((List (Int × (Int × (Int × Unit)))) × Unit)))) × Unit))) (c : Unit) : (Option (Bool × Unit)) :=
  (if (notB (eqZ (lenI x.1) (lenI x.2.1))) = true then (some (false, ())) else (Option.bind (loopN (A := (Int × ((List (Int × ((Int × (Int × (Int × (Int × Unit)))) × ((List (Int × (Int × (Int × Unit)))) × Unit)))) × ((List (Int × ((Int × (Int × (Int × (Int × Unit)))) × ((List (Int × (Int × (Int × Unit)))) × Unit)))) × Unit)))) big laws_eqLineS_L0 (0, (x.1, (x.2.1, ())))) fun v5 => (match v5 with | Out.norm v6 => none | Out.exit v7 => (match ((match v7 with | Sum.inl v10 => (Sum.inl ()) | Sum.inr v11 => (Empty.elim v11)) : (Unit ⊕ Empty)) with | Sum.inl v8 => (some (true, ())) | Sum.inr v9 => none) | Out.ret v12 => (some v12))))
def H_laws_eqLineS : Hd := ⟨[.sl 128 (.st [.int .i64, .st [.int .i64, .int .i64, .int .i64, .int .i64], .sl 69 (.st [.int .i64, .int .i64, .int .i64])]), .sl 128 (.st [.int .i64, .st [.int .i64, .int .i64, .int .i64, .int .i64], .sl 69 (.st [.int .i64, .int .i64, .int .i64])])], [], none, .p, .bool, .p, []⟩
def T_laws_eqLineS : FSig := ⟨H_laws_eqLineS.ps, H_laws_eqLineS.cs, H_laws_eqLineS.io, H_laws_eqLineS.im, H_laws_eqLineS.R, H_laws_eqLineS.m, laws_eqLineS⟩
theorem E_laws_eqLineS : fnOf tys [(152, T_laws_eqLine)] Try.f79 H_laws_eqLineS = T_laws_eqLineS := by kernel_rfl
theorem K_laws_eqLineS : SigOk Try.prog 79 T_laws_eqLineS := (congrArg (SigOk Try.prog 79) E_laws_eqLineS).mp (fnOf_ok rfl tysOk ⟨K_laws_eqLine, trivial⟩ Try.func79 (by decide) rfl (fun _ h => by cases h))
def laws_eqResult (x : ((Int × (((List Int) × ((List Int) × Unit)) × (Int × (Int × ((List (Int × ((Int × (Int × (Int × (Int × Unit)))) × ((List (Int × (Int × (Int × Unit)))) × Unit)))) × (Int × Unit)))))) × ((Int × (((List Int) × ((List Int) × Unit)) × (Int × (Int × ((List (Int × ((Int × (Int × (Int × (Int × Unit)))) × ((List (Int × (Int × (Int × Unit)))) × Unit)))) × (Int × Unit)))))) × Unit))) (c : Unit) : (Option (Bool × Unit)) :=
  (if (notB (eqZ x.1.1 x.2.1.1)) = true then (some (false, ())) else (Option.bind ((Option.bind (laws_eqSchedule (x.1.2.1, (x.2.1.2.1, ())) ()) fun v0 => (some v0.1)) : (Option Bool)) fun v1 => (if (notB v1) = true then (some (false, ())) else (if (notB (eqZ x.1.2.2.1 x.2.1.2.2.1)) = true then (some (false, ())) else (if (notB (eqZ x.1.2.2.2.1 x.2.1.2.2.2.1)) = true then (some (false, ())) else (Option.bind ((Option.bind (laws_eqLineS (x.1.2.2.2.2.1, (x.2.1.2.2.2.2.1, ())) ()) fun v2 => (some v2.1)) : (Option Bool)) fun v3 => (if (notB v3) = true then (some (false, ())) else (if (notB (eqZ x.1.2.2.2.2.2.1 x.2.1.2.2.2.2.2.1)) = true then (some (false, ())) else (some (true, ()))))))))))
def H_laws_eqResult : Hd := ⟨[.st [.int .i64, .st [.sl 3 (.int .i64), .sl 3 (.int .i64)], .int .i64, .int .i64, .sl 128 (.st [.int .i64, .st [.int .i64, .int .i64, .int .i64, .int .i64], .sl 69 (.st [.int .i64, .int .i64, .int .i64])]), .int .i64], .st [.int .i64, .st [.sl 3 (.int .i64), .sl 3 (.int .i64)], .int .i64, .int .i64, .sl 128 (.st [.int .i64, .st [.int .i64, .int .i64, .int .i64, .int .i64], .sl 69 (.st [.int .i64, .int .i64, .int .i64])]), .int .i64]], [], none, .p, .bool, .p, []⟩
def T_laws_eqResult : FSig := ⟨H_laws_eqResult.ps, H_laws_eqResult.cs, H_laws_eqResult.io, H_laws_eqResult.im, H_laws_eqResult.R, H_laws_eqResult.m, laws_eqResult⟩
theorem E_laws_eqResult : fnOf tys [(55, T_laws_eqSchedule), (79, T_laws_eqLineS)] Try.f22 H_laws_eqResult = T_laws_eqResult := by kernel_rfl
theorem K_laws_eqResult : SigOk Try.prog 22 T_laws_eqResult := (congrArg (SigOk Try.prog 22) E_laws_eqResult).mp (fnOf_ok rfl tysOk ⟨K_laws_eqSchedule, K_laws_eqLineS, trivial⟩ Try.func22 (by decide) rfl (fun _ h => by cases h))
def laws_eqIntSS_L0 : (Int × ((List (List Int)) × ((List (List Int)) × Unit))) → Option (Out (Int × ((List (List Int)) × ((List (List Int)) × Unit))) ((Bool × (Int × ((List (List Int)) × ((List (List Int)) × Unit)))) ⊕ Empty) (Bool × Unit)) :=
  (fun v0 => (if (ltZ v0.1 (lenI v0.2.1)) = true then (Option.bind (getI v0.2.1 v0.1) fun v1 => (Option.bind (getI v0.2.2.1 v0.1) fun v2 => (Option.bind ((Option.bind (laws_eqIntS (v1, (v2, ())) ()) fun v3 => (some v3.1)) : (Option Bool)) fun v4 => (if (notB v4) = true then (some (Out.ret (false, ()))) else (some (Out.norm ((addZ .i64 v0.1 1), (v0.2.1, (v0.2.2.1, ()))))))))) else (some (Out.exit (Sum.inl ((ltZ v0.1 (lenI v0.2.1)), (v0.1, (v0.2.1, (v0.2.2.1, ())))))))))
def laws_eqIntSS (x : ((List (List Int)) × ((List (List Int)) × Unit))) (c : Unit) : (Option (Bool × Unit)) :=
  (if (notB (eqZ (lenI x.1) (lenI x.2.1))) = true then (some (false, ())) else (Option.bind (loopN (A := (Int × ((List (List Int)) × ((List (List Int)) × Unit)))) big laws_eqIntSS_L0 (0, (x.1, (x.2.1, ())))) fun v5 => (match v5 with | Out.norm v6 => none | Out.exit v7 => (match ((match v7 with | Sum.inl v10 => (Sum.inl ()) | Sum.inr v11 => (Empty.elim v11)) : (Unit ⊕ Empty)) with | Sum.inl v8 => (some (true, ())) | Sum.inr v9 => none) | Out.ret v12 => (some v12))))
def H_laws_eqIntSS : Hd := ⟨[.sl 26 (.sl 3 (.int .i64)), .sl 26 (.sl 3 (.int .i64))], [], none, .p, .bool, .p, []⟩
def T_laws_eqIntSS : FSig := ⟨H_laws_eqIntSS.ps, H_laws_eqIntSS.cs, H_laws_eqIntSS.io, H_laws_eqIntSS.im, H_laws_eqIntSS.R, H_laws_eqIntSS.m, laws_eqIntSS⟩
theorem E_laws_eqIntSS : fnOf tys [(97, T_laws_eqIntS)] Try.f98 H_laws_eqIntSS = T_laws_eqIntSS := by kernel_rfl
theorem K_laws_eqIntSS : SigOk Try.prog 98 T_laws_eqIntSS := (congrArg (SigOk Try.prog 98) E_laws_eqIntSS).mp (fnOf_ok rfl tysOk ⟨K_laws_eqIntS, trivial⟩ Try.func98 (by decide) rfl (fun _ h => by cases h))
def laws_markIntS_L0 : (Int × (Int × ((List Int) × Unit))) → Option (Out (Int × (Int × ((List Int) × Unit))) ((Bool × (Int × (Int × ((List Int) × Unit)))) ⊕ Empty) (Int × (List Int))) :=
  (fun v0 => (if (ltZ v0.1 (lenI v0.2.2.1)) = true then (Option.bind ((Option.bind (getI v0.2.2.1 v0.1) fun v1 => (some ())) : (Option Unit)) fun v2 => (Option.bind ((Option.bind ((Option.bind (getI v0.2.2.1 v0.1) fun v3 => (some v3)) : (Option Int)) fun v4 => (some v0.2.1)) : (Option Int)) fun v5 => (some (Out.norm ((addZ .i64 v0.1 1), ((addZ .i64 v0.2.1 1), ((setI v0.2.2.1 v0.1 (fun v6 => v5)), ()))))))) else (some (Out.exit (Sum.inl ((ltZ v0.1 (lenI v0.2.2.1)), (v0.1, (v0.2.1, (v0.2.2.1, ())))))))))
def laws_markIntS (x : ((List Int) × (Int × Unit))) (c : Unit) : (Option (Int × (List Int))) :=
  (Option.bind (loopN (A := (Int × (Int × ((List Int) × Unit)))) big laws_markIntS_L0 (0, (x.2.1, (x.1, ())))) fun v7 => (match v7 with | Out.norm v8 => none | Out.exit v9 => (match ((match v9 with | Sum.inl v12 => (Sum.inl (v12.2.2.1, (v12.2.2.2.1, ()))) | Sum.inr v13 => (Empty.elim v13)) : ((Int × ((List Int) × Unit)) ⊕ Empty)) with | Sum.inl v10 => (some (v10.1, v10.2.1)) | Sum.inr v11 => none) | Out.ret v14 => (some v14)))
def H_laws_markIntS : Hd := ⟨[.sl 3 (.int .i64), .int .i64], [], some 0, Ty.all (.sl 3 (.int .i64)), .int .i64, .p, []⟩
def T_laws_markIntS : FSig := ⟨H_laws_markIntS.ps, H_laws_markIntS.cs, H_laws_markIntS.io, H_laws_markIntS.im, H_laws_markIntS.R, H_laws_markIntS.m, laws_markIntS⟩
theorem E_laws_markIntS : fnOf tys [] Try.f99 H_laws_markIntS = T_laws_markIntS := by kernel_rfl
theorem K_laws_markIntS : SigOk Try.prog 99 T_laws_markIntS := (congrArg (SigOk Try.prog 99) E_laws_markIntS).mp (fnOf_ok rfl tysOk trivial Try.func99 (by decide) rfl (fun _ h => by cases h; decide))
def laws_markIntSS_L0 : (Int × (Int × ((List (List Int)) × Unit))) → Option (Out (Int × (Int × ((List (List Int)) × Unit))) ((Bool × (Int × (Int × ((List (List Int)) × Unit)))) ⊕ Empty) (Int × (List (List Int)))) :=
  (fun v0 => (if (ltZ v0.1 (lenI v0.2.2.1)) = true then (Option.bind ((Option.bind (getI v0.2.2.1 v0.1) fun v1 => (some ())) : (Option Unit)) fun v2 => (Option.bind ((Option.bind (getI v0.2.2.1 v0.1) fun v3 => (some v3)) : (Option (List Int))) fun v4 => (Option.bind ((Option.bind ((Option.bind ((Option.bind (getI v0.2.2.1 v0.1) fun v5 => (some v5)) : (Option (List Int))) fun v6 => (some (v6, (v0.2.1, ())))) : (Option ((List Int) × (Int × Unit)))) fun v7 => (laws_markIntS v7 ())) : (Option (Int × (List Int)))) fun v8 => (some (Out.norm ((addZ .i64 v0.1 1), (v8.1, ((setI v0.2.2.1 v0.1 (fun v9 => v8.2)), ())))))))) else (some (Out.exit (Sum.inl ((ltZ v0.1 (lenI v0.2.2.1)), (v0.1, (v0.2.1, (v0.2.2.1, ())))))))))
def laws_markIntSS (x : ((List (List Int)) × (Int × Unit))) (c : Unit) : (Option (Int × (List (List Int)))) :=
  (Option.bind (loopN (A := (Int × (Int × ((List (List Int)) × Unit)))) big laws_markIntSS_L0 (0, (x.2.1, (x.1, ())))) fun v10 => (match v10 with | Out.norm v11 => none | Out.exit v12 => (match ((match v12 with | Sum.inl v15 => (Sum.inl (v15.2.2.1, (v15.2.2.2.1, ()))) | Sum.inr v16 => (Empty.elim v16)) : ((Int × ((List (List Int)) × Unit)) ⊕ Empty)) with | Sum.inl v13 => (some (v13.1, v13.2.1)) | Sum.inr v14 => none) | Out.ret v17 => (some v17)))
def H_laws_markIntSS : Hd := ⟨[.sl 26 (.sl 3 (.int .i64)), .int .i64], [], some 0, Ty.all (.sl 26 (.sl 3 (.int .i64))), .int .i64, .p, []⟩
def T_laws_markIntSS : FSig := ⟨H_laws_markIntSS.ps, H_laws_markIntSS.cs, H_laws_markIntSS.io, H_laws_markIntSS.im, H_laws_markIntSS.R, H_laws_markIntSS.m, laws_markIntSS⟩
theorem E_laws_markIntSS : fnOf tys [(99, T_laws_markIntS)] Try.f100 H_laws_markIntSS = T_laws_markIntSS := by kernel_rfl
theorem K_laws_markIntSS : SigOk Try.prog 100 T_laws_markIntSS := (congrArg (SigOk Try.prog 100) E_laws_markIntSS).mp (fnOf_ok rfl tysOk ⟨K_laws_markIntS, trivial⟩ Try.func100 (by decide) rfl (fun _ h => by cases h; decide))
def laws_heldIntS_L0 : (Int × ((List Int) × (Int × Unit))) → Option (Out (Int × ((List Int) × (Int × Unit))) ((Bool × (Int × ((List Int) × (Int × Unit)))) ⊕ Empty) (Int × Unit)) :=
  (fun v0 => (if (ltZ v0.1 (lenI v0.2.1)) = true then (Option.bind (getI v0.2.1 v0.1) fun v1 => (if (notB (eqZ v1 v0.2.2.1)) = true then (some (Out.ret ((-1), ()))) else (some (Out.norm ((addZ .i64 v0.1 1), (v0.2.1, ((addZ .i64 v0.2.2.1 1), ()))))))) else (some (Out.exit (Sum.inl ((ltZ v0.1 (lenI v0.2.1)), (v0.1, (v0.2.1, (v0.2.2.1, ())))))))))
def laws_heldIntS (x : ((List Int) × (Int × Unit))) (c : Unit) : (Option (Int × Unit)) :=
  (Option.bind (loopN (A := (Int × ((List Int) × (Int × Unit)))) big laws_heldIntS_L0 (0, (x.1, (x.2.1, ())))) fun v2 => (match v2 with | Out.norm v3 => none | Out.exit v4 => (match ((match v4 with | Sum.inl v7 => (Sum.inl (v7.2.2.2.1, ())) | Sum.inr v8 => (Empty.elim v8)) : ((Int × Unit) ⊕ Empty)) with | Sum.inl v5 => (some (v5.1, ())) | Sum.inr v6 => none) | Out.ret v9 => (some v9)))
def H_laws_heldIntS : Hd := ⟨[.sl 3 (.int .i64), .int .i64], [], none, .p, .int .i64, .p, []⟩
def T_laws_heldIntS : FSig := ⟨H_laws_heldIntS.ps, H_laws_heldIntS.cs, H_laws_heldIntS.io, H_laws_heldIntS.im, H_laws_heldIntS.R, H_laws_heldIntS.m, laws_heldIntS⟩
theorem E_laws_heldIntS : fnOf tys [] Try.f101 H_laws_heldIntS = T_laws_heldIntS := by kernel_rfl
theorem K_laws_heldIntS : SigOk Try.prog 101 T_laws_heldIntS := (congrArg (SigOk Try.prog 101) E_laws_heldIntS).mp (fnOf_ok rfl tysOk trivial Try.func101 (by decide) rfl (fun _ h => by cases h))
def laws_heldIntSS_L0 : (Int × ((List (List Int)) × (Int × Unit))) → Option (Out (Int × ((List (List Int)) × (Int × Unit))) ((Bool × (Int × ((List (List Int)) × (Int × Unit)))) ⊕ Empty) (Int × Unit)) :=
  (fun v0 => (if (ltZ v0.1 (lenI v0.2.1)) = true then (Option.bind (getI v0.2.1 v0.1) fun v1 => (Option.bind ((Option.bind (laws_heldIntS (v1, (v0.2.2.1, ())) ()) fun v2 => (some v2.1)) : (Option Int)) fun v3 => (if (ltZ v3 0) = true then (some (Out.ret ((-1), ()))) else (some (Out.norm ((addZ .i64 v0.1 1), (v0.2.1, (v3, ())))))))) else (some (Out.exit (Sum.inl ((ltZ v0.1 (lenI v0.2.1)), (v0.1, (v0.2.1, (v0.2.2.1, ())))))))))
def laws_heldIntSS (x : ((List (List Int)) × (Int × Unit))) (c : Unit) : (Option (Int × Unit)) :=
  (Option.bind (loopN (A := (Int × ((List (List Int)) × (Int × Unit)))) big laws_heldIntSS_L0 (0, (x.1, (x.2.1, ())))) fun v4 => (match v4 with | Out.norm v5 => none | Out.exit v6 => (match ((match v6 with | Sum.inl v9 => (Sum.inl (v9.2.2.2.1, ())) | Sum.inr v10 => (Empty.elim v10)) : ((Int × Unit) ⊕ Empty)) with | Sum.inl v7 => (some (v7.1, ())) | Sum.inr v8 => none) | Out.ret v11 => (some v11)))
def H_laws_heldIntSS : Hd := ⟨[.sl 26 (.sl 3 (.int .i64)), .int .i64], [], none, .p, .int .i64, .p, []⟩
def T_laws_heldIntSS : FSig := ⟨H_laws_heldIntSS.ps, H_laws_heldIntSS.cs, H_laws_heldIntSS.io, H_laws_heldIntSS.im, H_laws_heldIntSS.R, H_laws_heldIntSS.m, laws_heldIntSS⟩
theorem E_laws_heldIntSS : fnOf tys [(101, T_laws_heldIntS)] Try.f102 H_laws_heldIntSS = T_laws_heldIntSS := by kernel_rfl
theorem K_laws_heldIntSS : SigOk Try.prog 102 T_laws_heldIntSS := (congrArg (SigOk Try.prog 102) E_laws_heldIntSS).mp (fnOf_ok rfl tysOk ⟨K_laws_heldIntS, trivial⟩ Try.func102 (by decide) rfl (fun _ h => by cases h))
def spec_NewConsole (x : Unit) (c : Unit) : (Option (((Int × ((List ((List UInt8) × (Int × ((List (Int × ((List Int) × ((List Int) × Unit)))) × Unit)))) × ((List (Int × (Int × (Bool × (Int × Unit))))) × ((List ((List (Int × (Int × Unit))) × ((List (List Int)) × Unit))) × ((List Int) × Unit))))) × ((Int × (((List Int) × ((List Int) × Unit)) × (Int × (Int × ((List (Int × ((Int × (Int × (Int × (Int × Unit)))) × ((List (Int × (Int × (Int × Unit)))) × Unit)))) × (Int × Unit)))))) × (Int × Unit))) × Unit)) :=
  (some (((20, ([], ([], ([], ([], ()))))), ((0, (([], ([], ())), (0, (0, ([], (0, ())))))), (20, ()))), ()))
def H_spec_NewConsole : Hd := ⟨[], [], none, .p, .st [.st [.int .i64, .sl 35 (.st [.str, .int .i64, .sl 37 (.st [.int .i64, .sl 3 (.int .i64), .sl 3 (.int .i64)])]), .sl 115 (.st [.int .i64, .int .i64, .bool, .int .i64]), .sl 44 (.st [.sl 176 (.st [.int .i64, .int .i64]), .sl 26 (.sl 3 (.int .i64))]), .sl 3 (.int .i64)], .st [.int .i64, .st [.sl 3 (.int .i64), .sl 3 (.int .i64)], .int .i64, .int .i64, .sl 128 (.st [.int .i64, .st [.int .i64, .int .i64, .int .i64, .int .i64], .sl 69 (.st [.int .i64, .int .i64, .int .i64])]), .int .i64], .int .i64], (Ty.all (.st [.st [.int .i64, .sl 35 (.st [.str, .int .i64, .sl 37 (.st [.int .i64, .sl 3 (.int .i64), .sl 3 (.int .i64)])]), .sl 115 (.st [.int .i64, .int .i64, .bool, .int .i64]), .sl 44 (.st [.sl 176 (.st [.int .i64, .int .i64]), .sl 26 (.sl 3 (.int .i64))]), .sl 3 (.int .i64)], .st [.int .i64, .st [.sl 3 (.int .i64), .sl 3 (.int .i64)], .int .i64, .int .i64, .sl 128 (.st [.int .i64, .st [.int .i64, .int .i64, .int .i64, .int .i64], .sl 69 (.st [.int .i64, .int .i64, .int .i64])]), .int .i64], .int .i64])), []⟩
def T_spec_NewConsole : FSig := ⟨H_spec_NewConsole.ps, H_spec_NewConsole.cs, H_spec_NewConsole.io, H_spec_NewConsole.im, H_spec_NewConsole.R, H_spec_NewConsole.m, spec_NewConsole⟩
theorem E_spec_NewConsole : fnOf tys [] Try.f40 H_spec_NewConsole = T_spec_NewConsole := by kernel_rfl
theorem K_spec_NewConsole : SigOk Try.prog 40 T_spec_NewConsole := (congrArg (SigOk Try.prog 40) E_spec_NewConsole).mp (fnOf_ok rfl tysOk trivial Try.func40 (by decide) rfl (fun _ h => by cases h))
def impl_NewConsole (x : Unit) (c : Unit) : (Option (((Int × ((List ((List UInt8) × (Int × ((List (Int × ((List Int) × ((List Int) × Unit)))) × Unit)))) × ((List (Int × (Int × (Bool × (Int × Unit))))) × ((List ((List (Int × (Int × Unit))) × ((List (List Int)) × Unit))) × ((List Int) × Unit))))) × ((Int × (((List Int) × ((List Int) × Unit)) × (Int × (Int × ((List (Int × ((Int × (Int × (Int × (Int × Unit)))) × ((List (Int × (Int × (Int × Unit)))) × Unit)))) × (Int × Unit)))))) × (Int × Unit))) × Unit)) :=
  (some (((20, ([], ([], ([], ([], ()))))), ((0, (([], ([], ())), (0, (0, ([], (0, ())))))), (20, ()))), ()))
def H_impl_NewConsole : Hd := ⟨[], [], none, .p, .st [.st [.int .i64, .sl 35 (.st [.str, .int .i64, .sl 37 (.st [.int .i64, .sl 3 (.int .i64), .sl 3 (.int .i64)])]), .sl 115 (.st [.int .i64, .int .i64, .bool, .int .i64]), .sl 44 (.st [.sl 176 (.st [.int .i64, .int .i64]), .sl 26 (.sl 3 (.int .i64))]), .sl 3 (.int .i64)], .st [.int .i64, .st [.sl 3 (.int .i64), .sl 3 (.int .i64)], .int .i64, .int .i64, .sl 128 (.st [.int .i64, .st [.int .i64, .int .i64, .int .i64, .int .i64], .sl 69 (.st [.int .i64, .int .i64, .int .i64])]), .int .i64], .int .i64], (Ty.all (.st [.st [.int .i64, .sl 35 (.st [.str, .int .i64, .sl 37 (.st [.int .i64, .sl 3 (.int .i64), .sl 3 (.int .i64)])]), .sl 115 (.st [.int .i64, .int .i64, .bool, .int .i64]), .sl 44 (.st [.sl 176 (.st [.int .i64, .int .i64]), .sl 26 (.sl 3 (.int .i64))]), .sl 3 (.int .i64)], .st [.int .i64, .st [.sl 3 (.int .i64), .sl 3 (.int .i64)], .int .i64, .int .i64, .sl 128 (.st [.int .i64, .st [.int .i64, .int .i64, .int .i64, .int .i64], .sl 69 (.st [.int .i64, .int .i64, .int .i64])]), .int .i64], .int .i64])), []⟩
def T_impl_NewConsole : FSig := ⟨H_impl_NewConsole.ps, H_impl_NewConsole.cs, H_impl_NewConsole.io, H_impl_NewConsole.im, H_impl_NewConsole.R, H_impl_NewConsole.m, impl_NewConsole⟩
theorem E_impl_NewConsole : fnOf tys [] Try.f41 H_impl_NewConsole = T_impl_NewConsole := by kernel_rfl
theorem K_impl_NewConsole : SigOk Try.prog 41 T_impl_NewConsole := (congrArg (SigOk Try.prog 41) E_impl_NewConsole).mp (fnOf_ok rfl tysOk trivial Try.func41 (by decide) rfl (fun _ h => by cases h))
def laws_eqMode (x : ((Int × ((List Int) × ((List Int) × Unit))) × ((Int × ((List Int) × ((List Int) × Unit))) × Unit))) (c : Unit) : (Option (Bool × Unit)) :=
  (if (notB (eqZ x.1.1 x.2.1.1)) = true then (some (false, ())) else (Option.bind ((Option.bind (laws_eqIntS (x.1.2.1, (x.2.1.2.1, ())) ()) fun v0 => (some v0.1)) : (Option Bool)) fun v1 => (if (notB v1) = true then (some (false, ())) else (Option.bind ((Option.bind (laws_eqIntS (x.1.2.2.1, (x.2.1.2.2.1, ())) ()) fun v2 => (some v2.1)) : (Option Bool)) fun v3 => (if (notB v3) = true then (some (false, ())) else (some (true, ())))))))
def H_laws_eqMode : Hd := ⟨[.st [.int .i64, .sl 3 (.int .i64), .sl 3 (.int .i64)], .st [.int .i64, .sl 3 (.int .i64), .sl 3 (.int .i64)]], [], none, .p, .bool, .p, []⟩
def T_laws_eqMode : FSig := ⟨H_laws_eqMode.ps, H_laws_eqMode.cs, H_laws_eqMode.io, H_laws_eqMode.im, H_laws_eqMode.R, H_laws_eqMode.m, laws_eqMode⟩
theorem E_laws_eqMode : fnOf tys [(97, T_laws_eqIntS)] Try.f215 H_laws_eqMode = T_laws_eqMode := by kernel_rfl
theorem K_laws_eqMode : SigOk Try.prog 215 T_laws_eqMode := (congrArg (SigOk Try.prog 215) E_laws_eqMode).mp (fnOf_ok rfl tysOk ⟨K_laws_eqIntS, trivial⟩ Try.func215 (by decide) rfl (fun _ h => by cases h))
def laws_eqModeS_L0 : (Int × ((List (Int × ((List Int) × ((List Int) × Unit)))) × ((List (Int × ((List Int) × ((List Int) × Unit)))) × Unit))) → Option (Out (Int × ((List (Int × ((List Int) × ((List Int) × Unit)))) × ((List (Int × ((List Int) × ((List Int) × Unit)))) × Unit))) ((Bool × (Int × ((List (Int × ((List Int) × ((List Int) × Unit)))) × ((List (Int × ((List Int) × ((List Int) × Unit)))) × Unit)))) ⊕ Empty) (Bool × Unit)) :=
  (fun v0 => (if (ltZ v0.1 (lenI v0.2.1)) = true then (Option.bind (getI v0.2.1 v0.1) fun v1 => (Option.bind (getI v0.2.2.1 v0.1) fun v2 => (Option.bind ((Option.bind (laws_eqMode (v1, (v2, ())) ()) fun v3 => (some v3.1)) : (Option Bool)) fun v4 => (if (notB v4) = true then (some (Out.ret (false, ()))) else (some (Out.norm ((addZ .i64 v0.1 1), (v0.2.1, (v0.2.2.1, ()))))))))) else (some (Out.exit (Sum.inl ((ltZ v0.1 (lenI v0.2.1)), (v0.1, (v0.2.1, (v0.2.2.1, ())))))))))
def laws_eqModeS (x : ((List (Int × ((List Int) × ((List Int) × Unit)))) × ((List (Int × ((List Int) × ((List Int) × Unit)))) × Unit))) (c : Unit) : (Option (Bool × Unit)) :=
  (if (notB (eqZ (lenI x.1) (lenI x.2.1))) = true then (some (false, ())) else (Option.bind (loopN (A := (Int × ((List (Int × ((List Int) × ((List Int) × Unit)))) × ((List (Int × ((List Int) × ((List Int) × Unit)))) × Unit)))) big laws_eqModeS_L0 (0, (x.1, (x.2.1, ())))) fun v5 => (match v5 with | Out.norm v6 => none | Out.exit v7 => (match ((match v7 with | Sum.inl v10 => (Sum.inl ()) | Sum.inr v11 => (Empty.elim v11)) : (Unit ⊕ Empty)) with | Sum.inl v8 => (some (true, ())) | Sum.inr v9 => none) | Out.ret v12 => (some v12))))
def H_laws_eqModeS : Hd := ⟨[.sl 37 (.st [.int .i64, .sl 3 (.int .i64), .sl 3 (.int .i64)]), .sl 37 (.st [.int .i64, .sl 3 (.int .i64), .sl 3 (.int .i64)])], [], none, .p, .bool, .p, []⟩
def T_laws_eqModeS : FSig := ⟨H_laws_eqModeS.ps, H_laws_eqModeS.cs, H_laws_eqModeS.io, H_laws_eqModeS.im, H_laws_eqModeS.R, H_laws_eqModeS.m, laws_eqModeS⟩
theorem E_laws_eqModeS : fnOf tys [(215, T_laws_eqMode)] Try.f207 H_laws_eqModeS = T_laws_eqModeS := by kernel_rfl
theorem K_laws_eqModeS : SigOk Try.prog 207 T_laws_eqModeS := (congrArg (SigOk Try.prog 207) E_laws_eqModeS).mp (fnOf_ok rfl tysOk ⟨K_laws_eqMode, trivial⟩ Try.func207 (by decide) rfl (fun _ h => by cases h))
def laws_eqActivity (x : (((List UInt8) × (Int × ((List (Int × ((List Int) × ((List Int) × Unit)))) × Unit))) × (((List UInt8) × (Int × ((List (Int × ((List Int) × ((List Int) × Unit)))) × Unit))) × Unit))) (c : Unit) : (Option (Bool × Unit)) :=
  (if (notB (eqS x.1.1 x.2.1.1)) = true then (some (false, ())) else (if (notB (eqZ x.1.2.1 x.2.1.2.1)) = true then (some (false, ())) else (Option.bind ((Option.bind (laws_eqModeS (x.1.2.2.1, (x.2.1.2.2.1, ())) ()) fun v0 => (some v0.1)) : (Option Bool)) fun v1 => (if (notB v1) = true then (some (false, ())) else (some (true, ()))))))
def H_laws_eqActivity : Hd := ⟨[.st [.str, .int .i64, .sl 37 (.st [.int .i64, .sl 3 (.int .i64), .sl 3 (.int .i64)])], .st [.str, .int .i64, .sl 37 (.st [.int .i64, .sl 3 (.int .i64), .sl 3 (.int .i64)])]], [], none, .p, .bool, .p, []⟩
def T_laws_eqActivity : FSig := ⟨H_laws_eqActivity.ps, H_laws_eqActivity.cs, H_laws_eqActivity.io, H_laws_eqActivity.im, H_laws_eqActivity.R, H_laws_eqActivity.m, laws_eqActivity⟩
theorem E_laws_eqActivity : fnOf tys [(207, T_laws_eqModeS)] Try.f176 H_laws_eqActivity = T_laws_eqActivity := by kernel_rfl
theorem K_laws_eqActivity : SigOk Try.prog 176 T_laws_eqActivity := (congrArg (SigOk Try.prog 176) E_laws_eqActivity).mp (fnOf_ok rfl tysOk ⟨K_laws_eqModeS, trivial⟩ Try.func176 (by decide) rfl (fun _ h => by cases h))
def laws_eqActivityS_L0 : (Int × ((List ((List UInt8) × (Int × ((List (Int × ((List Int) × ((List Int) × Unit)))) × Unit)))) × ((List ((List UInt8) × (Int × ((List (Int × ((List Int) × ((List Int) × Unit)))) × Unit)))) × Unit))) → Option (Out (Int × ((List ((List UInt8) × (Int × ((List (Int × ((List Int) × ((List Int) × Unit)))) × Unit)))) × ((List ((List UInt8) × (Int × ((List (Int × ((List Int) × ((List Int) × Unit)))) × Unit)))) × Unit))) ((Bool × (Int × ((List ((List UInt8) × (Int × ((List (Int × ((List Int) × ((List Int) × Unit)))) × Unit)))) × ((List ((List UInt8) × (Int × ((List (Int × ((List Int) × ((List Int) × Unit)))) × Unit)))) × Unit)))) ⊕ Empty) (Bool × Unit)) :=
  (fun v0 => (if (ltZ v0.1 (lenI v0.2.1)) = true then (Option.bind (getI v0.2.1 v0.1) fun v1 => (Option.bind (getI v0.2.2.1 v0.1) fun v2 => (Option.bind ((Option.bind (laws_eqActivity (v1, (v2, ())) ()) fun v3 => (some v3.1)) : (Option Bool)) fun v4 => (if (notB v4) = true then (some (Out.ret (false, ()))) else (some (Out.norm ((addZ .i64 v0.1 1), (v0.2.1, (v0.2.2.1, ()))))))))) else (some (Out.exit (Sum.inl ((ltZ v0.1 (lenI v0.2.1)), (v0.1, (v0.2.1, (v0.2.2.1, ())))))))))
def laws_eqActivityS (x : ((List ((List UInt8) × (Int × ((List (Int × ((List Int) × ((List Int) × Unit)))) × Unit)))) × ((List ((List UInt8) × (Int × ((List (Int × ((List Int) × ((List Int) × Unit)))) × Unit)))) × Unit))) (c : Unit) : (Option (Bool × Unit)) :=
  (if (notB (eqZ (lenI x.1) (lenI x.2.1))) = true then (some (false, ())) else (Option.bind (loopN (A := (Int × ((List ((List UInt8) × (Int × ((List (Int × ((List Int) × ((List Int) × Unit)))) × Unit)))) × ((List ((List UInt8) × (Int × ((List (Int × ((List Int) × ((List Int) × Unit)))) × Unit)))) × Unit)))) big laws_eqActivityS_L0 (0, (x.1, (x.2.1, ())))) fun v5 => (match v5 with | Out.norm v6 => none | Out.exit v7 => (match ((match v7 with | Sum.inl v10 => (Sum.inl ()) | Sum.inr v11 => (Empty.elim v11)) : (Unit ⊕ Empty)) with | Sum.inl v8 => (some (true, ())) | Sum.inr v9 => none) | Out.ret v12 => (some v12))))
def H_laws_eqActivityS : Hd := ⟨[.sl 35 (.st [.str, .int .i64, .sl 37 (.st [.int .i64, .sl 3 (.int .i64), .sl 3 (.int .i64)])]), .sl 35 (.st [.str, .int .i64, .sl 37 (.st [.int .i64, .sl 3 (.int .i64), .sl 3 (.int .i64)])])], [], none, .p, .bool, .p, []⟩
def T_laws_eqActivityS : FSig := ⟨H_laws_eqActivityS.ps, H_laws_eqActivityS.cs, H_laws_eqActivityS.io, H_laws_eqActivityS.im, H_laws_eqActivityS.R, H_laws_eqActivityS.m, laws_eqActivityS⟩
theorem E_laws_eqActivityS : fnOf tys [(176, T_laws_eqActivity)] Try.f124 H_laws_eqActivityS = T_laws_eqActivityS := by kernel_rfl
theorem K_laws_eqActivityS : SigOk Try.prog 124 T_laws_eqActivityS := (congrArg (SigOk Try.prog 124) E_laws_eqActivityS).mp (fnOf_ok rfl tysOk ⟨K_laws_eqActivity, trivial⟩ Try.func124 (by decide) rfl (fun _ h => by cases h))
def laws_eqLink (x : ((Int × (Int × (Bool × (Int × Unit)))) × ((Int × (Int × (Bool × (Int × Unit)))) × Unit))) (c : Unit) : (Option (Bool × Unit)) :=
  (if (notB (eqZ x.1.1 x.2.1.1)) = true then (some (false, ())) else (if (notB (eqZ x.1.2.1 x.2.1.2.1)) = true then (some (false, ())) else (if (notB (eqB x.1.2.2.1 x.2.1.2.2.1)) = true then (some (false, ())) else (if (notB (eqZ x.1.2.2.2.1 x.2.1.2.2.2.1)) = true then (some (false, ())) else (some (true, ()))))))
def H_laws_eqLink : Hd := ⟨[.st [.int .i64, .int .i64, .bool, .int .i64], .st [.int .i64, .int .i64, .bool, .int .i64]], [], none, .p, .bool, .p, []⟩
def T_laws_eqLink : FSig := ⟨H_laws_eqLink.ps, H_laws_eqLink.cs, H_laws_eqLink.io, H_laws_eqLink.im, H_laws_eqLink.R, H_laws_eqLink.m, laws_eqLink⟩
theorem E_laws_eqLink : fnOf tys [] Try.f177 H_laws_eqLink = T_laws_eqLink := by kernel_rfl
theorem K_laws_eqLink : SigOk Try.prog 177 T_laws_eqLink := (congrArg (SigOk Try.prog 177) E_laws_eqLink).mp (fnOf_ok rfl tysOk trivial Try.func177 (by decide) rfl (fun _ h => by cases h))
def laws_eqLinkS_L0 : (Int × ((List (Int × (Int × (Bool × (Int × Unit))))) × ((List (Int × (Int × (Bool × (Int × Unit))))) × Unit))) → Option (Out (Int × ((List (Int × (Int × (Bool × (Int × Unit))))) × ((List (Int × (Int × (Bool × (Int × Unit))))) × Unit))) ((Bool × (Int × ((List (Int × (Int × (Bool × (Int × Unit))))) × ((List (Int × (Int × (Bool × (Int × Unit))))) × Unit)))) ⊕ Empty) (Bool × Unit)) :=
  (fun v0 => (if (ltZ v0.1 (lenI v0.2.1)) = true then (Option.bind (getI v0.2.1 v0.1) fun v1 => (Option.bind (getI v0.2.2.1 v0.1) fun v2 => (Option.bind ((Option.bind (laws_eqLink (v1, (v2, ())) ()) fun v3 => (some v3.1)) : (Option Bool)) fun v4 => (if (notB v4) = true then (some (Out.ret (false, ()))) else (some (Out.norm ((addZ .i64 v0.1 1), (v0.2.1, (v0.2.2.1, ()))))))))) else (some (Out.exit (Sum.inl ((ltZ v0.1 (lenI v0.2.1)), (v0.1, (v0.2.1, (v0.2.2.1, ())))))))))
def laws_eqLinkS (x : ((List (Int × (Int × (Bool × (Int × Unit))))) × ((List (Int × (Int × (Bool × (Int × Unit))))) × Unit))) (c : Unit) : (Option (Bool × Unit)) :=
  (if (notB (eqZ (lenI x.1) (lenI x.2.1))) = true then (some (false, ())) else (Option.bind (loopN (A := (Int × ((List (Int × (Int × (Bool × (Int × Unit))))) × ((List (Int × (Int × (Bool × (Int × Unit))))) × Unit)))) big laws_eqLinkS_L0 (0, (x.1, (x.2.1, ())))) fun v5 => (match v5 with | Out.norm v6 => none | Out.exit v7 => (match ((match v7 with | Sum.inl v10 => (Sum.inl ()) | Sum.inr v11 => (Empty.elim v11)) : (Unit ⊕ Empty)) with | Sum.inl v8 => (some (true, ())) | Sum.inr v9 => none) | Out.ret v12 => (some v12))))
def H_laws_eqLinkS : Hd := ⟨[.sl 115 (.st [.int .i64, .int .i64, .bool, .int .i64]), .sl 115 (.st [.int .i64, .int .i64, .bool, .int .i64])], [], none, .p, .bool, .p, []⟩
def T_laws_eqLinkS : FSig := ⟨H_laws_eqLinkS.ps, H_laws_eqLinkS.cs, H_laws_eqLinkS.io, H_laws_eqLinkS.im, H_laws_eqLinkS.R, H_laws_eqLinkS.m, laws_eqLinkS⟩
theorem E_laws_eqLinkS : fnOf tys [(177, T_laws_eqLink)] Try.f125 H_laws_eqLinkS = T_laws_eqLinkS := by kernel_rfl
theorem K_laws_eqLinkS : SigOk Try.prog 125 T_laws_eqLinkS := (congrArg (SigOk Try.prog 125) E_laws_eqLinkS).mp (fnOf_ok rfl tysOk ⟨K_laws_eqLink, trivial⟩ Try.func125 (by decide) rfl (fun _ h => by cases h))
def laws_eqStep (x : ((Int × (Int × Unit)) × ((Int × (Int × Unit)) × Unit))) (c : Unit) : (Option (Bool × Unit)) :=
  (if (notB (eqZ x.1.1 x.2.1.1)) = true then (some (false, ())) else (if (notB (eqZ x.1.2.1 x.2.1.2.1)) = true then (some (false, ())) else (some (true, ()))))
def H_laws_eqStep : Hd := ⟨[.st [.int .i64, .int .i64], .st [.int .i64, .int .i64]], [], none, .p, .bool, .p, []⟩
def T_laws_eqStep : FSig := ⟨H_laws_eqStep.ps, H_laws_eqStep.cs, H_laws_eqStep.io, H_laws_eqStep.im, H_laws_eqStep.R, H_laws_eqStep.m, laws_eqStep⟩
theorem E_laws_eqStep : fnOf tys [] Try.f216 H_laws_eqStep = T_laws_eqStep := by kernel_rfl
theorem K_laws_eqStep : SigOk Try.prog 216 T_laws_eqStep := (congrArg (SigOk Try.prog 216) E_laws_eqStep).mp (fnOf_ok rfl tysOk trivial Try.func216 (by decide) rfl (fun _ h => by cases h))
def laws_eqStepS_L0 : (Int × ((List (Int × (Int × Unit))) × ((List (Int × (Int × Unit))) × Unit))) → Option (Out (Int × ((List (Int × (Int × Unit))) × ((List (Int × (Int × Unit))) × Unit))) ((Bool × (Int × ((List (Int × (Int × Unit))) × ((List (Int × (Int × Unit))) × Unit)))) ⊕ Empty) (Bool × Unit)) :=
  (fun v0 => (if (ltZ v0.1 (lenI v0.2.1)) = true then (Option.bind (getI v0.2.1 v0.1) fun v1 => (Option.bind (getI v0.2.2.1 v0.1) fun v2 => (Option.bind ((Option.bind (laws_eqStep (v1, (v2, ())) ()) fun v3 => (some v3.1)) : (Option Bool)) fun v4 => (if (notB v4) = true then (some (Out.ret (false, ()))) else (some (Out.norm ((addZ .i64 v0.1 1), (v0.2.1, (v0.2.2.1, ()))))))))) else (some (Out.exit (Sum.inl ((ltZ v0.1 (lenI v0.2.1)), (v0.1, (v0.2.1, (v0.2.2.1, ())))))))))
def laws_eqStepS (x : ((List (Int × (Int × Unit))) × ((List (Int × (Int × Unit))) × Unit))) (c : Unit) : (Option (Bool × Unit)) :=
  (if (notB (eqZ (lenI x.1) (lenI x.2.1))) = true then (some (false, ())) else (Option.bind (loopN (A := (Int × ((List (Int × (Int × Unit))) × ((List (Int × (Int × Unit))) × Unit)))) big laws_eqStepS_L0 (0, (x.1, (x.2.1, ())))) fun v5 => (match v5 with | Out.norm v6 => none | Out.exit v7 => (match ((match v7 with | Sum.inl v10 => (Sum.inl ()) | Sum.inr v11 => (Empty.elim v11)) : (Unit ⊕ Empty)) with | Sum.inl v8 => (some (true, ())) | Sum.inr v9 => none) | Out.ret v12 => (some v12))))
def H_laws_eqStepS : Hd := ⟨[.sl 176 (.st [.int .i64, .int .i64]), .sl 176 (.st [.int .i64, .int .i64])], [], none, .p, .bool, .p, []⟩
def T_laws_eqStepS : FSig := ⟨H_laws_eqStepS.ps, H_laws_eqStepS.cs, H_laws_eqStepS.io, H_laws_eqStepS.im, H_laws_eqStepS.R, H_laws_eqStepS.m, laws_eqStepS⟩
theorem E_laws_eqStepS : fnOf tys [(216, T_laws_eqStep)] Try.f208 H_laws_eqStepS = T_laws_eqStepS := by kernel_rfl
theorem K_laws_eqStepS : SigOk Try.prog 208 T_laws_eqStepS := (congrArg (SigOk Try.prog 208) E_laws_eqStepS).mp (fnOf_ok rfl tysOk ⟨K_laws_eqStep, trivial⟩ Try.func208 (by decide) rfl (fun _ h => by cases h))
def laws_eqResource (x : (((List (Int × (Int × Unit))) × ((List (List Int)) × Unit)) × (((List (Int × (Int × Unit))) × ((List (List Int)) × Unit)) × Unit))) (c : Unit) : (Option (Bool × Unit)) :=
  (Option.bind ((Option.bind (laws_eqStepS (x.1.1, (x.2.1.1, ())) ()) fun v0 => (some v0.1)) : (Option Bool)) fun v1 => (if (notB v1) = true then (some (false, ())) else (Option.bind ((Option.bind (laws_eqIntSS (x.1.2.1, (x.2.1.2.1, ())) ()) fun v2 => (some v2.1)) : (Option Bool)) fun v3 => (if (notB v3) = true then (some (false, ())) else (some (true, ()))))))
def H_laws_eqResource : Hd := ⟨[.st [.sl 176 (.st [.int .i64, .int .i64]), .sl 26 (.sl 3 (.int .i64))], .st [.sl 176 (.st [.int .i64, .int .i64]), .sl 26 (.sl 3 (.int .i64))]], [], none, .p, .bool, .p, []⟩
def T_laws_eqResource : FSig := ⟨H_laws_eqResource.ps, H_laws_eqResource.cs, H_laws_eqResource.io, H_laws_eqResource.im, H_laws_eqResource.R, H_laws_eqResource.m, laws_eqResource⟩
theorem E_laws_eqResource : fnOf tys [(98, T_laws_eqIntSS), (208, T_laws_eqStepS)] Try.f178 H_laws_eqResource = T_laws_eqResource := by kernel_rfl
theorem K_laws_eqResource : SigOk Try.prog 178 T_laws_eqResource := (congrArg (SigOk Try.prog 178) E_laws_eqResource).mp (fnOf_ok rfl tysOk ⟨K_laws_eqIntSS, K_laws_eqStepS, trivial⟩ Try.func178 (by decide) rfl (fun _ h => by cases h))
def laws_eqResourceS_L0 : (Int × ((List ((List (Int × (Int × Unit))) × ((List (List Int)) × Unit))) × ((List ((List (Int × (Int × Unit))) × ((List (List Int)) × Unit))) × Unit))) → Option (Out (Int × ((List ((List (Int × (Int × Unit))) × ((List (List Int)) × Unit))) × ((List ((List (Int × (Int × Unit))) × ((List (List Int)) × Unit))) × Unit))) ((Bool × (Int × ((List ((List (Int × (Int × Unit))) × ((List (List Int)) × Unit))) × ((List ((List (Int × (Int × Unit))) × ((List (List Int)) × Unit))) × Unit)))) ⊕ Empty) (Bool × Unit)) :=
  (fun v0 => (if (ltZ v0.1 (lenI v0.2.1)) = true then (Option.bind (getI v0.2.1 v0.1) fun v1 => (Option.bind (getI v0.2.2.1 v0.1) fun v2 => (Option.bind ((Option.bind (laws_eqResource (v1, (v2, ())) ()) fun v3 => (some v3.1)) : (Option Bool)) fun v4 => (if (notB v4) = true then (some (Out.ret (false, ()))) else (some (Out.norm ((addZ .i64 v0.1 1), (v0.2.1, (v0.2.2.1, ()))))))))) else (some (Out.exit (Sum.inl ((ltZ v0.1 (lenI v0.2.1)), (v0.1, (v0.2.1, (v0.2.2.1, ())))))))))
def laws_eqResourceS (x : ((List ((List (Int × (Int × Unit))) × ((List (List Int)) × Unit))) × ((List ((List (Int × (Int × Unit))) × ((List (List Int)) × Unit))) × Unit))) (c : Unit) : (Option (Bool × Unit)) :=
  (if (notB (eqZ (lenI x.1) (lenI x.2.1))) = true then (some (false, ())) else (Option.bind (loopN (A := (Int × ((List ((List (Int × (Int × Unit))) × ((List (List Int)) × Unit))) × ((List ((List (Int × (Int × Unit))) × ((List (List Int)) × Unit))) × Unit)))) big laws_eqResourceS_L0 (0, (x.1, (x.2.1, ())))) fun v5 => (match v5 with | Out.norm v6 => none | Out.exit v7 => (match ((match v7 with | Sum.inl v10 => (Sum.inl ()) | Sum.inr v11 => (Empty.elim v11)) : (Unit ⊕ Empty)) with | Sum.inl v8 => (some (true, ())) | Sum.inr v9 => none) | Out.ret v12 => (some v12))))
def H_laws_eqResourceS : Hd := ⟨[.sl 44 (.st [.sl 176 (.st [.int .i64, .int .i64]), .sl 26 (.sl 3 (.int .i64))]), .sl 44 (.st [.sl 176 (.st [.int .i64, .int .i64]), .sl 26 (.sl 3 (.int .i64))])], [], none, .p, .bool, .p, []⟩
def T_laws_eqResourceS : FSig := ⟨H_laws_eqResourceS.ps, H_laws_eqResourceS.cs, H_laws_eqResourceS.io, H_laws_eqResourceS.im, H_laws_eqResourceS.R, H_laws_eqResourceS.m, laws_eqResourceS⟩
theorem E_laws_eqResourceS : fnOf tys [(178, T_laws_eqResource)] Try.f126 H_laws_eqResourceS = T_laws_eqResourceS := by kernel_rfl
theorem K_laws_eqResourceS : SigOk Try.prog 126 T_laws_eqResourceS := (congrArg (SigOk Try.prog 126) E_laws_eqResourceS).mp (fnOf_ok rfl tysOk ⟨K_laws_eqResource, trivial⟩ Try.func126 (by decide) rfl (fun _ h => by cases h))
def laws_eqProject (x : ((Int × ((List ((List UInt8) × (Int × ((List (Int × ((List Int) × ((List Int) × Unit)))) × Unit)))) × ((List (Int × (Int × (Bool × (Int × Unit))))) × ((List ((List (Int × (Int × Unit))) × ((List (List Int)) × Unit))) × ((List Int) × Unit))))) × ((Int × ((List ((List UInt8) × (Int × ((List (Int × ((List Int) × ((List Int) × Unit)))) × Unit)))) × ((List (Int × (Int × (Bool × (Int × Unit))))) × ((List ((List (Int × (Int × Unit))) × ((List (List Int)) × Unit))) × ((List Int) × Unit))))) × Unit))) (c : Unit) : (Option (Bool × Unit)) :=
  (if (notB (eqZ x.1.1 x.2.1.1)) = true then (some (false, ())) else (Option.bind ((Option.bind (laws_eqActivityS (x.1.2.1, (x.2.1.2.1, ())) ()) fun v0 => (some v0.1)) : (Option Bool)) fun v1 => (if (notB v1) = true then (some (false, ())) else (Option.bind ((Option.bind (laws_eqLinkS (x.1.2.2.1, (x.2.1.2.2.1, ())) ()) fun v2 => (some v2.1)) : (Option Bool)) fun v3 => (if (notB v3) = true then (some (false, ())) else (Option.bind ((Option.bind (laws_eqResourceS (x.1.2.2.2.1, (x.2.1.2.2.2.1, ())) ()) fun v4 => (some v4.1)) : (Option Bool)) fun v5 => (if (notB v5) = true then (some (false, ())) else (Option.bind ((Option.bind (laws_eqIntS (x.1.2.2.2.2.1, (x.2.1.2.2.2.2.1, ())) ()) fun v6 => (some v6.1)) : (Option Bool)) fun v7 => (if (notB v7) = true then (some (false, ())) else (some (true, ())))))))))))
def H_laws_eqProject : Hd := ⟨[.st [.int .i64, .sl 35 (.st [.str, .int .i64, .sl 37 (.st [.int .i64, .sl 3 (.int .i64), .sl 3 (.int .i64)])]), .sl 115 (.st [.int .i64, .int .i64, .bool, .int .i64]), .sl 44 (.st [.sl 176 (.st [.int .i64, .int .i64]), .sl 26 (.sl 3 (.int .i64))]), .sl 3 (.int .i64)], .st [.int .i64, .sl 35 (.st [.str, .int .i64, .sl 37 (.st [.int .i64, .sl 3 (.int .i64), .sl 3 (.int .i64)])]), .sl 115 (.st [.int .i64, .int .i64, .bool, .int .i64]), .sl 44 (.st [.sl 176 (.st [.int .i64, .int .i64]), .sl 26 (.sl 3 (.int .i64))]), .sl 3 (.int .i64)]], [], none, .p, .bool, .p, []⟩
def T_laws_eqProject : FSig := ⟨H_laws_eqProject.ps, H_laws_eqProject.cs, H_laws_eqProject.io, H_laws_eqProject.im, H_laws_eqProject.R, H_laws_eqProject.m, laws_eqProject⟩
theorem E_laws_eqProject : fnOf tys [(97, T_laws_eqIntS), (124, T_laws_eqActivityS), (125, T_laws_eqLinkS), (126, T_laws_eqResourceS)] Try.f50 H_laws_eqProject = T_laws_eqProject := by kernel_rfl
theorem K_laws_eqProject : SigOk Try.prog 50 T_laws_eqProject := (congrArg (SigOk Try.prog 50) E_laws_eqProject).mp (fnOf_ok rfl tysOk ⟨K_laws_eqIntS, K_laws_eqActivityS, K_laws_eqLinkS, K_laws_eqResourceS, trivial⟩ Try.func50 (by decide) rfl (fun _ h => by cases h))
def laws_eqConsole (x : (((Int × ((List ((List UInt8) × (Int × ((List (Int × ((List Int) × ((List Int) × Unit)))) × Unit)))) × ((List (Int × (Int × (Bool × (Int × Unit))))) × ((List ((List (Int × (Int × Unit))) × ((List (List Int)) × Unit))) × ((List Int) × Unit))))) × ((Int × (((List Int) × ((List Int) × Unit)) × (Int × (Int × ((List (Int × ((Int × (Int × (Int × (Int × Unit)))) × ((List (Int × (Int × (Int × Unit)))) × Unit)))) × (Int × Unit)))))) × (Int × Unit))) × (((Int × ((List ((List UInt8) × (Int × ((List (Int × ((List Int) × ((List Int) × Unit)))) × Unit)))) × ((List (Int × (Int × (Bool × (Int × Unit))))) × ((List ((List (Int × (Int × Unit))) × ((List (List Int)) × Unit))) × ((List Int) × Unit))))) × ((Int × (((List Int) × ((List Int) × Unit)) × (Int × (Int × ((List (Int × ((Int × (Int × (Int × (Int × Unit)))) × ((List (Int × (Int × (Int × Unit)))) × Unit)))) × (Int × Unit)))))) × (Int × Unit))) × Unit))) (c : Unit) : (Option (Bool × Unit)) :=
  (Option.bind ((Option.bind (laws_eqProject (x.1.1, (x.2.1.1, ())) ()) fun v0 => (some v0.1)) : (Option Bool)) fun v1 => (if (notB v1) = true then (some (false, ())) else (Option.bind ((Option.bind (laws_eqResult (x.1.2.1, (x.2.1.2.1, ())) ()) fun v2 => (some v2.1)) : (Option Bool)) fun v3 => (if (notB v3) = true then (some (false, ())) else (if (notB (eqZ x.1.2.2.1 x.2.1.2.2.1)) = true then (some (false, ())) else (some (true, ())))))))
def H_laws_eqConsole : Hd := ⟨[.st [.st [.int .i64, .sl 35 (.st [.str, .int .i64, .sl 37 (.st [.int .i64, .sl 3 (.int .i64), .sl 3 (.int .i64)])]), .sl 115 (.st [.int .i64, .int .i64, .bool, .int .i64]), .sl 44 (.st [.sl 176 (.st [.int .i64, .int .i64]), .sl 26 (.sl 3 (.int .i64))]), .sl 3 (.int .i64)], .st [.int .i64, .st [.sl 3 (.int .i64), .sl 3 (.int .i64)], .int .i64, .int .i64, .sl 128 (.st [.int .i64, .st [.int .i64, .int .i64, .int .i64, .int .i64], .sl 69 (.st [.int .i64, .int .i64, .int .i64])]), .int .i64], .int .i64], .st [.st [.int .i64, .sl 35 (.st [.str, .int .i64, .sl 37 (.st [.int .i64, .sl 3 (.int .i64), .sl 3 (.int .i64)])]), .sl 115 (.st [.int .i64, .int .i64, .bool, .int .i64]), .sl 44 (.st [.sl 176 (.st [.int .i64, .int .i64]), .sl 26 (.sl 3 (.int .i64))]), .sl 3 (.int .i64)], .st [.int .i64, .st [.sl 3 (.int .i64), .sl 3 (.int .i64)], .int .i64, .int .i64, .sl 128 (.st [.int .i64, .st [.int .i64, .int .i64, .int .i64, .int .i64], .sl 69 (.st [.int .i64, .int .i64, .int .i64])]), .int .i64], .int .i64]], [], none, .p, .bool, .p, []⟩
def T_laws_eqConsole : FSig := ⟨H_laws_eqConsole.ps, H_laws_eqConsole.cs, H_laws_eqConsole.io, H_laws_eqConsole.im, H_laws_eqConsole.R, H_laws_eqConsole.m, laws_eqConsole⟩
theorem E_laws_eqConsole : fnOf tys [(22, T_laws_eqResult), (50, T_laws_eqProject)] Try.f42 H_laws_eqConsole = T_laws_eqConsole := by kernel_rfl
theorem K_laws_eqConsole : SigOk Try.prog 42 T_laws_eqConsole := (congrArg (SigOk Try.prog 42) E_laws_eqConsole).mp (fnOf_ok rfl tysOk ⟨K_laws_eqResult, K_laws_eqProject, trivial⟩ Try.func42 (by decide) rfl (fun _ h => by cases h))
def laws_markText_L0 : (Int × ((List UInt8) × Unit)) → Option (Out (Int × ((List UInt8) × Unit)) ((Bool × (Int × ((List UInt8) × Unit))) ⊕ Empty) ((List UInt8) × Unit)) :=
  (fun v0 => (if (ltZ 0 v0.1) = true then (Option.bind (remZ v0.1 10) fun v1 => (Option.bind (addI (ofBytes ((wrapI .u8 (addZ .i64 48 v1)) :: [])) v0.2.1) fun v2 => (Option.bind (quoZ .i64 v0.1 10) fun v3 => (some (Out.norm (v3, (v2, ()))))))) else (some (Out.exit (Sum.inl ((ltZ 0 v0.1), (v0.1, (v0.2.1, ()))))))))
def laws_markText (x : (Int × Unit)) (c : Unit) : (Option ((List UInt8) × Unit)) :=
  (if (leZ x.1 0) = true then (some ([109, 48], ())) else (Option.bind (loopN (A := (Int × ((List UInt8) × Unit))) big laws_markText_L0 (x.1, ([], ()))) fun v4 => (match v4 with | Out.norm v5 => none | Out.exit v6 => (match ((match v6 with | Sum.inl v10 => (Sum.inl (v10.2.2.1, ())) | Sum.inr v11 => (Empty.elim v11)) : (((List UInt8) × Unit) ⊕ Empty)) with | Sum.inl v7 => (Option.bind (addI [109] v7.1) fun v8 => (some (v8, ()))) | Sum.inr v9 => none) | Out.ret v12 => (some v12))))
def H_laws_markText : Hd := ⟨[.int .i64], [], none, .p, .str, .p, []⟩
def T_laws_markText : FSig := ⟨H_laws_markText.ps, H_laws_markText.cs, H_laws_markText.io, H_laws_markText.im, H_laws_markText.R, H_laws_markText.m, laws_markText⟩
theorem E_laws_markText : fnOf tys [] Try.f193 H_laws_markText = T_laws_markText := by kernel_rfl
theorem K_laws_markText : SigOk Try.prog 193 T_laws_markText := (congrArg (SigOk Try.prog 193) E_laws_markText).mp (fnOf_ok rfl tysOk trivial Try.func193 (by decide) rfl (fun _ h => by cases h))
def laws_markModeS_L0 : (Int × (Int × ((List (Int × ((List Int) × ((List Int) × Unit)))) × Unit))) → Option (Out (Int × (Int × ((List (Int × ((List Int) × ((List Int) × Unit)))) × Unit))) ((Bool × (Int × (Int × ((List (Int × ((List Int) × ((List Int) × Unit)))) × Unit)))) ⊕ Empty) (Int × (List (Int × ((List Int) × ((List Int) × Unit)))))) :=
  (fun v0 => (if (ltZ v0.1 (lenI v0.2.2.1)) = true then (Option.bind ((Option.bind (getI v0.2.2.1 v0.1) fun v1 => (some ())) : (Option Unit)) fun v2 => (Option.bind ((Option.bind ((Option.bind (getI v0.2.2.1 v0.1) fun v3 => (some v3.1)) : (Option Int)) fun v4 => (some v0.2.1)) : (Option Int)) fun v5 => (Option.bind ((Option.bind (getI (setI v0.2.2.1 v0.1 (fun v6 => (v5, v6.2))) v0.1) fun v7 => (some ())) : (Option Unit)) fun v8 => (Option.bind ((Option.bind (getI (setI v0.2.2.1 v0.1 (fun v9 => (v5, v9.2))) v0.1) fun v10 => (some v10.2.1)) : (Option (List Int))) fun v11 => (Option.bind ((Option.bind ((Option.bind ((Option.bind (getI (setI v0.2.2.1 v0.1 (fun v12 => (v5, v12.2))) v0.1) fun v13 => (some v13.2.1)) : (Option (List Int))) fun v14 => (some (v14, ((addZ .i64 v0.2.1 1), ())))) : (Option ((List Int) × (Int × Unit)))) fun v15 => (laws_markIntS v15 ())) : (Option (Int × (List Int)))) fun v16 => (Option.bind ((Option.bind (getI (setI (setI v0.2.2.1 v0.1 (fun v17 => (v5, v17.2))) v0.1 (fun v18 => (v18.1, (v16.2, v18.2.2)))) v0.1) fun v19 => (some ())) : (Option Unit)) fun v20 => (Option.bind ((Option.bind (getI (setI (setI v0.2.2.1 v0.1 (fun v21 => (v5, v21.2))) v0.1 (fun v22 => (v22.1, (v16.2, v22.2.2)))) v0.1) fun v23 => (some v23.2.2.1)) : (Option (List Int))) fun v24 => (Option.bind ((Option.bind ((Option.bind ((Option.bind (getI (setI (setI v0.2.2.1 v0.1 (fun v25 => (v5, v25.2))) v0.1 (fun v26 => (v26.1, (v16.2, v26.2.2)))) v0.1) fun v27 => (some v27.2.2.1)) : (Option (List Int))) fun v28 => (some (v28, (v16.1, ())))) : (Option ((List Int) × (Int × Unit)))) fun v29 => (laws_markIntS v29 ())) : (Option (Int × (List Int)))) fun v30 => (some (Out.norm ((addZ .i64 v0.1 1), (v30.1, ((setI (setI (setI v0.2.2.1 v0.1 (fun v31 => (v5, v31.2))) v0.1 (fun v32 => (v32.1, (v16.2, v32.2.2)))) v0.1 (fun v33 => (v33.1, (v33.2.1, (v30.2, v33.2.2.2))))), ()))))))))))))) else (some (Out.exit (Sum.inl ((ltZ v0.1 (lenI v0.2.2.1)), (v0.1, (v0.2.1, (v0.2.2.1, ())))))))))
def laws_markModeS (x : ((List (Int × ((List Int) × ((List Int) × Unit)))) × (Int × Unit))) (c : Unit) : (Option (Int × (List (Int × ((List Int) × ((List Int) × Unit)))))) :=
  (Option.bind (loopN (A := (Int × (Int × ((List (Int × ((List Int) × ((List Int) × Unit)))) × Unit)))) big laws_markModeS_L0 (0, (x.2.1, (x.1, ())))) fun v34 => (match v34 with | Out.norm v35 => none | Out.exit v36 => (match ((match v36 with | Sum.inl v39 => (Sum.inl (v39.2.2.1, (v39.2.2.2.1, ()))) | Sum.inr v40 => (Empty.elim v40)) : ((Int × ((List (Int × ((List Int) × ((List Int) × Unit)))) × Unit)) ⊕ Empty)) with | Sum.inl v37 => (some (v37.1, v37.2.1)) | Sum.inr v38 => none) | Out.ret v41 => (some v41)))
def H_laws_markModeS : Hd := ⟨[.sl 37 (.st [.int .i64, .sl 3 (.int .i64), .sl 3 (.int .i64)]), .int .i64], [], some 0, Ty.all (.sl 37 (.st [.int .i64, .sl 3 (.int .i64), .sl 3 (.int .i64)])), .int .i64, .p, []⟩
def T_laws_markModeS : FSig := ⟨H_laws_markModeS.ps, H_laws_markModeS.cs, H_laws_markModeS.io, H_laws_markModeS.im, H_laws_markModeS.R, H_laws_markModeS.m, laws_markModeS⟩
theorem E_laws_markModeS : fnOf tys [(99, T_laws_markIntS)] Try.f194 H_laws_markModeS = T_laws_markModeS := by kernel_rfl
theorem K_laws_markModeS : SigOk Try.prog 194 T_laws_markModeS := (congrArg (SigOk Try.prog 194) E_laws_markModeS).mp (fnOf_ok rfl tysOk ⟨K_laws_markIntS, trivial⟩ Try.func194 (by decide) rfl (fun _ h => by cases h; decide))
def laws_markActivityS_L0 : (Int × (Int × ((List ((List UInt8) × (Int × ((List (Int × ((List Int) × ((List Int) × Unit)))) × Unit)))) × Unit))) → Option (Out (Int × (Int × ((List ((List UInt8) × (Int × ((List (Int × ((List Int) × ((List Int) × Unit)))) × Unit)))) × Unit))) ((Bool × (Int × (Int × ((List ((List UInt8) × (Int × ((List (Int × ((List Int) × ((List Int) × Unit)))) × Unit)))) × Unit)))) ⊕ Empty) (Int × (List ((List UInt8) × (Int × ((List (Int × ((List Int) × ((List Int) × Unit)))) × Unit)))))) :=
  (fun v0 => (if (ltZ v0.1 (lenI v0.2.2.1)) = true then (Option.bind ((Option.bind (laws_markText (v0.2.1, ()) ()) fun v1 => (some v1.1)) : (Option (List UInt8))) fun v2 => (Option.bind ((Option.bind (getI v0.2.2.1 v0.1) fun v3 => (some ())) : (Option Unit)) fun v4 => (Option.bind ((Option.bind ((Option.bind (getI v0.2.2.1 v0.1) fun v5 => (some v5.1)) : (Option (List UInt8))) fun v6 => (some v2)) : (Option (List UInt8))) fun v7 => (Option.bind ((Option.bind (getI (setI v0.2.2.1 v0.1 (fun v8 => (v7, v8.2))) v0.1) fun v9 => (some ())) : (Option Unit)) fun v10 => (Option.bind ((Option.bind ((Option.bind (getI (setI v0.2.2.1 v0.1 (fun v11 => (v7, v11.2))) v0.1) fun v12 => (some v12.2.1)) : (Option Int)) fun v13 => (some (addZ .i64 v0.2.1 1))) : (Option Int)) fun v14 => (Option.bind ((Option.bind (getI (setI (setI v0.2.2.1 v0.1 (fun v15 => (v7, v15.2))) v0.1 (fun v16 => (v16.1, (v14, v16.2.2)))) v0.1) fun v17 => (some ())) : (Option Unit)) fun v18 => (Option.bind ((Option.bind (getI (setI (setI v0.2.2.1 v0.1 (fun v19 => (v7, v19.2))) v0.1 (fun v20 => (v20.1, (v14, v20.2.2)))) v0.1) fun v21 => (some v21.2.2.1)) : (Option (List (Int × ((List Int) × ((List Int) × Unit)))))) fun v22 => (Option.bind ((Option.bind ((Option.bind ((Option.bind (getI (setI (setI v0.2.2.1 v0.1 (fun v23 => (v7, v23.2))) v0.1 (fun v24 => (v24.1, (v14, v24.2.2)))) v0.1) fun v25 => (some v25.2.2.1)) : (Option (List (Int × ((List Int) × ((List Int) × Unit)))))) fun v26 => (some (v26, ((addZ .i64 (addZ .i64 v0.2.1 1) 1), ())))) : (Option ((List (Int × ((List Int) × ((List Int) × Unit)))) × (Int × Unit)))) fun v27 => (laws_markModeS v27 ())) : (Option (Int × (List (Int × ((List Int) × ((List Int) × Unit))))))) fun v28 => (some (Out.norm ((addZ .i64 v0.1 1), (v28.1, ((setI (setI (setI v0.2.2.1 v0.1 (fun v29 => (v7, v29.2))) v0.1 (fun v30 => (v30.1, (v14, v30.2.2)))) v0.1 (fun v31 => (v31.1, (v31.2.1, (v28.2, v31.2.2.2))))), ()))))))))))))) else (some (Out.exit (Sum.inl ((ltZ v0.1 (lenI v0.2.2.1)), (v0.1, (v0.2.1, (v0.2.2.1, ())))))))))
def laws_markActivityS (x : ((List ((List UInt8) × (Int × ((List (Int × ((List Int) × ((List Int) × Unit)))) × Unit)))) × (Int × Unit))) (c : Unit) : (Option (Int × (List ((List UInt8) × (Int × ((List (Int × ((List Int) × ((List Int) × Unit)))) × Unit)))))) :=
  (Option.bind (loopN (A := (Int × (Int × ((List ((List UInt8) × (Int × ((List (Int × ((List Int) × ((List Int) × Unit)))) × Unit)))) × Unit)))) big laws_markActivityS_L0 (0, (x.2.1, (x.1, ())))) fun v32 => (match v32 with | Out.norm v33 => none | Out.exit v34 => (match ((match v34 with | Sum.inl v37 => (Sum.inl (v37.2.2.1, (v37.2.2.2.1, ()))) | Sum.inr v38 => (Empty.elim v38)) : ((Int × ((List ((List UInt8) × (Int × ((List (Int × ((List Int) × ((List Int) × Unit)))) × Unit)))) × Unit)) ⊕ Empty)) with | Sum.inl v35 => (some (v35.1, v35.2.1)) | Sum.inr v36 => none) | Out.ret v39 => (some v39)))
def H_laws_markActivityS : Hd := ⟨[.sl 35 (.st [.str, .int .i64, .sl 37 (.st [.int .i64, .sl 3 (.int .i64), .sl 3 (.int .i64)])]), .int .i64], [], some 0, Ty.all (.sl 35 (.st [.str, .int .i64, .sl 37 (.st [.int .i64, .sl 3 (.int .i64), .sl 3 (.int .i64)])])), .int .i64, .p, []⟩
def T_laws_markActivityS : FSig := ⟨H_laws_markActivityS.ps, H_laws_markActivityS.cs, H_laws_markActivityS.io, H_laws_markActivityS.im, H_laws_markActivityS.R, H_laws_markActivityS.m, laws_markActivityS⟩
theorem E_laws_markActivityS : fnOf tys [(193, T_laws_markText), (194, T_laws_markModeS)] Try.f158 H_laws_markActivityS = T_laws_markActivityS := by kernel_rfl
theorem K_laws_markActivityS : SigOk Try.prog 158 T_laws_markActivityS := (congrArg (SigOk Try.prog 158) E_laws_markActivityS).mp (fnOf_ok rfl tysOk ⟨K_laws_markText, K_laws_markModeS, trivial⟩ Try.func158 (by decide) rfl (fun _ h => by cases h; decide))
def laws_markLinkS_L0 : (Int × (Int × ((List (Int × (Int × (Bool × (Int × Unit))))) × Unit))) → Option (Out (Int × (Int × ((List (Int × (Int × (Bool × (Int × Unit))))) × Unit))) ((Bool × (Int × (Int × ((List (Int × (Int × (Bool × (Int × Unit))))) × Unit)))) ⊕ Empty) (Int × (List (Int × (Int × (Bool × (Int × Unit))))))) :=
  (fun v0 => (if (ltZ v0.1 (lenI v0.2.2.1)) = true then (Option.bind ((Option.bind (getI v0.2.2.1 v0.1) fun v1 => (some ())) : (Option Unit)) fun v2 => (Option.bind ((Option.bind ((Option.bind (getI v0.2.2.1 v0.1) fun v3 => (some v3.1)) : (Option Int)) fun v4 => (some v0.2.1)) : (Option Int)) fun v5 => (Option.bind ((Option.bind (getI (setI v0.2.2.1 v0.1 (fun v6 => (v5, v6.2))) v0.1) fun v7 => (some ())) : (Option Unit)) fun v8 => (Option.bind ((Option.bind ((Option.bind (getI (setI v0.2.2.1 v0.1 (fun v9 => (v5, v9.2))) v0.1) fun v10 => (some v10.2.1)) : (Option Int)) fun v11 => (some (addZ .i64 v0.2.1 1))) : (Option Int)) fun v12 => (Option.bind (remZ (addZ .i64 (addZ .i64 v0.2.1 1) 1) 3) fun v13 => (Option.bind ((Option.bind (getI (setI (setI v0.2.2.1 v0.1 (fun v14 => (v5, v14.2))) v0.1 (fun v15 => (v15.1, (v12, v15.2.2)))) v0.1) fun v16 => (some ())) : (Option Unit)) fun v17 => (Option.bind ((Option.bind ((Option.bind (getI (setI (setI v0.2.2.1 v0.1 (fun v18 => (v5, v18.2))) v0.1 (fun v19 => (v19.1, (v12, v19.2.2)))) v0.1) fun v20 => (some v20.2.2.1)) : (Option Bool)) fun v21 => (some (eqZ v13 0))) : (Option Bool)) fun v22 => (Option.bind ((Option.bind (getI (setI (setI (setI v0.2.2.1 v0.1 (fun v23 => (v5, v23.2))) v0.1 (fun v24 => (v24.1, (v12, v24.2.2)))) v0.1 (fun v25 => (v25.1, (v25.2.1, (v22, v25.2.2.2))))) v0.1) fun v26 => (some ())) : (Option Unit)) fun v27 => (Option.bind ((Option.bind ((Option.bind (getI (setI (setI (setI v0.2.2.1 v0.1 (fun v28 => (v5, v28.2))) v0.1 (fun v29 => (v29.1, (v12, v29.2.2)))) v0.1 (fun v30 => (v30.1, (v30.2.1, (v22, v30.2.2.2))))) v0.1) fun v31 => (some v31.2.2.2.1)) : (Option Int)) fun v32 => (some (addZ .i64 (addZ .i64 (addZ .i64 v0.2.1 1) 1) 1))) : (Option Int)) fun v33 => (some (Out.norm ((addZ .i64 v0.1 1), ((addZ .i64 (addZ .i64 (addZ .i64 (addZ .i64 v0.2.1 1) 1) 1) 1), ((setI (setI (setI (setI v0.2.2.1 v0.1 (fun v34 => (v5, v34.2))) v0.1 (fun v35 => (v35.1, (v12, v35.2.2)))) v0.1 (fun v36 => (v36.1, (v36.2.1, (v22, v36.2.2.2))))) v0.1 (fun v37 => (v37.1, (v37.2.1, (v37.2.2.1, (v33, v37.2.2.2.2)))))), ())))))))))))))) else (some (Out.exit (Sum.inl ((ltZ v0.1 (lenI v0.2.2.1)), (v0.1, (v0.2.1, (v0.2.2.1, ())))))))))
def laws_markLinkS (x : ((List (Int × (Int × (Bool × (Int × Unit))))) × (Int × Unit))) (c : Unit) : (Option (Int × (List (Int × (Int × (Bool × (Int × Unit))))))) :=
  (Option.bind (loopN (A := (Int × (Int × ((List (Int × (Int × (Bool × (Int × Unit))))) × Unit)))) big laws_markLinkS_L0 (0, (x.2.1, (x.1, ())))) fun v38 => (match v38 with | Out.norm v39 => none | Out.exit v40 => (match ((match v40 with | Sum.inl v43 => (Sum.inl (v43.2.2.1, (v43.2.2.2.1, ()))) | Sum.inr v44 => (Empty.elim v44)) : ((Int × ((List (Int × (Int × (Bool × (Int × Unit))))) × Unit)) ⊕ Empty)) with | Sum.inl v41 => (some (v41.1, v41.2.1)) | Sum.inr v42 => none) | Out.ret v45 => (some v45)))
def H_laws_markLinkS : Hd := ⟨[.sl 115 (.st [.int .i64, .int .i64, .bool, .int .i64]), .int .i64], [], some 0, Ty.all (.sl 115 (.st [.int .i64, .int .i64, .bool, .int .i64])), .int .i64, .p, []⟩
def T_laws_markLinkS : FSig := ⟨H_laws_markLinkS.ps, H_laws_markLinkS.cs, H_laws_markLinkS.io, H_laws_markLinkS.im, H_laws_markLinkS.R, H_laws_markLinkS.m, laws_markLinkS⟩
theorem E_laws_markLinkS : fnOf tys [] Try.f159 H_laws_markLinkS = T_laws_markLinkS := by kernel_rfl
theorem K_laws_markLinkS : SigOk Try.prog 159 T_laws_markLinkS := (congrArg (SigOk Try.prog 159) E_laws_markLinkS).mp (fnOf_ok rfl tysOk trivial Try.func159 (by decide) rfl (fun _ h => by cases h; decide))
def laws_markStepS_L0 : (Int × (Int × ((List (Int × (Int × Unit))) × Unit))) → Option (Out (Int × (Int × ((List (Int × (Int × Unit))) × Unit))) ((Bool × (Int × (Int × ((List (Int × (Int × Unit))) × Unit)))) ⊕ Empty) (Int × (List (Int × (Int × Unit))))) :=
  (fun v0 => (if (ltZ v0.1 (lenI v0.2.2.1)) = true then (Option.bind ((Option.bind (getI v0.2.2.1 v0.1) fun v1 => (some ())) : (Option Unit)) fun v2 => (Option.bind ((Option.bind ((Option.bind (getI v0.2.2.1 v0.1) fun v3 => (some v3.1)) : (Option Int)) fun v4 => (some v0.2.1)) : (Option Int)) fun v5 => (Option.bind ((Option.bind (getI (setI v0.2.2.1 v0.1 (fun v6 => (v5, v6.2))) v0.1) fun v7 => (some ())) : (Option Unit)) fun v8 => (Option.bind ((Option.bind ((Option.bind (getI (setI v0.2.2.1 v0.1 (fun v9 => (v5, v9.2))) v0.1) fun v10 => (some v10.2.1)) : (Option Int)) fun v11 => (some (addZ .i64 v0.2.1 1))) : (Option Int)) fun v12 => (some (Out.norm ((addZ .i64 v0.1 1), ((addZ .i64 (addZ .i64 v0.2.1 1) 1), ((setI (setI v0.2.2.1 v0.1 (fun v13 => (v5, v13.2))) v0.1 (fun v14 => (v14.1, (v12, v14.2.2)))), ()))))))))) else (some (Out.exit (Sum.inl ((ltZ v0.1 (lenI v0.2.2.1)), (v0.1, (v0.2.1, (v0.2.2.1, ())))))))))
def laws_markStepS (x : ((List (Int × (Int × Unit))) × (Int × Unit))) (c : Unit) : (Option (Int × (List (Int × (Int × Unit))))) :=
  (Option.bind (loopN (A := (Int × (Int × ((List (Int × (Int × Unit))) × Unit)))) big laws_markStepS_L0 (0, (x.2.1, (x.1, ())))) fun v15 => (match v15 with | Out.norm v16 => none | Out.exit v17 => (match ((match v17 with | Sum.inl v20 => (Sum.inl (v20.2.2.1, (v20.2.2.2.1, ()))) | Sum.inr v21 => (Empty.elim v21)) : ((Int × ((List (Int × (Int × Unit))) × Unit)) ⊕ Empty)) with | Sum.inl v18 => (some (v18.1, v18.2.1)) | Sum.inr v19 => none) | Out.ret v22 => (some v22)))
def H_laws_markStepS : Hd := ⟨[.sl 176 (.st [.int .i64, .int .i64]), .int .i64], [], some 0, Ty.all (.sl 176 (.st [.int .i64, .int .i64])), .int .i64, .p, []⟩
def T_laws_markStepS : FSig := ⟨H_laws_markStepS.ps, H_laws_markStepS.cs, H_laws_markStepS.io, H_laws_markStepS.im, H_laws_markStepS.R, H_laws_markStepS.m, laws_markStepS⟩
theorem E_laws_markStepS : fnOf tys [] Try.f195 H_laws_markStepS = T_laws_markStepS := by kernel_rfl
theorem K_laws_markStepS : SigOk Try.prog 195 T_laws_markStepS := (congrArg (SigOk Try.prog 195) E_laws_markStepS).mp (fnOf_ok rfl tysOk trivial Try.func195 (by decide) rfl (fun _ h => by cases h; decide))
def laws_markResourceS_L0 : (Int × (Int × ((List ((List (Int × (Int × Unit))) × ((List (List Int)) × Unit))) × Unit))) → Option (Out (Int × (Int × ((List ((List (Int × (Int × Unit))) × ((List (List Int)) × Unit))) × Unit))) ((Bool × (Int × (Int × ((List ((List (Int × (Int × Unit))) × ((List (List Int)) × Unit))) × Unit)))) ⊕ Empty) (Int × (List ((List (Int × (Int × Unit))) × ((List (List Int)) × Unit))))) :=
  (fun v0 => (if (ltZ v0.1 (lenI v0.2.2.1)) = true then (Option.bind ((Option.bind (getI v0.2.2.1 v0.1) fun v1 => (some ())) : (Option Unit)) fun v2 => (Option.bind ((Option.bind (getI v0.2.2.1 v0.1) fun v3 => (some v3.1)) : (Option (List (Int × (Int × Unit))))) fun v4 => (Option.bind ((Option.bind ((Option.bind ((Option.bind (getI v0.2.2.1 v0.1) fun v5 => (some v5.1)) : (Option (List (Int × (Int × Unit))))) fun v6 => (some (v6, (v0.2.1, ())))) : (Option ((List (Int × (Int × Unit))) × (Int × Unit)))) fun v7 => (laws_markStepS v7 ())) : (Option (Int × (List (Int × (Int × Unit)))))) fun v8 => (Option.bind ((Option.bind (getI (setI v0.2.2.1 v0.1 (fun v9 => (v8.2, v9.2))) v0.1) fun v10 => (some ())) : (Option Unit)) fun v11 => (Option.bind ((Option.bind (getI (setI v0.2.2.1 v0.1 (fun v12 => (v8.2, v12.2))) v0.1) fun v13 => (some v13.2.1)) : (Option (List (List Int)))) fun v14 => (Option.bind ((Option.bind ((Option.bind ((Option.bind (getI (setI v0.2.2.1 v0.1 (fun v15 => (v8.2, v15.2))) v0.1) fun v16 => (some v16.2.1)) : (Option (List (List Int)))) fun v17 => (some (v17, (v8.1, ())))) : (Option ((List (List Int)) × (Int × Unit)))) fun v18 => (laws_markIntSS v18 ())) : (Option (Int × (List (List Int))))) fun v19 => (some (Out.norm ((addZ .i64 v0.1 1), (v19.1, ((setI (setI v0.2.2.1 v0.1 (fun v20 => (v8.2, v20.2))) v0.1 (fun v21 => (v21.1, (v19.2, v21.2.2)))), ()))))))))))) else (some (Out.exit (Sum.inl ((ltZ v0.1 (lenI v0.2.2.1)), (v0.1, (v0.2.1, (v0.2.2.1, ())))))))))
def laws_markResourceS (x : ((List ((List (Int × (Int × Unit))) × ((List (List Int)) × Unit))) × (Int × Unit))) (c : Unit) : (Option (Int × (List ((List (Int × (Int × Unit))) × ((List (List Int)) × Unit))))) :=
  (Option.bind (loopN (A := (Int × (Int × ((List ((List (Int × (Int × Unit))) × ((List (List Int)) × Unit))) × Unit)))) big laws_markResourceS_L0 (0, (x.2.1, (x.1, ())))) fun v22 => (match v22 with | Out.norm v23 => none | Out.exit v24 => (match ((match v24 with | Sum.inl v27 => (Sum.inl (v27.2.2.1, (v27.2.2.2.1, ()))) | Sum.inr v28 => (Empty.elim v28)) : ((Int × ((List ((List (Int × (Int × Unit))) × ((List (List Int)) × Unit))) × Unit)) ⊕ Empty)) with | Sum.inl v25 => (some (v25.1, v25.2.1)) | Sum.inr v26 => none) | Out.ret v29 => (some v29)))
def H_laws_markResourceS : Hd := ⟨[.sl 44 (.st [.sl 176 (.st [.int .i64, .int .i64]), .sl 26 (.sl 3 (.int .i64))]), .int .i64], [], some 0, Ty.all (.sl 44 (.st [.sl 176 (.st [.int .i64, .int .i64]), .sl 26 (.sl 3 (.int .i64))])), .int .i64, .p, []⟩
def T_laws_markResourceS : FSig := ⟨H_laws_markResourceS.ps, H_laws_markResourceS.cs, H_laws_markResourceS.io, H_laws_markResourceS.im, H_laws_markResourceS.R, H_laws_markResourceS.m, laws_markResourceS⟩
theorem E_laws_markResourceS : fnOf tys [(100, T_laws_markIntSS), (195, T_laws_markStepS)] Try.f160 H_laws_markResourceS = T_laws_markResourceS := by kernel_rfl
theorem K_laws_markResourceS : SigOk Try.prog 160 T_laws_markResourceS := (congrArg (SigOk Try.prog 160) E_laws_markResourceS).mp (fnOf_ok rfl tysOk ⟨K_laws_markIntSS, K_laws_markStepS, trivial⟩ Try.func160 (by decide) rfl (fun _ h => by cases h; decide))
def laws_markProject (x : ((Int × ((List ((List UInt8) × (Int × ((List (Int × ((List Int) × ((List Int) × Unit)))) × Unit)))) × ((List (Int × (Int × (Bool × (Int × Unit))))) × ((List ((List (Int × (Int × Unit))) × ((List (List Int)) × Unit))) × ((List Int) × Unit))))) × (Int × Unit))) (c : Unit) : (Option (Int × (Int × ((List ((List UInt8) × (Int × ((List (Int × ((List Int) × ((List Int) × Unit)))) × Unit)))) × ((List (Int × (Int × (Bool × (Int × Unit))))) × ((List ((List (Int × (Int × Unit))) × ((List (List Int)) × Unit))) × ((List Int) × Unit))))))) :=
  (Option.bind (laws_markActivityS (x.1.2.1, (x.2.1, ())) ()) fun v0 => (Option.bind (laws_markLinkS (x.1.2.2.1, (v0.1, ())) ()) fun v1 => (Option.bind (laws_markResourceS (x.1.2.2.2.1, (v1.1, ())) ()) fun v2 => (Option.bind (laws_markIntS (x.1.2.2.2.2.1, (v2.1, ())) ()) fun v3 => (some (v3.1, (x.1.1, (v0.2, (v1.2, (v2.2, (v3.2, x.1.2.2.2.2.2)))))))))))
def H_laws_markProject : Hd := ⟨[.st [.int .i64, .sl 35 (.st [.str, .int .i64, .sl 37 (.st [.int .i64, .sl 3 (.int .i64), .sl 3 (.int .i64)])]), .sl 115 (.st [.int .i64, .int .i64, .bool, .int .i64]), .sl 44 (.st [.sl 176 (.st [.int .i64, .int .i64]), .sl 26 (.sl 3 (.int .i64))]), .sl 3 (.int .i64)], .int .i64], [], some 0, Ty.all (.st [.int .i64, .sl 35 (.st [.str, .int .i64, .sl 37 (.st [.int .i64, .sl 3 (.int .i64), .sl 3 (.int .i64)])]), .sl 115 (.st [.int .i64, .int .i64, .bool, .int .i64]), .sl 44 (.st [.sl 176 (.st [.int .i64, .int .i64]), .sl 26 (.sl 3 (.int .i64))]), .sl 3 (.int .i64)]), .int .i64, .p, []⟩
def T_laws_markProject : FSig := ⟨H_laws_markProject.ps, H_laws_markProject.cs, H_laws_markProject.io, H_laws_markProject.im, H_laws_markProject.R, H_laws_markProject.m, laws_markProject⟩
theorem E_laws_markProject : fnOf tys [(99, T_laws_markIntS), (158, T_laws_markActivityS), (159, T_laws_markLinkS), (160, T_laws_markResourceS)] Try.f112 H_laws_markProject = T_laws_markProject := by kernel_rfl
theorem K_laws_markProject : SigOk Try.prog 112 T_laws_markProject := (congrArg (SigOk Try.prog 112) E_laws_markProject).mp (fnOf_ok rfl tysOk ⟨K_laws_markIntS, K_laws_markActivityS, K_laws_markLinkS, K_laws_markResourceS, trivial⟩ Try.func112 (by decide) rfl (fun _ h => by cases h; decide))
def laws_markSchedule (x : (((List Int) × ((List Int) × Unit)) × (Int × Unit))) (c : Unit) : (Option (Int × ((List Int) × ((List Int) × Unit)))) :=
  (Option.bind (laws_markIntS (x.1.1, (x.2.1, ())) ()) fun v0 => (Option.bind (laws_markIntS (x.1.2.1, (v0.1, ())) ()) fun v1 => (some (v1.1, (v0.2, (v1.2, x.1.2.2))))))
def H_laws_markSchedule : Hd := ⟨[.st [.sl 3 (.int .i64), .sl 3 (.int .i64)], .int .i64], [], some 0, Ty.all (.st [.sl 3 (.int .i64), .sl 3 (.int .i64)]), .int .i64, .p, []⟩
def T_laws_markSchedule : FSig := ⟨H_laws_markSchedule.ps, H_laws_markSchedule.cs, H_laws_markSchedule.io, H_laws_markSchedule.im, H_laws_markSchedule.R, H_laws_markSchedule.m, laws_markSchedule⟩
theorem E_laws_markSchedule : fnOf tys [(99, T_laws_markIntS)] Try.f161 H_laws_markSchedule = T_laws_markSchedule := by kernel_rfl
theorem K_laws_markSchedule : SigOk Try.prog 161 T_laws_markSchedule := (congrArg (SigOk Try.prog 161) E_laws_markSchedule).mp (fnOf_ok rfl tysOk ⟨K_laws_markIntS, trivial⟩ Try.func161 (by decide) rfl (fun _ h => by cases h; decide))
def laws_markLiteralS_L0 : (Int × (Int × ((List (Int × (Int × (Int × Unit)))) × Unit))) → Option (Out (Int × (Int × ((List (Int × (Int × (Int × Unit)))) × Unit))) ((Bool × (Int × (Int × ((List (Int × (Int × (Int × Unit)))) × Unit)))) ⊕ Empty) (Int × (List (Int × (Int × (Int × Unit)))))) :=
  (fun v0 => (if (ltZ v0.1 (lenI v0.2.2.1)) = true then (Option.bind ((Option.bind (getI v0.2.2.1 v0.1) fun v1 => (some ())) : (Option Unit)) fun v2 => (Option.bind ((Option.bind ((Option.bind (getI v0.2.2.1 v0.1) fun v3 => (some v3.1)) : (Option Int)) fun v4 => (some v0.2.1)) : (Option Int)) fun v5 => (Option.bind ((Option.bind (getI (setI v0.2.2.1 v0.1 (fun v6 => (v5, v6.2))) v0.1) fun v7 => (some ())) : (Option Unit)) fun v8 => (Option.bind ((Option.bind ((Option.bind (getI (setI v0.2.2.1 v0.1 (fun v9 => (v5, v9.2))) v0.1) fun v10 => (some v10.2.1)) : (Option Int)) fun v11 => (some (addZ .i64 v0.2.1 1))) : (Option Int)) fun v12 => (Option.bind ((Option.bind (getI (setI (setI v0.2.2.1 v0.1 (fun v13 => (v5, v13.2))) v0.1 (fun v14 => (v14.1, (v12, v14.2.2)))) v0.1) fun v15 => (some ())) : (Option Unit)) fun v16 => (Option.bind ((Option.bind ((Option.bind (getI (setI (setI v0.2.2.1 v0.1 (fun v17 => (v5, v17.2))) v0.1 (fun v18 => (v18.1, (v12, v18.2.2)))) v0.1) fun v19 => (some v19.2.2.1)) : (Option Int)) fun v20 => (some (addZ .i64 (addZ .i64 v0.2.1 1) 1))) : (Option Int)) fun v21 => (some (Out.norm ((addZ .i64 v0.1 1), ((addZ .i64 (addZ .i64 (addZ .i64 v0.2.1 1) 1) 1), ((setI (setI (setI v0.2.2.1 v0.1 (fun v22 => (v5, v22.2))) v0.1 (fun v23 => (v23.1, (v12, v23.2.2)))) v0.1 (fun v24 => (v24.1, (v24.2.1, (v21, v24.2.2.2))))), ()))))))))))) else (some (Out.exit (Sum.inl ((ltZ v0.1 (lenI v0.2.2.1)), (v0.1, (v0.2.1, (v0.2.2.1, ())))))))))
def laws_markLiteralS (x : ((List (Int × (Int × (Int × Unit)))) × (Int × Unit))) (c : Unit) : (Option (Int × (List (Int × (Int × (Int × Unit)))))) :=
  (Option.bind (loopN (A := (Int × (Int × ((List (Int × (Int × (Int × Unit)))) × Unit)))) big laws_markLiteralS_L0 (0, (x.2.1, (x.1, ())))) fun v25 => (match v25 with | Out.norm v26 => none | Out.exit v27 => (match ((match v27 with | Sum.inl v30 => (Sum.inl (v30.2.2.1, (v30.2.2.2.1, ()))) | Sum.inr v31 => (Empty.elim v31)) : ((Int × ((List (Int × (Int × (Int × Unit)))) × Unit)) ⊕ Empty)) with | Sum.inl v28 => (some (v28.1, v28.2.1)) | Sum.inr v29 => none) | Out.ret v32 => (some v32)))
def H_laws_markLiteralS : Hd := ⟨[.sl 69 (.st [.int .i64, .int .i64, .int .i64]), .int .i64], [], some 0, Ty.all (.sl 69 (.st [.int .i64, .int .i64, .int .i64])), .int .i64, .p, []⟩
def T_laws_markLiteralS : FSig := ⟨H_laws_markLiteralS.ps, H_laws_markLiteralS.cs, H_laws_markLiteralS.io, H_laws_markLiteralS.im, H_laws_markLiteralS.R, H_laws_markLiteralS.m, laws_markLiteralS⟩
theorem E_laws_markLiteralS : fnOf tys [] Try.f196 H_laws_markLiteralS = T_laws_markLiteralS := by kernel_rfl
theorem K_laws_markLiteralS : SigOk Try.prog 196 T_laws_markLiteralS := (congrArg (SigOk Try.prog 196) E_laws_markLiteralS).mp (fnOf_ok rfl tysOk trivial Try.func196 (by decide) rfl (fun _ h => by cases h; decide))
def laws_markLineS_L0 : (Int × (Int × ((List (Int × ((Int × (Int × (Int × (Int × Unit)))) × ((List (Int × (Int × (Int × Unit)))) × Unit)))) × Unit))) → Option (Out (Int × (Int × ((List (Int × ((Int × (Int × (Int × (Int × Unit)))) × ((List (Int × (Int × (Int × Unit)))) × Unit)))) × Unit))) ((Bool × (Int × (Int × ((List (Int × ((Int × (Int × (Int × (Int × Unit)))) × ((List (Int × (Int × (Int × Unit)))) × Unit)))) × Unit)))) ⊕ Empty) (Int × (List (Int × ((Int × (Int × (Int × (Int × Unit)))) × ((List (Int × (Int × (Int × Unit)))) × Unit)))))) :=
  (fun v0 => (if (ltZ v0.1 (lenI v0.2.2.1)) = true then (Option.bind ((Option.bind (getI v0.2.2.1 v0.1) fun v1 => (some ())) : (Option Unit)) fun v2 => (Option.bind ((Option.bind ((Option.bind (getI v0.2.2.1 v0.1) fun v3 => (some v3.1)) : (Option Int)) fun v4 => (some v0.2.1)) : (Option Int)) fun v5 => (Option.bind ((Option.bind (getI (setI v0.2.2.1 v0.1 (fun v6 => (v5, v6.2))) v0.1) fun v7 => (some ())) : (Option Unit)) fun v8 => (Option.bind ((Option.bind ((Option.bind (getI (setI v0.2.2.1 v0.1 (fun v9 => (v5, v9.2))) v0.1) fun v10 => (some v10.2.1.1)) : (Option Int)) fun v11 => (some (addZ .i64 v0.2.1 1))) : (Option Int)) fun v12 => (Option.bind ((Option.bind (getI (setI (setI v0.2.2.1 v0.1 (fun v13 => (v5, v13.2))) v0.1 (fun v14 => (v14.1, ((v12, v14.2.1.2), v14.2.2)))) v0.1) fun v15 => (some ())) : (Option Unit)) fun v16 => (Option.bind ((Option.bind ((Option.bind (getI (setI (setI v0.2.2.1 v0.1 (fun v17 => (v5, v17.2))) v0.1 (fun v18 => (v18.1, ((v12, v18.2.1.2), v18.2.2)))) v0.1) fun v19 => (some v19.2.1.2.1)) : (Option Int)) fun v20 => (some (addZ .i64 (addZ .i64 v0.2.1 1) 1))) : (Option Int)) fun v21 => (Option.bind ((Option.bind (getI (setI (setI (setI v0.2.2.1 v0.1 (fun v22 => (v5, v22.2))) v0.1 (fun v23 => (v23.1, ((v12, v23.2.1.2), v23.2.2)))) v0.1 (fun v24 => (v24.1, ((v24.2.1.1, (v21, v24.2.1.2.2)), v24.2.2)))) v0.1) fun v25 => (some ())) : (Option Unit)) fun v26 => (Option.bind ((Option.bind ((Option.bind (getI (setI (setI (setI v0.2.2.1 v0.1 (fun v27 => (v5, v27.2))) v0.1 (fun v28 => (v28.1, ((v12, v28.2.1.2), v28.2.2)))) v0.1 (fun v29 => (v29.1, ((v29.2.1.1, (v21, v29.2.1.2.2)), v29.2.2)))) v0.1) fun v30 => (some v30.2.1.2.2.1)) : (Option Int)) fun v31 => (some (addZ .i64 (addZ .i64 (addZ .i64 v0.2.1 1) 1) 1))) : (Option Int)) fun v32 => (Option.bind ((Option.bind (getI (setI (setI (setI (setI v0.2.2.1 v0.1 (fun v33 => (v5, v33.2))) v0.1 (fun v34 => (v34.1, ((v12, v34.2.1.2), v34.2.2)))) v0.1 (fun v35 => (v35.1, ((v35.2.1.1, (v21, v35.2.1.2.2)), v35.2.2)))) v0.1 (fun v36 => (v36.1, ((v36.2.1.1, (v36.2.1.2.1, (v32, v36.2.1.2.2.2))), v36.2.2)))) v0.1) fun v37 => (some ())) : (Option Unit)) fun v38 => (Option.bind ((Option.bind ((Option.bind (getI (setI (setI (setI (setI v0.2.2.1 v0.1 (fun v39 => (v5, v39.2))) v0.1 (fun v40 => (v40.1, ((v12, v40.2.1.2), v40.2.2)))) v0.1 (fun v41 => (v41.1, ((v41.2.1.1, (v21, v41.2.1.2.2)), v41.2.2)))) v0.1 (fun v42 => (v42.1, ((v42.2.1.1, (v42.2.1.2.1, (v32, v42.2.1.2.2.2))), v42.2.2)))) v0.1) fun v43 => (some v43.2.1.2.2.2.1)) : (Option Int)) fun v44 => (some (addZ .i64 (addZ .i64 (addZ .i64 (addZ .i64 v0.2.1 1) 1) 1) 1))) : (Option Int)) fun v45 => (Option.bind ((Option.bind (getI (setI (setI (setI (setI (setI v0.2.2.1 v0.1 (fun v46 => (v5, v46.2))) v0.1 (fun v47 => (v47.1, ((v12, v47.2.1.2), v47.2.2)))) v0.1 (fun v48 => (v48.1, ((v48.2.1.1, (v21, v48.2.1.2.2)), v48.2.2)))) v0.1 (fun v49 => (v49.1, ((v49.2.1.1, (v49.2.1.2.1, (v32, v49.2.1.2.2.2))), v49.2.2)))) v0.1 (fun v50 => (v50.1, ((v50.2.1.1, (v50.2.1.2.1, (v50.2.1.2.2.1, (v45, v50.2.1.2.2.2.2)))), v50.2.2)))) v0.1) fun v51 => (some ())) : (Option Unit)) fun v52 => (Option.bind ((Option.bind (getI (setI (setI (setI (setI (setI v0.2.2.1 v0.1 (fun v53 => (v5, v53.2))) v0.1 (fun v54 => (v54.1, ((v12, v54.2.1.2), v54.2.2)))) v0.1 (fun v55 => (v55.1, ((v55.2.1.1, (v21, v55.2.1.2.2)), v55.2.2)))) v0.1 (fun v56 => (v56.1, ((v56.2.1.1, (v56.2.1.2.1, (v32, v56.2.1.2.2.2))), v56.2.2)))) v0.1 (fun v57 => (v57.1, ((v57.2.1.1, (v57.2.1.2.1, (v57.2.1.2.2.1, (v45, v57.2.1.2.2.2.2)))), v57.2.2)))) v0.1) fun v58 => (some v58.2.2.1)) : (Option (List (Int × (Int × (Int × Unit)))))) fun v59 => (Option.bind ((Option.bind ((Option.bind ((Option.bind (getI (setI (setI (setI (setI (setI v0.2.2.1 v0.1 (fun v60 => (v5, v60.2))) v0.1 (fun v61 => (v61.1, ((v12, v61.2.1.2), v61.2.2)))) v0.1 (fun v62 => (v62.1, ((v62.2.1.1, (v21, v62.2.1.2.2)), v62.2.2)))) v0.1 (fun v63 => (v63.1, ((v63.2.1.1, (v63.2.1.2.1, (v32, v63.2.1.2.2.2))), v63.2.2)))) v0.1 (fun v64 => (v64.1, ((v64.2.1.1, (v64.2.1.2.1, (v64.2.1.2.2.1, (v45, v64.2.1.2.2.2.2)))), v64.2.2)))) v0.1) fun v65 => (some v65.2.2.1)) : (Option (List (Int × (Int × (Int × Unit)))))) fun v66 => (some (v66, ((addZ .i64 (addZ .i64 (addZ .i64 (addZ .i64 (addZ .i64 v0.2.1 1) 1) 1) 1) 1), ())))) : (Option ((List (Int × (Int × (Int × Unit)))) × (Int × Unit)))) fun v67 => (laws_markLiteralS v67 ())) : (Option (Int × (List (Int × (Int × (Int × Unit))))))) fun v68 => (some (Out.norm ((addZ .i64 v0.1 1), (v68.1, ((setI (setI (setI (setI (setI (setI v0.2.2.1 v0.1 (fun v69 => (v5, v69.2))) v0.1 (fun v70 => (v70.1, ((v12, v70.2.1.2), v70.2.2)))) v0.1 (fun v71 => (v71.1, ((v71.2.1.1, (v21, v71.2.1.2.2)), v71.2.2)))) v0.1 (fun v72 => (v72.1, ((v72.2.1.1, (v72.2.1.2.1, (v32, v72.2.1.2.2.2))), v72.2.2)))) v0.1 (fun v73 => (v73.1, ((v73.2.1.1, (v73.2.1.2.1, (v73.2.1.2.2.1, (v45, v73.2.1.2.2.2.2)))), v73.2.2)))) v0.1 (fun v74 => (v74.1, (v74.2.1, (v68.2, v74.2.2.2))))), ())))))))))))))))))) else (some (Out.exit (Sum.inl ((ltZ v0.1 (lenI v0.2.2.1)), (v0.1, (v0.2.1, (v0.2.2.1, ())))))))))
def laws_markLineS (x : ((List (Int × ((Int × (Int × (Int × (Int × Unit)))) × ((List (Int × (Int × (Int × Unit)))) × Unit)))) × (Int × Unit))) (c : Unit) : (Option (Int × (List (Int × ((Int × (Int × (Int × (Int × Unit)))) × ((List (Int × (Int × (Int × Unit)))) × Unit)))))) :=
  (Option.bind (loopN (A := (Int × (Int × ((List (Int × ((Int × (Int × (Int × (Int × Unit)))) × ((List (Int × (Int × (Int × Unit)))) × Unit)))) × Unit)))) big laws_markLineS_L0 (0, (x.2.1, (x.1, ())))) fun v75 => (match v75 with | Out.norm v76 => none | Out.exit v77 => (match ((match v77 with | Sum.inl v80 => (Sum.inl (v80.2.2.1, (v80.2.2.2.1, ()))) | Sum.inr v81 => (Empty.elim v81)) : ((Int × ((List (Int × ((Int × (Int × (Int × (Int × Unit)))) × ((List (Int × (Int × (Int × Unit)))) × Unit)))) × Unit)) ⊕ Empty)) with | Sum.inl v78 => (some (v78.1, v78.2.1)) | Sum.inr v79 => none) | Out.ret v82 => (some v82)))
def H_laws_markLineS : Hd := ⟨[.sl 128 (.st [.int .i64, .st [.int .i64, .int .i64, .int .i64, .int .i64], .sl 69 (.st [.int .i64, .int .i64, .int .i64])]), .int .i64], [], some 0, Ty.all (.sl 128 (.st [.int .i64, .st [.int .i64, .int .i64, .int .i64, .int .i64], .sl 69 (.st [.int .i64, .int .i64, .int .i64])])), .int .i64, .p, []⟩
def T_laws_markLineS : FSig := ⟨H_laws_markLineS.ps, H_laws_markLineS.cs, H_laws_markLineS.io, H_laws_markLineS.im, H_laws_markLineS.R, H_laws_markLineS.m, laws_markLineS⟩
theorem E_laws_markLineS : fnOf tys [(196, T_laws_markLiteralS)] Try.f162 H_laws_markLineS = T_laws_markLineS := by kernel_rfl
theorem K_laws_markLineS : SigOk Try.prog 162 T_laws_markLineS := (congrArg (SigOk Try.prog 162) E_laws_markLineS).mp (fnOf_ok rfl tysOk ⟨K_laws_markLiteralS, trivial⟩ Try.func162 (by decide) rfl (fun _ h => by cases h; decide))
def laws_markResult (x : ((Int × (((List Int) × ((List Int) × Unit)) × (Int × (Int × ((List (Int × ((Int × (Int × (Int × (Int × Unit)))) × ((List (Int × (Int × (Int × Unit)))) × Unit)))) × (Int × Unit)))))) × (Int × Unit))) (c : Unit) : (Option (Int × (Int × (((List Int) × ((List Int) × Unit)) × (Int × (Int × ((List (Int × ((Int × (Int × (Int × (Int × Unit)))) × ((List (Int × (Int × (Int × Unit)))) × Unit)))) × (Int × Unit)))))))) :=
  (Option.bind (laws_markSchedule (x.1.2.1, (x.2.1, ())) ()) fun v0 => (Option.bind (laws_markLineS (x.1.2.2.2.2.1, (v0.1, ())) ()) fun v1 => (some (v1.1, (x.1.1, (v0.2, (x.1.2.2.1, (x.1.2.2.2.1, (v1.2, x.1.2.2.2.2.2)))))))))
def H_laws_markResult : Hd := ⟨[.st [.int .i64, .st [.sl 3 (.int .i64), .sl 3 (.int .i64)], .int .i64, .int .i64, .sl 128 (.st [.int .i64, .st [.int .i64, .int .i64, .int .i64, .int .i64], .sl 69 (.st [.int .i64, .int .i64, .int .i64])]), .int .i64], .int .i64], [], some 0, Ty.all (.st [.int .i64, .st [.sl 3 (.int .i64), .sl 3 (.int .i64)], .int .i64, .int .i64, .sl 128 (.st [.int .i64, .st [.int .i64, .int .i64, .int .i64, .int .i64], .sl 69 (.st [.int .i64, .int .i64, .int .i64])]), .int .i64]), .int .i64, .p, []⟩
def T_laws_markResult : FSig := ⟨H_laws_markResult.ps, H_laws_markResult.cs, H_laws_markResult.io, H_laws_markResult.im, H_laws_markResult.R, H_laws_markResult.m, laws_markResult⟩
theorem E_laws_markResult : fnOf tys [(161, T_laws_markSchedule), (162, T_laws_markLineS)] Try.f113 H_laws_markResult = T_laws_markResult := by kernel_rfl
theorem K_laws_markResult : SigOk Try.prog 113 T_laws_markResult := (congrArg (SigOk Try.prog 113) E_laws_markResult).mp (fnOf_ok rfl tysOk ⟨K_laws_markSchedule, K_laws_markLineS, trivial⟩ Try.func113 (by decide) rfl (fun _ h => by cases h; decide))
def laws_markConsole (x : (((Int × ((List ((List UInt8) × (Int × ((List (Int × ((List Int) × ((List Int) × Unit)))) × Unit)))) × ((List (Int × (Int × (Bool × (Int × Unit))))) × ((List ((List (Int × (Int × Unit))) × ((List (List Int)) × Unit))) × ((List Int) × Unit))))) × ((Int × (((List Int) × ((List Int) × Unit)) × (Int × (Int × ((List (Int × ((Int × (Int × (Int × (Int × Unit)))) × ((List (Int × (Int × (Int × Unit)))) × Unit)))) × (Int × Unit)))))) × (Int × Unit))) × (Int × Unit))) (c : Unit) : (Option (Int × ((Int × ((List ((List UInt8) × (Int × ((List (Int × ((List Int) × ((List Int) × Unit)))) × Unit)))) × ((List (Int × (Int × (Bool × (Int × Unit))))) × ((List ((List (Int × (Int × Unit))) × ((List (List Int)) × Unit))) × ((List Int) × Unit))))) × ((Int × (((List Int) × ((List Int) × Unit)) × (Int × (Int × ((List (Int × ((Int × (Int × (Int × (Int × Unit)))) × ((List (Int × (Int × (Int × Unit)))) × Unit)))) × (Int × Unit)))))) × (Int × Unit))))) :=
  (Option.bind (laws_markProject (x.1.1, (x.2.1, ())) ()) fun v0 => (Option.bind (laws_markResult (x.1.2.1, (v0.1, ())) ()) fun v1 => (some (v1.1, (v0.2, (v1.2, x.1.2.2))))))
def H_laws_markConsole : Hd := ⟨[.st [.st [.int .i64, .sl 35 (.st [.str, .int .i64, .sl 37 (.st [.int .i64, .sl 3 (.int .i64), .sl 3 (.int .i64)])]), .sl 115 (.st [.int .i64, .int .i64, .bool, .int .i64]), .sl 44 (.st [.sl 176 (.st [.int .i64, .int .i64]), .sl 26 (.sl 3 (.int .i64))]), .sl 3 (.int .i64)], .st [.int .i64, .st [.sl 3 (.int .i64), .sl 3 (.int .i64)], .int .i64, .int .i64, .sl 128 (.st [.int .i64, .st [.int .i64, .int .i64, .int .i64, .int .i64], .sl 69 (.st [.int .i64, .int .i64, .int .i64])]), .int .i64], .int .i64], .int .i64], [], some 0, Ty.all (.st [.st [.int .i64, .sl 35 (.st [.str, .int .i64, .sl 37 (.st [.int .i64, .sl 3 (.int .i64), .sl 3 (.int .i64)])]), .sl 115 (.st [.int .i64, .int .i64, .bool, .int .i64]), .sl 44 (.st [.sl 176 (.st [.int .i64, .int .i64]), .sl 26 (.sl 3 (.int .i64))]), .sl 3 (.int .i64)], .st [.int .i64, .st [.sl 3 (.int .i64), .sl 3 (.int .i64)], .int .i64, .int .i64, .sl 128 (.st [.int .i64, .st [.int .i64, .int .i64, .int .i64, .int .i64], .sl 69 (.st [.int .i64, .int .i64, .int .i64])]), .int .i64], .int .i64]), .int .i64, .p, []⟩
def T_laws_markConsole : FSig := ⟨H_laws_markConsole.ps, H_laws_markConsole.cs, H_laws_markConsole.io, H_laws_markConsole.im, H_laws_markConsole.R, H_laws_markConsole.m, laws_markConsole⟩
theorem E_laws_markConsole : fnOf tys [(112, T_laws_markProject), (113, T_laws_markResult)] Try.f43 H_laws_markConsole = T_laws_markConsole := by kernel_rfl
theorem K_laws_markConsole : SigOk Try.prog 43 T_laws_markConsole := (congrArg (SigOk Try.prog 43) E_laws_markConsole).mp (fnOf_ok rfl tysOk ⟨K_laws_markProject, K_laws_markResult, trivial⟩ Try.func43 (by decide) rfl (fun _ h => by cases h; decide))
def laws_heldModeS_L0 : (Int × ((List (Int × ((List Int) × ((List Int) × Unit)))) × (Int × Unit))) → Option (Out (Int × ((List (Int × ((List Int) × ((List Int) × Unit)))) × (Int × Unit))) ((Bool × (Int × ((List (Int × ((List Int) × ((List Int) × Unit)))) × (Int × Unit)))) ⊕ Empty) (Int × Unit)) :=
  (fun v0 => (if (ltZ v0.1 (lenI v0.2.1)) = true then (Option.bind (getI v0.2.1 v0.1) fun v1 => (if (notB (eqZ v1.1 v0.2.2.1)) = true then (some (Out.ret ((-1), ()))) else (Option.bind (getI v0.2.1 v0.1) fun v2 => (Option.bind ((Option.bind (laws_heldIntS (v2.2.1, ((addZ .i64 v0.2.2.1 1), ())) ()) fun v3 => (some v3.1)) : (Option Int)) fun v4 => (if (ltZ v4 0) = true then (some (Out.ret ((-1), ()))) else (Option.bind (getI v0.2.1 v0.1) fun v5 => (Option.bind ((Option.bind (laws_heldIntS (v5.2.2.1, (v4, ())) ()) fun v6 => (some v6.1)) : (Option Int)) fun v7 => (if (ltZ v7 0) = true then (some (Out.ret ((-1), ()))) else (some (Out.norm ((addZ .i64 v0.1 1), (v0.2.1, (v7, ()))))))))))))) else (some (Out.exit (Sum.inl ((ltZ v0.1 (lenI v0.2.1)), (v0.1, (v0.2.1, (v0.2.2.1, ())))))))))
def laws_heldModeS (x : ((List (Int × ((List Int) × ((List Int) × Unit)))) × (Int × Unit))) (c : Unit) : (Option (Int × Unit)) :=
  (Option.bind (loopN (A := (Int × ((List (Int × ((List Int) × ((List Int) × Unit)))) × (Int × Unit)))) big laws_heldModeS_L0 (0, (x.1, (x.2.1, ())))) fun v8 => (match v8 with | Out.norm v9 => none | Out.exit v10 => (match ((match v10 with | Sum.inl v13 => (Sum.inl (v13.2.2.2.1, ())) | Sum.inr v14 => (Empty.elim v14)) : ((Int × Unit) ⊕ Empty)) with | Sum.inl v11 => (some (v11.1, ())) | Sum.inr v12 => none) | Out.ret v15 => (some v15)))
def H_laws_heldModeS : Hd := ⟨[.sl 37 (.st [.int .i64, .sl 3 (.int .i64), .sl 3 (.int .i64)]), .int .i64], [], none, .p, .int .i64, .p, []⟩
def T_laws_heldModeS : FSig := ⟨H_laws_heldModeS.ps, H_laws_heldModeS.cs, H_laws_heldModeS.io, H_laws_heldModeS.im, H_laws_heldModeS.R, H_laws_heldModeS.m, laws_heldModeS⟩
theorem E_laws_heldModeS : fnOf tys [(101, T_laws_heldIntS)] Try.f197 H_laws_heldModeS = T_laws_heldModeS := by kernel_rfl
theorem K_laws_heldModeS : SigOk Try.prog 197 T_laws_heldModeS := (congrArg (SigOk Try.prog 197) E_laws_heldModeS).mp (fnOf_ok rfl tysOk ⟨K_laws_heldIntS, trivial⟩ Try.func197 (by decide) rfl (fun _ h => by cases h))
def laws_heldActivityS_L0 : (Int × ((List ((List UInt8) × (Int × ((List (Int × ((List Int) × ((List Int) × Unit)))) × Unit)))) × (Int × Unit))) → Option (Out (Int × ((List ((List UInt8) × (Int × ((List (Int × ((List Int) × ((List Int) × Unit)))) × Unit)))) × (Int × Unit))) ((Bool × (Int × ((List ((List UInt8) × (Int × ((List (Int × ((List Int) × ((List Int) × Unit)))) × Unit)))) × (Int × Unit)))) ⊕ Empty) (Int × Unit)) :=
  (fun v0 => (if (ltZ v0.1 (lenI v0.2.1)) = true then (Option.bind (getI v0.2.1 v0.1) fun v1 => (Option.bind ((Option.bind (laws_markText (v0.2.2.1, ()) ()) fun v2 => (some v2.1)) : (Option (List UInt8))) fun v3 => (if (notB (eqS v1.1 v3)) = true then (some (Out.ret ((-1), ()))) else (Option.bind (getI v0.2.1 v0.1) fun v4 => (if (notB (eqZ v4.2.1 (addZ .i64 v0.2.2.1 1))) = true then (some (Out.ret ((-1), ()))) else (Option.bind (getI v0.2.1 v0.1) fun v5 => (Option.bind ((Option.bind (laws_heldModeS (v5.2.2.1, ((addZ .i64 (addZ .i64 v0.2.2.1 1) 1), ())) ()) fun v6 => (some v6.1)) : (Option Int)) fun v7 => (if (ltZ v7 0) = true then (some (Out.ret ((-1), ()))) else (some (Out.norm ((addZ .i64 v0.1 1), (v0.2.1, (v7, ()))))))))))))) else (some (Out.exit (Sum.inl ((ltZ v0.1 (lenI v0.2.1)), (v0.1, (v0.2.1, (v0.2.2.1, ())))))))))
def laws_heldActivityS (x : ((List ((List UInt8) × (Int × ((List (Int × ((List Int) × ((List Int) × Unit)))) × Unit)))) × (Int × Unit))) (c : Unit) : (Option (Int × Unit)) :=
  (Option.bind (loopN (A := (Int × ((List ((List UInt8) × (Int × ((List (Int × ((List Int) × ((List Int) × Unit)))) × Unit)))) × (Int × Unit)))) big laws_heldActivityS_L0 (0, (x.1, (x.2.1, ())))) fun v8 => (match v8 with | Out.norm v9 => none | Out.exit v10 => (match ((match v10 with | Sum.inl v13 => (Sum.inl (v13.2.2.2.1, ())) | Sum.inr v14 => (Empty.elim v14)) : ((Int × Unit) ⊕ Empty)) with | Sum.inl v11 => (some (v11.1, ())) | Sum.inr v12 => none) | Out.ret v15 => (some v15)))
def H_laws_heldActivityS : Hd := ⟨[.sl 35 (.st [.str, .int .i64, .sl 37 (.st [.int .i64, .sl 3 (.int .i64), .sl 3 (.int .i64)])]), .int .i64], [], none, .p, .int .i64, .p, []⟩
def T_laws_heldActivityS : FSig := ⟨H_laws_heldActivityS.ps, H_laws_heldActivityS.cs, H_laws_heldActivityS.io, H_laws_heldActivityS.im, H_laws_heldActivityS.R, H_laws_heldActivityS.m, laws_heldActivityS⟩
theorem E_laws_heldActivityS : fnOf tys [(193, T_laws_markText), (197, T_laws_heldModeS)] Try.f163 H_laws_heldActivityS = T_laws_heldActivityS := by kernel_rfl
theorem K_laws_heldActivityS : SigOk Try.prog 163 T_laws_heldActivityS := (congrArg (SigOk Try.prog 163) E_laws_heldActivityS).mp (fnOf_ok rfl tysOk ⟨K_laws_markText, K_laws_heldModeS, trivial⟩ Try.func163 (by decide) rfl (fun _ h => by cases h))
def laws_heldLinkS_L0 : (Int × ((List (Int × (Int × (Bool × (Int × Unit))))) × (Int × Unit))) → Option (Out (Int × ((List (Int × (Int × (Bool × (Int × Unit))))) × (Int × Unit))) ((Bool × (Int × ((List (Int × (Int × (Bool × (Int × Unit))))) × (Int × Unit)))) ⊕ Empty) (Int × Unit)) :=
  (fun v0 => (if (ltZ v0.1 (lenI v0.2.1)) = true then (Option.bind (getI v0.2.1 v0.1) fun v1 => (if (notB (eqZ v1.1 v0.2.2.1)) = true then (some (Out.ret ((-1), ()))) else (Option.bind (getI v0.2.1 v0.1) fun v2 => (if (notB (eqZ v2.2.1 (addZ .i64 v0.2.2.1 1))) = true then (some (Out.ret ((-1), ()))) else (Option.bind (getI v0.2.1 v0.1) fun v3 => (Option.bind (remZ (addZ .i64 (addZ .i64 v0.2.2.1 1) 1) 3) fun v4 => (if (notB (eqB v3.2.2.1 (eqZ v4 0))) = true then (some (Out.ret ((-1), ()))) else (Option.bind (getI v0.2.1 v0.1) fun v5 => (if (notB (eqZ v5.2.2.2.1 (addZ .i64 (addZ .i64 (addZ .i64 v0.2.2.1 1) 1) 1))) = true then (some (Out.ret ((-1), ()))) else (some (Out.norm ((addZ .i64 v0.1 1), (v0.2.1, ((addZ .i64 (addZ .i64 (addZ .i64 (addZ .i64 v0.2.2.1 1) 1) 1) 1), ())))))))))))))) else (some (Out.exit (Sum.inl ((ltZ v0.1 (lenI v0.2.1)), (v0.1, (v0.2.1, (v0.2.2.1, ())))))))))
def laws_heldLinkS (x : ((List (Int × (Int × (Bool × (Int × Unit))))) × (Int × Unit))) (c : Unit) : (Option (Int × Unit)) :=
  (Option.bind (loopN (A := (Int × ((List (Int × (Int × (Bool × (Int × Unit))))) × (Int × Unit)))) big laws_heldLinkS_L0 (0, (x.1, (x.2.1, ())))) fun v6 => (match v6 with | Out.norm v7 => none | Out.exit v8 => (match ((match v8 with | Sum.inl v11 => (Sum.inl (v11.2.2.2.1, ())) | Sum.inr v12 => (Empty.elim v12)) : ((Int × Unit) ⊕ Empty)) with | Sum.inl v9 => (some (v9.1, ())) | Sum.inr v10 => none) | Out.ret v13 => (some v13)))
def H_laws_heldLinkS : Hd := ⟨[.sl 115 (.st [.int .i64, .int .i64, .bool, .int .i64]), .int .i64], [], none, .p, .int .i64, .p, []⟩
def T_laws_heldLinkS : FSig := ⟨H_laws_heldLinkS.ps, H_laws_heldLinkS.cs, H_laws_heldLinkS.io, H_laws_heldLinkS.im, H_laws_heldLinkS.R, H_laws_heldLinkS.m, laws_heldLinkS⟩
theorem E_laws_heldLinkS : fnOf tys [] Try.f164 H_laws_heldLinkS = T_laws_heldLinkS := by kernel_rfl
theorem K_laws_heldLinkS : SigOk Try.prog 164 T_laws_heldLinkS := (congrArg (SigOk Try.prog 164) E_laws_heldLinkS).mp (fnOf_ok rfl tysOk trivial Try.func164 (by decide) rfl (fun _ h => by cases h))
def laws_heldStepS_L0 : (Int × ((List (Int × (Int × Unit))) × (Int × Unit))) → Option (Out (Int × ((List (Int × (Int × Unit))) × (Int × Unit))) ((Bool × (Int × ((List (Int × (Int × Unit))) × (Int × Unit)))) ⊕ Empty) (Int × Unit)) :=
  (fun v0 => (if (ltZ v0.1 (lenI v0.2.1)) = true then (Option.bind (getI v0.2.1 v0.1) fun v1 => (if (notB (eqZ v1.1 v0.2.2.1)) = true then (some (Out.ret ((-1), ()))) else (Option.bind (getI v0.2.1 v0.1) fun v2 => (if (notB (eqZ v2.2.1 (addZ .i64 v0.2.2.1 1))) = true then (some (Out.ret ((-1), ()))) else (some (Out.norm ((addZ .i64 v0.1 1), (v0.2.1, ((addZ .i64 (addZ .i64 v0.2.2.1 1) 1), ()))))))))) else (some (Out.exit (Sum.inl ((ltZ v0.1 (lenI v0.2.1)), (v0.1, (v0.2.1, (v0.2.2.1, ())))))))))
def laws_heldStepS (x : ((List (Int × (Int × Unit))) × (Int × Unit))) (c : Unit) : (Option (Int × Unit)) :=
  (Option.bind (loopN (A := (Int × ((List (Int × (Int × Unit))) × (Int × Unit)))) big laws_heldStepS_L0 (0, (x.1, (x.2.1, ())))) fun v3 => (match v3 with | Out.norm v4 => none | Out.exit v5 => (match ((match v5 with | Sum.inl v8 => (Sum.inl (v8.2.2.2.1, ())) | Sum.inr v9 => (Empty.elim v9)) : ((Int × Unit) ⊕ Empty)) with | Sum.inl v6 => (some (v6.1, ())) | Sum.inr v7 => none) | Out.ret v10 => (some v10)))
def H_laws_heldStepS : Hd := ⟨[.sl 176 (.st [.int .i64, .int .i64]), .int .i64], [], none, .p, .int .i64, .p, []⟩
def T_laws_heldStepS : FSig := ⟨H_laws_heldStepS.ps, H_laws_heldStepS.cs, H_laws_heldStepS.io, H_laws_heldStepS.im, H_laws_heldStepS.R, H_laws_heldStepS.m, laws_heldStepS⟩
theorem E_laws_heldStepS : fnOf tys [] Try.f198 H_laws_heldStepS = T_laws_heldStepS := by kernel_rfl
theorem K_laws_heldStepS : SigOk Try.prog 198 T_laws_heldStepS := (congrArg (SigOk Try.prog 198) E_laws_heldStepS).mp (fnOf_ok rfl tysOk trivial Try.func198 (by decide) rfl (fun _ h => by cases h))
def laws_heldResourceS_L0 : (Int × ((List ((List (Int × (Int × Unit))) × ((List (List Int)) × Unit))) × (Int × Unit))) → Option (Out (Int × ((List ((List (Int × (Int × Unit))) × ((List (List Int)) × Unit))) × (Int × Unit))) ((Bool × (Int × ((List ((List (Int × (Int × Unit))) × ((List (List Int)) × Unit))) × (Int × Unit)))) ⊕ Empty) (Int × Unit)) :=
  (fun v0 => (if (ltZ v0.1 (lenI v0.2.1)) = true then (Option.bind (getI v0.2.1 v0.1) fun v1 => (Option.bind ((Option.bind (laws_heldStepS (v1.1, (v0.2.2.1, ())) ()) fun v2 => (some v2.1)) : (Option Int)) fun v3 => (if (ltZ v3 0) = true then (some (Out.ret ((-1), ()))) else (Option.bind (getI v0.2.1 v0.1) fun v4 => (Option.bind ((Option.bind (laws_heldIntSS (v4.2.1, (v3, ())) ()) fun v5 => (some v5.1)) : (Option Int)) fun v6 => (if (ltZ v6 0) = true then (some (Out.ret ((-1), ()))) else (some (Out.norm ((addZ .i64 v0.1 1), (v0.2.1, (v6, ()))))))))))) else (some (Out.exit (Sum.inl ((ltZ v0.1 (lenI v0.2.1)), (v0.1, (v0.2.1, (v0.2.2.1, ())))))))))
def laws_heldResourceS (x : ((List ((List (Int × (Int × Unit))) × ((List (List Int)) × Unit))) × (Int × Unit))) (c : Unit) : (Option (Int × Unit)) :=
  (Option.bind (loopN (A := (Int × ((List ((List (Int × (Int × Unit))) × ((List (List Int)) × Unit))) × (Int × Unit)))) big laws_heldResourceS_L0 (0, (x.1, (x.2.1, ())))) fun v7 => (match v7 with | Out.norm v8 => none | Out.exit v9 => (match ((match v9 with | Sum.inl v12 => (Sum.inl (v12.2.2.2.1, ())) | Sum.inr v13 => (Empty.elim v13)) : ((Int × Unit) ⊕ Empty)) with | Sum.inl v10 => (some (v10.1, ())) | Sum.inr v11 => none) | Out.ret v14 => (some v14)))
def H_laws_heldResourceS : Hd := ⟨[.sl 44 (.st [.sl 176 (.st [.int .i64, .int .i64]), .sl 26 (.sl 3 (.int .i64))]), .int .i64], [], none, .p, .int .i64, .p, []⟩
def T_laws_heldResourceS : FSig := ⟨H_laws_heldResourceS.ps, H_laws_heldResourceS.cs, H_laws_heldResourceS.io, H_laws_heldResourceS.im, H_laws_heldResourceS.R, H_laws_heldResourceS.m, laws_heldResourceS⟩
theorem E_laws_heldResourceS : fnOf tys [(102, T_laws_heldIntSS), (198, T_laws_heldStepS)] Try.f165 H_laws_heldResourceS = T_laws_heldResourceS := by kernel_rfl
theorem K_laws_heldResourceS : SigOk Try.prog 165 T_laws_heldResourceS := (congrArg (SigOk Try.prog 165) E_laws_heldResourceS).mp (fnOf_ok rfl tysOk ⟨K_laws_heldIntSS, K_laws_heldStepS, trivial⟩ Try.func165 (by decide) rfl (fun _ h => by cases h))
def laws_heldProject (x : ((Int × ((List ((List UInt8) × (Int × ((List (Int × ((List Int) × ((List Int) × Unit)))) × Unit)))) × ((List (Int × (Int × (Bool × (Int × Unit))))) × ((List ((List (Int × (Int × Unit))) × ((List (List Int)) × Unit))) × ((List Int) × Unit))))) × (Int × Unit))) (c : Unit) : (Option (Int × Unit)) :=
  (Option.bind ((Option.bind (laws_heldActivityS (x.1.2.1, (x.2.1, ())) ()) fun v0 => (some v0.1)) : (Option Int)) fun v1 => (if (ltZ v1 0) = true then (some ((-1), ())) else (Option.bind ((Option.bind (laws_heldLinkS (x.1.2.2.1, (v1, ())) ()) fun v2 => (some v2.1)) : (Option Int)) fun v3 => (if (ltZ v3 0) = true then (some ((-1), ())) else (Option.bind ((Option.bind (laws_heldResourceS (x.1.2.2.2.1, (v3, ())) ()) fun v4 => (some v4.1)) : (Option Int)) fun v5 => (if (ltZ v5 0) = true then (some ((-1), ())) else (Option.bind ((Option.bind (laws_heldIntS (x.1.2.2.2.2.1, (v5, ())) ()) fun v6 => (some v6.1)) : (Option Int)) fun v7 => (if (ltZ v7 0) = true then (some ((-1), ())) else (some (v7, ()))))))))))
def H_laws_heldProject : Hd := ⟨[.st [.int .i64, .sl 35 (.st [.str, .int .i64, .sl 37 (.st [.int .i64, .sl 3 (.int .i64), .sl 3 (.int .i64)])]), .sl 115 (.st [.int .i64, .int .i64, .bool, .int .i64]), .sl 44 (.st [.sl 176 (.st [.int .i64, .int .i64]), .sl 26 (.sl 3 (.int .i64))]), .sl 3 (.int .i64)], .int .i64], [], none, .p, .int .i64, .p, []⟩
def T_laws_heldProject : FSig := ⟨H_laws_heldProject.ps, H_laws_heldProject.cs, H_laws_heldProject.io, H_laws_heldProject.im, H_laws_heldProject.R, H_laws_heldProject.m, laws_heldProject⟩
theorem E_laws_heldProject : fnOf tys [(101, T_laws_heldIntS), (163, T_laws_heldActivityS), (164, T_laws_heldLinkS), (165, T_laws_heldResourceS)] Try.f114 H_laws_heldProject = T_laws_heldProject := by kernel_rfl
theorem K_laws_heldProject : SigOk Try.prog 114 T_laws_heldProject := (congrArg (SigOk Try.prog 114) E_laws_heldProject).mp (fnOf_ok rfl tysOk ⟨K_laws_heldIntS, K_laws_heldActivityS, K_laws_heldLinkS, K_laws_heldResourceS, trivial⟩ Try.func114 (by decide) rfl (fun _ h => by cases h))
def laws_heldSchedule (x : (((List Int) × ((List Int) × Unit)) × (Int × Unit))) (c : Unit) : (Option (Int × Unit)) :=
  (Option.bind ((Option.bind (laws_heldIntS (x.1.1, (x.2.1, ())) ()) fun v0 => (some v0.1)) : (Option Int)) fun v1 => (if (ltZ v1 0) = true then (some ((-1), ())) else (Option.bind ((Option.bind (laws_heldIntS (x.1.2.1, (v1, ())) ()) fun v2 => (some v2.1)) : (Option Int)) fun v3 => (if (ltZ v3 0) = true then (some ((-1), ())) else (some (v3, ()))))))
def H_laws_heldSchedule : Hd := ⟨[.st [.sl 3 (.int .i64), .sl 3 (.int .i64)], .int .i64], [], none, .p, .int .i64, .p, []⟩
def T_laws_heldSchedule : FSig := ⟨H_laws_heldSchedule.ps, H_laws_heldSchedule.cs, H_laws_heldSchedule.io, H_laws_heldSchedule.im, H_laws_heldSchedule.R, H_laws_heldSchedule.m, laws_heldSchedule⟩
theorem E_laws_heldSchedule : fnOf tys [(101, T_laws_heldIntS)] Try.f166 H_laws_heldSchedule = T_laws_heldSchedule := by kernel_rfl
theorem K_laws_heldSchedule : SigOk Try.prog 166 T_laws_heldSchedule := (congrArg (SigOk Try.prog 166) E_laws_heldSchedule).mp (fnOf_ok rfl tysOk ⟨K_laws_heldIntS, trivial⟩ Try.func166 (by decide) rfl (fun _ h => by cases h))
def laws_heldLiteralS_L0 : (Int × ((List (Int × (Int × (Int × Unit)))) × (Int × Unit))) → Option (Out (Int × ((List (Int × (Int × (Int × Unit)))) × (Int × Unit))) ((Bool × (Int × ((List (Int × (Int × (Int × Unit)))) × (Int × Unit)))) ⊕ Empty) (Int × Unit)) :=
  (fun v0 => (if (ltZ v0.1 (lenI v0.2.1)) = true then (Option.bind (getI v0.2.1 v0.1) fun v1 => (if (notB (eqZ v1.1 v0.2.2.1)) = true then (some (Out.ret ((-1), ()))) else (Option.bind (getI v0.2.1 v0.1) fun v2 => (if (notB (eqZ v2.2.1 (addZ .i64 v0.2.2.1 1))) = true then (some (Out.ret ((-1), ()))) else (Option.bind (getI v0.2.1 v0.1) fun v3 => (if (notB (eqZ v3.2.2.1 (addZ .i64 (addZ .i64 v0.2.2.1 1) 1))) = true then (some (Out.ret ((-1), ()))) else (some (Out.norm ((addZ .i64 v0.1 1), (v0.2.1, ((addZ .i64 (addZ .i64 (addZ .i64 v0.2.2.1 1) 1) 1), ()))))))))))) else (some (Out.exit (Sum.inl ((ltZ v0.1 (lenI v0.2.1)), (v0.1, (v0.2.1, (v0.2.2.1, ())))))))))
def laws_heldLiteralS (x : ((List (Int × (Int × (Int × Unit)))) × (Int × Unit))) (c : Unit) : (Option (Int × Unit)) :=
  (Option.bind (loopN (A := (Int × ((List (Int × (Int × (Int × Unit)))) × (Int × Unit)))) big laws_heldLiteralS_L0 (0, (x.1, (x.2.1, ())))) fun v4 => (match v4 with | Out.norm v5 => none | Out.exit v6 => (match ((match v6 with | Sum.inl v9 => (Sum.inl (v9.2.2.2.1, ())) | Sum.inr v10 => (Empty.elim v10)) : ((Int × Unit) ⊕ Empty)) with | Sum.inl v7 => (some (v7.1, ())) | Sum.inr v8 => none) | Out.ret v11 => (some v11)))
def H_laws_heldLiteralS : Hd := ⟨[.sl 69 (.st [.int .i64, .int .i64, .int .i64]), .int .i64], [], none, .p, .int .i64, .p, []⟩
def T_laws_heldLiteralS : FSig := ⟨H_laws_heldLiteralS.ps, H_laws_heldLiteralS.cs, H_laws_heldLiteralS.io, H_laws_heldLiteralS.im, H_laws_heldLiteralS.R, H_laws_heldLiteralS.m, laws_heldLiteralS⟩
theorem E_laws_heldLiteralS : fnOf tys [] Try.f199 H_laws_heldLiteralS = T_laws_heldLiteralS := by kernel_rfl
theorem K_laws_heldLiteralS : SigOk Try.prog 199 T_laws_heldLiteralS := (congrArg (SigOk Try.prog 199) E_laws_heldLiteralS).mp (fnOf_ok rfl tysOk trivial Try.func199 (by decide) rfl (fun _ h => by cases h))
def laws_heldLineS_L0 : (Int × ((List (Int × ((Int × (Int × (Int × (Int × Unit)))) × ((List (Int × (Int × (Int × Unit)))) × Unit)))) × (Int × Unit))) → Option (Out (Int × ((List (Int × ((Int × (Int × (Int × (Int × Unit)))) × ((List (Int × (Int × (Int × Unit)))) × Unit)))) × (Int × Unit))) ((Bool × (Int × ((List (Int × ((Int × (Int × (Int × (Int × Unit)))) × ((List (Int × (Int × (Int × Unit)))) × Unit)))) × (Int × Unit)))) ⊕ Empty) (Int × Unit)) :=
  (fun v0 => (if (ltZ v0.1 (lenI v0.2.1)) = true then (Option.bind (getI v0.2.1 v0.1) fun v1 => (if (notB (eqZ v1.1 v0.2.2.1)) = true then (some (Out.ret ((-1), ()))) else (Option.bind (getI v0.2.1 v0.1) fun v2 => (if (notB (eqZ v2.2.1.1 (addZ .i64 v0.2.2.1 1))) = true then (some (Out.ret ((-1), ()))) else (Option.bind (getI v0.2.1 v0.1) fun v3 => (if (notB (eqZ v3.2.1.2.1 (addZ .i64 (addZ .i64 v0.2.2.1 1) 1))) = true then (some (Out.ret ((-1), ()))) else (Option.bind (getI v0.2.1 v0.1) fun v4 => (if (notB (eqZ v4.2.1.2.2.1 (addZ .i64 (addZ .i64 (addZ .i64 v0.2.2.1 1) 1) 1))) = true then (some (Out.ret ((-1), ()))) else (Option.bind (getI v0.2.1 v0.1) fun v5 => (if (notB (eqZ v5.2.1.2.2.2.1 (addZ .i64 (addZ .i64 (addZ .i64 (addZ .i64 v0.2.2.1 1) 1) 1) 1))) = true then (some (Out.ret ((-1), ()))) else (Option.bind (getI v0.2.1 v0.1) fun v6 => (Option.bind ((Option.bind (laws_heldLiteralS (v6.2.2.1, ((addZ .i64 (addZ .i64 (addZ .i64 (addZ .i64 (addZ .i64 v0.2.2.1 1) 1) 1) 1) 1), ())) ()) fun v7 => (some v7.1)) : (Option Int)) fun v8 => (if (ltZ v8 0) = true then (some (Out.ret ((-1), ()))) else (some (Out.norm ((addZ .i64 v0.1 1), (v0.2.1, (v8, ())))))))))))))))))) else (some (Out.exit (Sum.inl ((ltZ v0.1 (lenI v0.2.1)), (v0.1, (v0.2.1, (v0.2.2.1, ())))))))))
def laws_heldLineS (x : ((List (Int × ((Int × (Int × (Int × (Int × Unit)))) × ((List (Int × (Int × (Int × Unit)))) × Unit)))) × (Int × Unit))) (c : Unit) : (Option (Int × Unit)) :=
  (Option.bind (loopN (A := (Int × ((List (Int × ((Int × (Int × (Int × (Int × Unit)))) × ((List (Int × (Int × (Int × Unit)))) × Unit)))) × (Int × Unit)))) big laws_heldLineS_L0 (0, (x.1, (x.2.1, ())))) fun v9 => (match v9 with | Out.norm v10 => none | Out.exit v11 => (match ((match v11 with | Sum.inl v14 => (Sum.inl (v14.2.2.2.1, ())) | Sum.inr v15 => (Empty.elim v15)) : ((Int × Unit) ⊕ Empty)) with | Sum.inl v12 => (some (v12.1, ())) | Sum.inr v13 => none) | Out.ret v16 => (some v16)))
def H_laws_heldLineS : Hd := ⟨[.sl 128 (.st [.int .i64, .st [.int .i64, .int .i64, .int .i64, .int .i64], .sl 69 (.st [.int .i64, .int .i64, .int .i64])]), .int .i64], [], none, .p, .int .i64, .p, []⟩
def T_laws_heldLineS : FSig := ⟨H_laws_heldLineS.ps, H_laws_heldLineS.cs, H_laws_heldLineS.io, H_laws_heldLineS.im, H_laws_heldLineS.R, H_laws_heldLineS.m, laws_heldLineS⟩
theorem E_laws_heldLineS : fnOf tys [(199, T_laws_heldLiteralS)] Try.f167 H_laws_heldLineS = T_laws_heldLineS := by kernel_rfl
theorem K_laws_heldLineS : SigOk Try.prog 167 T_laws_heldLineS := (congrArg (SigOk Try.prog 167) E_laws_heldLineS).mp (fnOf_ok rfl tysOk ⟨K_laws_heldLiteralS, trivial⟩ Try.func167 (by decide) rfl (fun _ h => by cases h))
def laws_heldResult (x : ((Int × (((List Int) × ((List Int) × Unit)) × (Int × (Int × ((List (Int × ((Int × (Int × (Int × (Int × Unit)))) × ((List (Int × (Int × (Int × Unit)))) × Unit)))) × (Int × Unit)))))) × (Int × Unit))) (c : Unit) : (Option (Int × Unit)) :=
  (Option.bind ((Option.bind (laws_heldSchedule (x.1.2.1, (x.2.1, ())) ()) fun v0 => (some v0.1)) : (Option Int)) fun v1 => (if (ltZ v1 0) = true then (some ((-1), ())) else (Option.bind ((Option.bind (laws_heldLineS (x.1.2.2.2.2.1, (v1, ())) ()) fun v2 => (some v2.1)) : (Option Int)) fun v3 => (if (ltZ v3 0) = true then (some ((-1), ())) else (some (v3, ()))))))
def H_laws_heldResult : Hd := ⟨[.st [.int .i64, .st [.sl 3 (.int .i64), .sl 3 (.int .i64)], .int .i64, .int .i64, .sl 128 (.st [.int .i64, .st [.int .i64, .int .i64, .int .i64, .int .i64], .sl 69 (.st [.int .i64, .int .i64, .int .i64])]), .int .i64], .int .i64], [], none, .p, .int .i64, .p, []⟩
def T_laws_heldResult : FSig := ⟨H_laws_heldResult.ps, H_laws_heldResult.cs, H_laws_heldResult.io, H_laws_heldResult.im, H_laws_heldResult.R, H_laws_heldResult.m, laws_heldResult⟩
theorem E_laws_heldResult : fnOf tys [(166, T_laws_heldSchedule), (167, T_laws_heldLineS)] Try.f115 H_laws_heldResult = T_laws_heldResult := by kernel_rfl
theorem K_laws_heldResult : SigOk Try.prog 115 T_laws_heldResult := (congrArg (SigOk Try.prog 115) E_laws_heldResult).mp (fnOf_ok rfl tysOk ⟨K_laws_heldSchedule, K_laws_heldLineS, trivial⟩ Try.func115 (by decide) rfl (fun _ h => by cases h))
def laws_heldConsole (x : (((Int × ((List ((List UInt8) × (Int × ((List (Int × ((List Int) × ((List Int) × Unit)))) × Unit)))) × ((List (Int × (Int × (Bool × (Int × Unit))))) × ((List ((List (Int × (Int × Unit))) × ((List (List Int)) × Unit))) × ((List Int) × Unit))))) × ((Int × (((List Int) × ((List Int) × Unit)) × (Int × (Int × ((List (Int × ((Int × (Int × (Int × (Int × Unit)))) × ((List (Int × (Int × (Int × Unit)))) × Unit)))) × (Int × Unit)))))) × (Int × Unit))) × (Int × Unit))) (c : Unit) : (Option (Int × Unit)) :=
  (Option.bind ((Option.bind (laws_heldProject (x.1.1, (x.2.1, ())) ()) fun v0 => (some v0.1)) : (Option Int)) fun v1 => (if (ltZ v1 0) = true then (some ((-1), ())) else (Option.bind ((Option.bind (laws_heldResult (x.1.2.1, (v1, ())) ()) fun v2 => (some v2.1)) : (Option Int)) fun v3 => (if (ltZ v3 0) = true then (some ((-1), ())) else (some (v3, ()))))))
def H_laws_heldConsole : Hd := ⟨[.st [.st [.int .i64, .sl 35 (.st [.str, .int .i64, .sl 37 (.st [.int .i64, .sl 3 (.int .i64), .sl 3 (.int .i64)])]), .sl 115 (.st [.int .i64, .int .i64, .bool, .int .i64]), .sl 44 (.st [.sl 176 (.st [.int .i64, .int .i64]), .sl 26 (.sl 3 (.int .i64))]), .sl 3 (.int .i64)], .st [.int .i64, .st [.sl 3 (.int .i64), .sl 3 (.int .i64)], .int .i64, .int .i64, .sl 128 (.st [.int .i64, .st [.int .i64, .int .i64, .int .i64, .int .i64], .sl 69 (.st [.int .i64, .int .i64, .int .i64])]), .int .i64], .int .i64], .int .i64], [], none, .p, .int .i64, .p, []⟩
def T_laws_heldConsole : FSig := ⟨H_laws_heldConsole.ps, H_laws_heldConsole.cs, H_laws_heldConsole.io, H_laws_heldConsole.im, H_laws_heldConsole.R, H_laws_heldConsole.m, laws_heldConsole⟩
theorem E_laws_heldConsole : fnOf tys [(114, T_laws_heldProject), (115, T_laws_heldResult)] Try.f44 H_laws_heldConsole = T_laws_heldConsole := by kernel_rfl
theorem K_laws_heldConsole : SigOk Try.prog 44 T_laws_heldConsole := (congrArg (SigOk Try.prog 44) E_laws_heldConsole).mp (fnOf_ok rfl tysOk ⟨K_laws_heldProject, K_laws_heldResult, trivial⟩ Try.func44 (by decide) rfl (fun _ h => by cases h))
def laws_FnExactNewConsole (x : Unit) (c : Unit) : (Option (Bool × Unit)) :=
  (Option.bind ((Option.bind (spec_NewConsole () ()) fun v0 => (some v0.1)) : (Option ((Int × ((List ((List UInt8) × (Int × ((List (Int × ((List Int) × ((List Int) × Unit)))) × Unit)))) × ((List (Int × (Int × (Bool × (Int × Unit))))) × ((List ((List (Int × (Int × Unit))) × ((List (List Int)) × Unit))) × ((List Int) × Unit))))) × ((Int × (((List Int) × ((List Int) × Unit)) × (Int × (Int × ((List (Int × ((Int × (Int × (Int × (Int × Unit)))) × ((List (Int × (Int × (Int × Unit)))) × Unit)))) × (Int × Unit)))))) × (Int × Unit))))) fun v1 => (Option.bind ((Option.bind (impl_NewConsole () ()) fun v2 => (some v2.1)) : (Option ((Int × ((List ((List UInt8) × (Int × ((List (Int × ((List Int) × ((List Int) × Unit)))) × Unit)))) × ((List (Int × (Int × (Bool × (Int × Unit))))) × ((List ((List (Int × (Int × Unit))) × ((List (List Int)) × Unit))) × ((List Int) × Unit))))) × ((Int × (((List Int) × ((List Int) × Unit)) × (Int × (Int × ((List (Int × ((Int × (Int × (Int × (Int × Unit)))) × ((List (Int × (Int × (Int × Unit)))) × Unit)))) × (Int × Unit)))))) × (Int × Unit))))) fun v3 => (Option.bind ((Option.bind (laws_eqConsole (v3, (v1, ())) ()) fun v4 => (some v4.1)) : (Option Bool)) fun v5 => (if (notB v5) = true then (some (false, ())) else (Option.bind (laws_markConsole (v3, (1, ())) ()) fun v6 => (Option.bind ((Option.bind (laws_heldConsole (v6.2, (1, ())) ()) fun v7 => (some v7.1)) : (Option Int)) fun v8 => (if (ltZ v8 0) = true then (some (false, ())) else (if (notB (eqZ v8 v6.1)) = true then (some (false, ())) else (Option.bind ((Option.bind (impl_NewConsole () ()) fun v9 => (some v9.1)) : (Option ((Int × ((List ((List UInt8) × (Int × ((List (Int × ((List Int) × ((List Int) × Unit)))) × Unit)))) × ((List (Int × (Int × (Bool × (Int × Unit))))) × ((List ((List (Int × (Int × Unit))) × ((List (List Int)) × Unit))) × ((List Int) × Unit))))) × ((Int × (((List Int) × ((List Int) × Unit)) × (Int × (Int × ((List (Int × ((Int × (Int × (Int × (Int × Unit)))) × ((List (Int × (Int × (Int × Unit)))) × Unit)))) × (Int × Unit)))))) × (Int × Unit))))) fun v10 => (Option.bind ((Option.bind (laws_eqConsole (v10, (v1, ())) ()) fun v11 => (some v11.1)) : (Option Bool)) fun v12 => (if (notB v12) = true then (some (false, ())) else (Option.bind ((Option.bind (laws_heldConsole (v6.2, (1, ())) ()) fun v13 => (some v13.1)) : (Option Int)) fun v14 => (if (ltZ v14 0) = true then (some (false, ())) else (if (notB (eqZ v14 v6.1)) = true then (some (false, ())) else (some (true, ()))))))))))))))))
def H_laws_FnExactNewConsole : Hd := ⟨[], [], none, .p, .bool, .p, []⟩
def T_laws_FnExactNewConsole : FSig := ⟨H_laws_FnExactNewConsole.ps, H_laws_FnExactNewConsole.cs, H_laws_FnExactNewConsole.io, H_laws_FnExactNewConsole.im, H_laws_FnExactNewConsole.R, H_laws_FnExactNewConsole.m, laws_FnExactNewConsole⟩
theorem E_laws_FnExactNewConsole : fnOf tys [(40, T_spec_NewConsole), (41, T_impl_NewConsole), (42, T_laws_eqConsole), (43, T_laws_markConsole), (44, T_laws_heldConsole)] Try.f7 H_laws_FnExactNewConsole = T_laws_FnExactNewConsole := by kernel_rfl
theorem K_laws_FnExactNewConsole : SigOk Try.prog 7 T_laws_FnExactNewConsole := (congrArg (SigOk Try.prog 7) E_laws_FnExactNewConsole).mp (fnOf_ok rfl tysOk ⟨K_spec_NewConsole, K_impl_NewConsole, K_laws_eqConsole, K_laws_markConsole, K_laws_heldConsole, trivial⟩ Try.func7 (by decide) rfl (fun _ h => by cases h))
end Go.Proofs.Ytemeabdacejkpaa
