/-
  The functions of this seat as plain Lean functions, and that the program computes them. No condition.
-/
import Derived.Test.YtemeabdacejkpaaN32
import Derived.Test.YtemeabdacejkpaaProg
import Derived.KernelRfl
namespace Go.Proofs.Ytemeabdacejkpaa
open Go.Abs
set_option linter.unusedVariables false
set_option maxRecDepth 100000
theorem tn3 : TnOk Try.prog 3 (.int .i64) := ⟨Try.underlying3, fun _ h => (by cases h), Try.t3, rfl, rfl, fun _ _ => rfl⟩
theorem tn4 : TnOk Try.prog 4 (.bool) := ⟨Try.underlying4, fun _ h => (by cases h), Try.t4, rfl, rfl, fun _ _ => rfl⟩
theorem tn5 : TnOk Try.prog 5 (.int .u8) := ⟨Try.underlying5, fun _ h => (by cases h), Try.t5, rfl, rfl, fun _ _ => rfl⟩
theorem tn9 : TnOk Try.prog 9 (.str) := ⟨Try.underlying9, fun _ h => (by cases h), Try.t9, rfl, rfl, fun _ _ => rfl⟩
theorem tn23 : TnOk Try.prog 23 (.sl 35 (.st [.str, .int .i64, .sl 37 (.st [.int .i64, .sl 3 (.int .i64), .sl 3 (.int .i64)])])) := ⟨⟨Try.underlying23, Try.t35, _, rfl, rfl, rfl, rfl, by decide, by decide, fun _ _ => rfl, fun k h => by cases h⟩, fun _ h => (by cases h), Try.t23, rfl, rfl, fun _ _ => rfl⟩
theorem tn24 : TnOk Try.prog 24 (.sl 115 (.st [.int .i64, .int .i64, .bool, .int .i64])) := ⟨⟨Try.underlying24, Try.t115, _, rfl, rfl, rfl, rfl, by decide, by decide, fun _ _ => rfl, fun k h => by cases h⟩, fun _ h => (by cases h), Try.t24, rfl, rfl, fun _ _ => rfl⟩
theorem tn25 : TnOk Try.prog 25 (.sl 44 (.st [.sl 176 (.st [.int .i64, .int .i64]), .sl 26 (.sl 3 (.int .i64))])) := ⟨⟨Try.underlying25, Try.t44, _, rfl, rfl, rfl, rfl, by decide, by decide, fun _ _ => rfl, fun k h => by cases h⟩, fun _ h => (by cases h), Try.t25, rfl, rfl, fun _ _ => rfl⟩
theorem tn26 : TnOk Try.prog 26 (.sl 3 (.int .i64)) := ⟨⟨Try.underlying26, Try.t3, _, rfl, rfl, rfl, rfl, by decide, by decide, fun _ _ => rfl, fun k h => by cases h; exact Try.underlying3⟩, fun _ h => (by cases h), Try.t26, rfl, rfl, fun _ _ => rfl⟩
theorem tn27 : TnOk Try.prog 27 (.st [.int .i64, .sl 35 (.st [.str, .int .i64, .sl 37 (.st [.int .i64, .sl 3 (.int .i64), .sl 3 (.int .i64)])]), .sl 115 (.st [.int .i64, .int .i64, .bool, .int .i64]), .sl 44 (.st [.sl 176 (.st [.int .i64, .int .i64]), .sl 26 (.sl 3 (.int .i64))]), .sl 3 (.int .i64)]) := ⟨⟨_, Try.underlying27, Try.eqGuardType27, Try.stoodInHeld27, rfl, fun j τ h => by
    cases j with
    | zero => cases h; exact ⟨_, _, rfl, rfl, by decide, by decide, Try.underlying3, rfl, fun us h => by cases h⟩
    | succ j =>
     cases j with
     | zero => cases h; exact ⟨_, _, rfl, rfl, by decide, by decide, Try.underlying23, rfl, fun us h => by cases h⟩
     | succ j =>
      cases j with
      | zero => cases h; exact ⟨_, _, rfl, rfl, by decide, by decide, Try.underlying24, rfl, fun us h => by cases h⟩
      | succ j =>
       cases j with
       | zero => cases h; exact ⟨_, _, rfl, rfl, by decide, by decide, Try.underlying25, rfl, fun us h => by cases h⟩
       | succ j =>
        cases j with
        | zero => cases h; exact ⟨_, _, rfl, rfl, by decide, by decide, Try.underlying26, rfl, fun us h => by cases h⟩
        | succ j =>
         cases h⟩, (fun us hus fs hfs j τ h f hf => by
    cases hus
    rw [Try.underlying27] at hfs
    cases hfs
    cases j with
    | zero => cases h; cases hf; exact ⟨fun k e => by cases e; exact Try.underlying3, fun e => (by cases e), fun e => (by cases e)⟩
    | succ j =>
     cases j with
     | zero => cases h; cases hf; exact ⟨fun k e => (by cases e), fun e => (by cases e), fun e => (by cases e)⟩
     | succ j =>
      cases j with
      | zero => cases h; cases hf; exact ⟨fun k e => (by cases e), fun e => (by cases e), fun e => (by cases e)⟩
      | succ j =>
       cases j with
       | zero => cases h; cases hf; exact ⟨fun k e => (by cases e), fun e => (by cases e), fun e => (by cases e)⟩
       | succ j =>
        cases j with
        | zero => cases h; cases hf; exact ⟨fun k e => (by cases e), fun e => (by cases e), fun e => (by cases e)⟩
        | succ j =>
         cases h), Try.t27, rfl, rfl, fun _ _ => rfl⟩
theorem tn28 : TnOk Try.prog 28 (.st [.int .i64, .sl 35 (.st [.str, .int .i64, .sl 37 (.st [.int .i64, .sl 3 (.int .i64), .sl 3 (.int .i64)])]), .sl 115 (.st [.int .i64, .int .i64, .bool, .int .i64]), .sl 44 (.st [.sl 176 (.st [.int .i64, .int .i64]), .sl 26 (.sl 3 (.int .i64))]), .sl 3 (.int .i64)]) := ⟨⟨_, Try.underlying28, Try.eqGuardType28, Try.stoodInHeld28, rfl, fun j τ h => by
    cases j with
    | zero => cases h; exact ⟨_, _, rfl, rfl, by decide, by decide, Try.underlying3, rfl, fun us h => by cases h⟩
    | succ j =>
     cases j with
     | zero => cases h; exact ⟨_, _, rfl, rfl, by decide, by decide, Try.underlying23, rfl, fun us h => by cases h⟩
     | succ j =>
      cases j with
      | zero => cases h; exact ⟨_, _, rfl, rfl, by decide, by decide, Try.underlying24, rfl, fun us h => by cases h⟩
      | succ j =>
       cases j with
       | zero => cases h; exact ⟨_, _, rfl, rfl, by decide, by decide, Try.underlying25, rfl, fun us h => by cases h⟩
       | succ j =>
        cases j with
        | zero => cases h; exact ⟨_, _, rfl, rfl, by decide, by decide, Try.underlying26, rfl, fun us h => by cases h⟩
        | succ j =>
         cases h⟩, (fun us hus fs hfs j τ h f hf => by
    cases hus
    rw [Try.underlying28] at hfs
    cases hfs
    cases j with
    | zero => cases h; cases hf; exact ⟨fun k e => by cases e; exact Try.underlying3, fun e => (by cases e), fun e => (by cases e)⟩
    | succ j =>
     cases j with
     | zero => cases h; cases hf; exact ⟨fun k e => (by cases e), fun e => (by cases e), fun e => (by cases e)⟩
     | succ j =>
      cases j with
      | zero => cases h; cases hf; exact ⟨fun k e => (by cases e), fun e => (by cases e), fun e => (by cases e)⟩
      | succ j =>
       cases j with
       | zero => cases h; cases hf; exact ⟨fun k e => (by cases e), fun e => (by cases e), fun e => (by cases e)⟩
       | succ j =>
        cases j with
        | zero => cases h; cases hf; exact ⟨fun k e => (by cases e), fun e => (by cases e), fun e => (by cases e)⟩
        | succ j =>
         cases h), Try.t28, rfl, rfl, fun _ _ => rfl⟩
theorem tn33 : TnOk Try.prog 33 (.sl 37 (.st [.int .i64, .sl 3 (.int .i64), .sl 3 (.int .i64)])) := ⟨⟨Try.underlying33, Try.t37, _, rfl, rfl, rfl, rfl, by decide, by decide, fun _ _ => rfl, fun k h => by cases h⟩, fun _ h => (by cases h), Try.t33, rfl, rfl, fun _ _ => rfl⟩
theorem tn34 : TnOk Try.prog 34 (.st [.str, .int .i64, .sl 37 (.st [.int .i64, .sl 3 (.int .i64), .sl 3 (.int .i64)])]) := ⟨⟨_, Try.underlying34, Try.eqGuardType34, Try.stoodInHeld34, rfl, fun j τ h => by
    cases j with
    | zero => cases h; exact ⟨_, _, rfl, rfl, by decide, by decide, Try.underlying9, rfl, fun us h => by cases h⟩
    | succ j =>
     cases j with
     | zero => cases h; exact ⟨_, _, rfl, rfl, by decide, by decide, Try.underlying3, rfl, fun us h => by cases h⟩
     | succ j =>
      cases j with
      | zero => cases h; exact ⟨_, _, rfl, rfl, by decide, by decide, Try.underlying33, rfl, fun us h => by cases h⟩
      | succ j =>
       cases h⟩, (fun us hus fs hfs j τ h f hf => by
    cases hus
    rw [Try.underlying34] at hfs
    cases hfs
    cases j with
    | zero => cases h; cases hf; exact ⟨fun k e => (by cases e), fun e => (by cases e), fun _ => Try.underlying9⟩
    | succ j =>
     cases j with
     | zero => cases h; cases hf; exact ⟨fun k e => by cases e; exact Try.underlying3, fun e => (by cases e), fun e => (by cases e)⟩
     | succ j =>
      cases j with
      | zero => cases h; cases hf; exact ⟨fun k e => (by cases e), fun e => (by cases e), fun e => (by cases e)⟩
      | succ j =>
       cases h), Try.t34, rfl, rfl, fun _ _ => rfl⟩
theorem tn35 : TnOk Try.prog 35 (.st [.str, .int .i64, .sl 37 (.st [.int .i64, .sl 3 (.int .i64), .sl 3 (.int .i64)])]) := ⟨⟨_, Try.underlying35, Try.eqGuardType35, Try.stoodInHeld35, rfl, fun j τ h => by
    cases j with
    | zero => cases h; exact ⟨_, _, rfl, rfl, by decide, by decide, Try.underlying9, rfl, fun us h => by cases h⟩
    | succ j =>
     cases j with
     | zero => cases h; exact ⟨_, _, rfl, rfl, by decide, by decide, Try.underlying3, rfl, fun us h => by cases h⟩
     | succ j =>
      cases j with
      | zero => cases h; exact ⟨_, _, rfl, rfl, by decide, by decide, Try.underlying33, rfl, fun us h => by cases h⟩
      | succ j =>
       cases h⟩, (fun us hus fs hfs j τ h f hf => by
    cases hus
    rw [Try.underlying35] at hfs
    cases hfs
    cases j with
    | zero => cases h; cases hf; exact ⟨fun k e => (by cases e), fun e => (by cases e), fun _ => Try.underlying9⟩
    | succ j =>
     cases j with
     | zero => cases h; cases hf; exact ⟨fun k e => by cases e; exact Try.underlying3, fun e => (by cases e), fun e => (by cases e)⟩
     | succ j =>
      cases j with
      | zero => cases h; cases hf; exact ⟨fun k e => (by cases e), fun e => (by cases e), fun e => (by cases e)⟩
      | succ j =>
       cases h), Try.t35, rfl, rfl, fun _ _ => rfl⟩
theorem tn36 : TnOk Try.prog 36 (.st [.int .i64, .sl 3 (.int .i64), .sl 3 (.int .i64)]) := ⟨⟨_, Try.underlying36, Try.eqGuardType36, Try.stoodInHeld36, rfl, fun j τ h => by
    cases j with
    | zero => cases h; exact ⟨_, _, rfl, rfl, by decide, by decide, Try.underlying3, rfl, fun us h => by cases h⟩
    | succ j =>
     cases j with
     | zero => cases h; exact ⟨_, _, rfl, rfl, by decide, by decide, Try.underlying26, rfl, fun us h => by cases h⟩
     | succ j =>
      cases j with
      | zero => cases h; exact ⟨_, _, rfl, rfl, by decide, by decide, Try.underlying26, rfl, fun us h => by cases h⟩
      | succ j =>
       cases h⟩, (fun us hus fs hfs j τ h f hf => by
    cases hus
    rw [Try.underlying36] at hfs
    cases hfs
    cases j with
    | zero => cases h; cases hf; exact ⟨fun k e => by cases e; exact Try.underlying3, fun e => (by cases e), fun e => (by cases e)⟩
    | succ j =>
     cases j with
     | zero => cases h; cases hf; exact ⟨fun k e => (by cases e), fun e => (by cases e), fun e => (by cases e)⟩
     | succ j =>
      cases j with
      | zero => cases h; cases hf; exact ⟨fun k e => (by cases e), fun e => (by cases e), fun e => (by cases e)⟩
      | succ j =>
       cases h), Try.t36, rfl, rfl, fun _ _ => rfl⟩
theorem tn37 : TnOk Try.prog 37 (.st [.int .i64, .sl 3 (.int .i64), .sl 3 (.int .i64)]) := ⟨⟨_, Try.underlying37, Try.eqGuardType37, Try.stoodInHeld37, rfl, fun j τ h => by
    cases j with
    | zero => cases h; exact ⟨_, _, rfl, rfl, by decide, by decide, Try.underlying3, rfl, fun us h => by cases h⟩
    | succ j =>
     cases j with
     | zero => cases h; exact ⟨_, _, rfl, rfl, by decide, by decide, Try.underlying26, rfl, fun us h => by cases h⟩
     | succ j =>
      cases j with
      | zero => cases h; exact ⟨_, _, rfl, rfl, by decide, by decide, Try.underlying26, rfl, fun us h => by cases h⟩
      | succ j =>
       cases h⟩, (fun us hus fs hfs j τ h f hf => by
    cases hus
    rw [Try.underlying37] at hfs
    cases hfs
    cases j with
    | zero => cases h; cases hf; exact ⟨fun k e => by cases e; exact Try.underlying3, fun e => (by cases e), fun e => (by cases e)⟩
    | succ j =>
     cases j with
     | zero => cases h; cases hf; exact ⟨fun k e => (by cases e), fun e => (by cases e), fun e => (by cases e)⟩
     | succ j =>
      cases j with
      | zero => cases h; cases hf; exact ⟨fun k e => (by cases e), fun e => (by cases e), fun e => (by cases e)⟩
      | succ j =>
       cases h), Try.t37, rfl, rfl, fun _ _ => rfl⟩
theorem tn38 : TnOk Try.prog 38 (.fn [.sl 3 (.int .i64), .int .i64] (.bool)) := ⟨⟨_, _, _, Try.underlying38⟩, fun _ h => (by cases h), Try.t38, rfl, rfl, fun _ h => by cases h⟩
theorem tn39 : TnOk Try.prog 39 (.fn [.st [.int .i64, .sl 35 (.st [.str, .int .i64, .sl 37 (.st [.int .i64, .sl 3 (.int .i64), .sl 3 (.int .i64)])]), .sl 115 (.st [.int .i64, .int .i64, .bool, .int .i64]), .sl 44 (.st [.sl 176 (.st [.int .i64, .int .i64]), .sl 26 (.sl 3 (.int .i64))]), .sl 3 (.int .i64)], .st [.int .i64, .sl 35 (.st [.str, .int .i64, .sl 37 (.st [.int .i64, .sl 3 (.int .i64), .sl 3 (.int .i64)])]), .sl 115 (.st [.int .i64, .int .i64, .bool, .int .i64]), .sl 44 (.st [.sl 176 (.st [.int .i64, .int .i64]), .sl 26 (.sl 3 (.int .i64))]), .sl 3 (.int .i64)]] (.bool)) := ⟨⟨_, _, _, Try.underlying39⟩, fun _ h => (by cases h), Try.t39, rfl, rfl, fun _ h => by cases h⟩
theorem tn40 : TnOk Try.prog 40 (.fn [.st [.sl 176 (.st [.int .i64, .int .i64]), .sl 26 (.sl 3 (.int .i64))]] (.bool)) := ⟨⟨_, _, _, Try.underlying40⟩, fun _ h => (by cases h), Try.t40, rfl, rfl, fun _ h => by cases h⟩
theorem tn41 : TnOk Try.prog 41 (.sl 176 (.st [.int .i64, .int .i64])) := ⟨⟨Try.underlying41, Try.t176, _, rfl, rfl, rfl, rfl, by decide, by decide, fun _ _ => rfl, fun k h => by cases h⟩, fun _ h => (by cases h), Try.t41, rfl, rfl, fun _ _ => rfl⟩
theorem tn42 : TnOk Try.prog 42 (.sl 26 (.sl 3 (.int .i64))) := ⟨⟨Try.underlying42, Try.t26, _, rfl, rfl, rfl, rfl, by decide, by decide, fun _ _ => rfl, fun k h => by cases h⟩, fun _ h => (by cases h), Try.t42, rfl, rfl, fun _ _ => rfl⟩
theorem tn43 : TnOk Try.prog 43 (.st [.sl 176 (.st [.int .i64, .int .i64]), .sl 26 (.sl 3 (.int .i64))]) := ⟨⟨_, Try.underlying43, Try.eqGuardType43, Try.stoodInHeld43, rfl, fun j τ h => by
    cases j with
    | zero => cases h; exact ⟨_, _, rfl, rfl, by decide, by decide, Try.underlying41, rfl, fun us h => by cases h⟩
    | succ j =>
     cases j with
     | zero => cases h; exact ⟨_, _, rfl, rfl, by decide, by decide, Try.underlying42, rfl, fun us h => by cases h⟩
     | succ j =>
      cases h⟩, (fun us hus fs hfs j τ h f hf => by
    cases hus
    rw [Try.underlying43] at hfs
    cases hfs
    cases j with
    | zero => cases h; cases hf; exact ⟨fun k e => (by cases e), fun e => (by cases e), fun e => (by cases e)⟩
    | succ j =>
     cases j with
     | zero => cases h; cases hf; exact ⟨fun k e => (by cases e), fun e => (by cases e), fun e => (by cases e)⟩
     | succ j =>
      cases h), Try.t43, rfl, rfl, fun _ _ => rfl⟩
theorem tn44 : TnOk Try.prog 44 (.st [.sl 176 (.st [.int .i64, .int .i64]), .sl 26 (.sl 3 (.int .i64))]) := ⟨⟨_, Try.underlying44, Try.eqGuardType44, Try.stoodInHeld44, rfl, fun j τ h => by
    cases j with
    | zero => cases h; exact ⟨_, _, rfl, rfl, by decide, by decide, Try.underlying41, rfl, fun us h => by cases h⟩
    | succ j =>
     cases j with
     | zero => cases h; exact ⟨_, _, rfl, rfl, by decide, by decide, Try.underlying42, rfl, fun us h => by cases h⟩
     | succ j =>
      cases h⟩, (fun us hus fs hfs j τ h f hf => by
    cases hus
    rw [Try.underlying44] at hfs
    cases hfs
    cases j with
    | zero => cases h; cases hf; exact ⟨fun k e => (by cases e), fun e => (by cases e), fun e => (by cases e)⟩
    | succ j =>
     cases j with
     | zero => cases h; cases hf; exact ⟨fun k e => (by cases e), fun e => (by cases e), fun e => (by cases e)⟩
     | succ j =>
      cases h), Try.t44, rfl, rfl, fun _ _ => rfl⟩
theorem tn46 : TnOk Try.prog 46 (.fn [.st [.str, .int .i64, .sl 37 (.st [.int .i64, .sl 3 (.int .i64), .sl 3 (.int .i64)])], .st [.str, .int .i64, .sl 37 (.st [.int .i64, .sl 3 (.int .i64), .sl 3 (.int .i64)])]] (.bool)) := ⟨⟨_, _, _, Try.underlying46⟩, fun _ h => (by cases h), Try.t46, rfl, rfl, fun _ h => by cases h⟩
theorem tn86 : TnOk Try.prog 86 (.sl 194 (.st [.str, .int .i64, .sl 228 (.st [.int .i64, .sl 3 (.int .i64), .sl 3 (.int .i64)])])) := ⟨⟨Try.underlying86, Try.t194, _, rfl, rfl, rfl, rfl, by decide, by decide, fun _ _ => rfl, fun k h => by cases h⟩, fun _ h => (by cases h), Try.t86, rfl, rfl, fun _ _ => rfl⟩
theorem tn87 : TnOk Try.prog 87 (.sl 201 (.st [.int .i64, .int .i64, .bool, .int .i64])) := ⟨⟨Try.underlying87, Try.t201, _, rfl, rfl, rfl, rfl, by decide, by decide, fun _ _ => rfl, fun k h => by cases h⟩, fun _ h => (by cases h), Try.t87, rfl, rfl, fun _ _ => rfl⟩
theorem tn88 : TnOk Try.prog 88 (.sl 198 (.st [.sl 231 (.st [.int .i64, .int .i64]), .sl 26 (.sl 3 (.int .i64))])) := ⟨⟨Try.underlying88, Try.t198, _, rfl, rfl, rfl, rfl, by decide, by decide, fun _ _ => rfl, fun k h => by cases h⟩, fun _ h => (by cases h), Try.t88, rfl, rfl, fun _ _ => rfl⟩
theorem tn89 : TnOk Try.prog 89 (.st [.int .i64, .sl 194 (.st [.str, .int .i64, .sl 228 (.st [.int .i64, .sl 3 (.int .i64), .sl 3 (.int .i64)])]), .sl 201 (.st [.int .i64, .int .i64, .bool, .int .i64]), .sl 198 (.st [.sl 231 (.st [.int .i64, .int .i64]), .sl 26 (.sl 3 (.int .i64))]), .sl 3 (.int .i64)]) := ⟨⟨_, Try.underlying89, Try.eqGuardType89, Try.stoodInHeld89, rfl, fun j τ h => by
    cases j with
    | zero => cases h; exact ⟨_, _, rfl, rfl, by decide, by decide, Try.underlying3, rfl, fun us h => by cases h⟩
    | succ j =>
     cases j with
     | zero => cases h; exact ⟨_, _, rfl, rfl, by decide, by decide, Try.underlying86, rfl, fun us h => by cases h⟩
     | succ j =>
      cases j with
      | zero => cases h; exact ⟨_, _, rfl, rfl, by decide, by decide, Try.underlying87, rfl, fun us h => by cases h⟩
      | succ j =>
       cases j with
       | zero => cases h; exact ⟨_, _, rfl, rfl, by decide, by decide, Try.underlying88, rfl, fun us h => by cases h⟩
       | succ j =>
        cases j with
        | zero => cases h; exact ⟨_, _, rfl, rfl, by decide, by decide, Try.underlying26, rfl, fun us h => by cases h⟩
        | succ j =>
         cases h⟩, (fun us hus fs hfs j τ h f hf => by
    cases hus
    rw [Try.underlying89] at hfs
    cases hfs
    cases j with
    | zero => cases h; cases hf; exact ⟨fun k e => by cases e; exact Try.underlying3, fun e => (by cases e), fun e => (by cases e)⟩
    | succ j =>
     cases j with
     | zero => cases h; cases hf; exact ⟨fun k e => (by cases e), fun e => (by cases e), fun e => (by cases e)⟩
     | succ j =>
      cases j with
      | zero => cases h; cases hf; exact ⟨fun k e => (by cases e), fun e => (by cases e), fun e => (by cases e)⟩
      | succ j =>
       cases j with
       | zero => cases h; cases hf; exact ⟨fun k e => (by cases e), fun e => (by cases e), fun e => (by cases e)⟩
       | succ j =>
        cases j with
        | zero => cases h; cases hf; exact ⟨fun k e => (by cases e), fun e => (by cases e), fun e => (by cases e)⟩
        | succ j =>
         cases h), Try.t89, rfl, rfl, fun _ _ => rfl⟩
theorem tn90 : TnOk Try.prog 90 (.st [.int .i64, .sl 194 (.st [.str, .int .i64, .sl 228 (.st [.int .i64, .sl 3 (.int .i64), .sl 3 (.int .i64)])]), .sl 201 (.st [.int .i64, .int .i64, .bool, .int .i64]), .sl 198 (.st [.sl 231 (.st [.int .i64, .int .i64]), .sl 26 (.sl 3 (.int .i64))]), .sl 3 (.int .i64)]) := ⟨⟨_, Try.underlying90, Try.eqGuardType90, Try.stoodInHeld90, rfl, fun j τ h => by
    cases j with
    | zero => cases h; exact ⟨_, _, rfl, rfl, by decide, by decide, Try.underlying3, rfl, fun us h => by cases h⟩
    | succ j =>
     cases j with
     | zero => cases h; exact ⟨_, _, rfl, rfl, by decide, by decide, Try.underlying86, rfl, fun us h => by cases h⟩
     | succ j =>
      cases j with
      | zero => cases h; exact ⟨_, _, rfl, rfl, by decide, by decide, Try.underlying87, rfl, fun us h => by cases h⟩
      | succ j =>
       cases j with
       | zero => cases h; exact ⟨_, _, rfl, rfl, by decide, by decide, Try.underlying88, rfl, fun us h => by cases h⟩
       | succ j =>
        cases j with
        | zero => cases h; exact ⟨_, _, rfl, rfl, by decide, by decide, Try.underlying26, rfl, fun us h => by cases h⟩
        | succ j =>
         cases h⟩, (fun us hus fs hfs j τ h f hf => by
    cases hus
    rw [Try.underlying90] at hfs
    cases hfs
    cases j with
    | zero => cases h; cases hf; exact ⟨fun k e => by cases e; exact Try.underlying3, fun e => (by cases e), fun e => (by cases e)⟩
    | succ j =>
     cases j with
     | zero => cases h; cases hf; exact ⟨fun k e => (by cases e), fun e => (by cases e), fun e => (by cases e)⟩
     | succ j =>
      cases j with
      | zero => cases h; cases hf; exact ⟨fun k e => (by cases e), fun e => (by cases e), fun e => (by cases e)⟩
      | succ j =>
       cases j with
       | zero => cases h; cases hf; exact ⟨fun k e => (by cases e), fun e => (by cases e), fun e => (by cases e)⟩
       | succ j =>
        cases j with
        | zero => cases h; cases hf; exact ⟨fun k e => (by cases e), fun e => (by cases e), fun e => (by cases e)⟩
        | succ j =>
         cases h), Try.t90, rfl, rfl, fun _ _ => rfl⟩
theorem tn91 : TnOk Try.prog 91 (.st [.int .i64, .int .i64, .int .i64, .int .i64]) := ⟨⟨_, Try.underlying91, Try.eqGuardType91, Try.stoodInHeld91, rfl, fun j τ h => by
    cases j with
    | zero => cases h; exact ⟨_, _, rfl, rfl, by decide, by decide, Try.underlying3, rfl, fun us h => by cases h⟩
    | succ j =>
     cases j with
     | zero => cases h; exact ⟨_, _, rfl, rfl, by decide, by decide, Try.underlying3, rfl, fun us h => by cases h⟩
     | succ j =>
      cases j with
      | zero => cases h; exact ⟨_, _, rfl, rfl, by decide, by decide, Try.underlying3, rfl, fun us h => by cases h⟩
      | succ j =>
       cases j with
       | zero => cases h; exact ⟨_, _, rfl, rfl, by decide, by decide, Try.underlying3, rfl, fun us h => by cases h⟩
       | succ j =>
        cases h⟩, (fun us hus fs hfs j τ h f hf => by
    cases hus
    rw [Try.underlying91] at hfs
    cases hfs
    cases j with
    | zero => cases h; cases hf; exact ⟨fun k e => by cases e; exact Try.underlying3, fun e => (by cases e), fun e => (by cases e)⟩
    | succ j =>
     cases j with
     | zero => cases h; cases hf; exact ⟨fun k e => by cases e; exact Try.underlying3, fun e => (by cases e), fun e => (by cases e)⟩
     | succ j =>
      cases j with
      | zero => cases h; cases hf; exact ⟨fun k e => by cases e; exact Try.underlying3, fun e => (by cases e), fun e => (by cases e)⟩
      | succ j =>
       cases j with
       | zero => cases h; cases hf; exact ⟨fun k e => by cases e; exact Try.underlying3, fun e => (by cases e), fun e => (by cases e)⟩
       | succ j =>
        cases h), Try.t91, rfl, rfl, fun _ _ => rfl⟩
theorem tn92 : TnOk Try.prog 92 (.st [.int .i64, .int .i64, .int .i64, .int .i64]) := ⟨⟨_, Try.underlying92, Try.eqGuardType92, Try.stoodInHeld92, rfl, fun j τ h => by
    cases j with
    | zero => cases h; exact ⟨_, _, rfl, rfl, by decide, by decide, Try.underlying3, rfl, fun us h => by cases h⟩
    | succ j =>
     cases j with
     | zero => cases h; exact ⟨_, _, rfl, rfl, by decide, by decide, Try.underlying3, rfl, fun us h => by cases h⟩
     | succ j =>
      cases j with
      | zero => cases h; exact ⟨_, _, rfl, rfl, by decide, by decide, Try.underlying3, rfl, fun us h => by cases h⟩
      | succ j =>
       cases j with
       | zero => cases h; exact ⟨_, _, rfl, rfl, by decide, by decide, Try.underlying3, rfl, fun us h => by cases h⟩
       | succ j =>
        cases h⟩, (fun us hus fs hfs j τ h f hf => by
    cases hus
    rw [Try.underlying92] at hfs
    cases hfs
    cases j with
    | zero => cases h; cases hf; exact ⟨fun k e => by cases e; exact Try.underlying3, fun e => (by cases e), fun e => (by cases e)⟩
    | succ j =>
     cases j with
     | zero => cases h; cases hf; exact ⟨fun k e => by cases e; exact Try.underlying3, fun e => (by cases e), fun e => (by cases e)⟩
     | succ j =>
      cases j with
      | zero => cases h; cases hf; exact ⟨fun k e => by cases e; exact Try.underlying3, fun e => (by cases e), fun e => (by cases e)⟩
      | succ j =>
       cases j with
       | zero => cases h; cases hf; exact ⟨fun k e => by cases e; exact Try.underlying3, fun e => (by cases e), fun e => (by cases e)⟩
       | succ j =>
        cases h), Try.t92, rfl, rfl, fun _ _ => rfl⟩
theorem tn93 : TnOk Try.prog 93 (.fn [.st [.int .i64, .sl 194 (.st [.str, .int .i64, .sl 228 (.st [.int .i64, .sl 3 (.int .i64), .sl 3 (.int .i64)])]), .sl 201 (.st [.int .i64, .int .i64, .bool, .int .i64]), .sl 198 (.st [.sl 231 (.st [.int .i64, .int .i64]), .sl 26 (.sl 3 (.int .i64))]), .sl 3 (.int .i64)], .int .i64] (.int .i64)) := ⟨⟨_, _, _, Try.underlying93⟩, fun _ h => (by cases h), Try.t93, rfl, rfl, fun _ h => by cases h⟩
theorem tn94 : TnOk Try.prog 94 (.fn [.st [.int .i64, .sl 35 (.st [.str, .int .i64, .sl 37 (.st [.int .i64, .sl 3 (.int .i64), .sl 3 (.int .i64)])]), .sl 115 (.st [.int .i64, .int .i64, .bool, .int .i64]), .sl 44 (.st [.sl 176 (.st [.int .i64, .int .i64]), .sl 26 (.sl 3 (.int .i64))]), .sl 3 (.int .i64)], .st [.int .i64, .int .i64, .int .i64, .int .i64]] (.bool)) := ⟨⟨_, _, _, Try.underlying94⟩, fun _ h => (by cases h), Try.t94, rfl, rfl, fun _ h => by cases h⟩
theorem tn95 : TnOk Try.prog 95 (.fn [.st [.int .i64, .sl 194 (.st [.str, .int .i64, .sl 228 (.st [.int .i64, .sl 3 (.int .i64), .sl 3 (.int .i64)])]), .sl 201 (.st [.int .i64, .int .i64, .bool, .int .i64]), .sl 198 (.st [.sl 231 (.st [.int .i64, .int .i64]), .sl 26 (.sl 3 (.int .i64))]), .sl 3 (.int .i64)]] (.st [.int .i64, .sl 35 (.st [.str, .int .i64, .sl 37 (.st [.int .i64, .sl 3 (.int .i64), .sl 3 (.int .i64)])]), .sl 115 (.st [.int .i64, .int .i64, .bool, .int .i64]), .sl 44 (.st [.sl 176 (.st [.int .i64, .int .i64]), .sl 26 (.sl 3 (.int .i64))]), .sl 3 (.int .i64)])) := ⟨⟨_, _, _, Try.underlying95⟩, fun _ h => (by cases h), Try.t95, rfl, rfl, fun _ h => by cases h⟩
theorem tn96 : TnOk Try.prog 96 (.st [.int .i64, .int .i64, .int .i64, .int .i64]) := ⟨⟨_, Try.underlying96, Try.eqGuardType96, Try.stoodInHeld96, rfl, fun j τ h => by
    cases j with
    | zero => cases h; exact ⟨_, _, rfl, rfl, by decide, by decide, Try.underlying3, rfl, fun us h => by cases h⟩
    | succ j =>
     cases j with
     | zero => cases h; exact ⟨_, _, rfl, rfl, by decide, by decide, Try.underlying3, rfl, fun us h => by cases h⟩
     | succ j =>
      cases j with
      | zero => cases h; exact ⟨_, _, rfl, rfl, by decide, by decide, Try.underlying3, rfl, fun us h => by cases h⟩
      | succ j =>
       cases j with
       | zero => cases h; exact ⟨_, _, rfl, rfl, by decide, by decide, Try.underlying3, rfl, fun us h => by cases h⟩
       | succ j =>
        cases h⟩, (fun us hus fs hfs j τ h f hf => by
    cases hus
    rw [Try.underlying96] at hfs
    cases hfs
    cases j with
    | zero => cases h; cases hf; exact ⟨fun k e => by cases e; exact Try.underlying3, fun e => (by cases e), fun e => (by cases e)⟩
    | succ j =>
     cases j with
     | zero => cases h; cases hf; exact ⟨fun k e => by cases e; exact Try.underlying3, fun e => (by cases e), fun e => (by cases e)⟩
     | succ j =>
      cases j with
      | zero => cases h; cases hf; exact ⟨fun k e => by cases e; exact Try.underlying3, fun e => (by cases e), fun e => (by cases e)⟩
      | succ j =>
       cases j with
       | zero => cases h; cases hf; exact ⟨fun k e => by cases e; exact Try.underlying3, fun e => (by cases e), fun e => (by cases e)⟩
       | succ j =>
        cases h), Try.t96, rfl, rfl, fun _ _ => rfl⟩
theorem tn97 : TnOk Try.prog 97 (.fn [.st [.int .i64, .int .i64, .int .i64, .int .i64]] (.st [.int .i64, .int .i64, .int .i64, .int .i64])) := ⟨⟨_, _, _, Try.underlying97⟩, fun _ h => (by cases h), Try.t97, rfl, rfl, fun _ h => by cases h⟩
theorem tn98 : TnOk Try.prog 98 (.fn [.st [.int .i64, .sl 194 (.st [.str, .int .i64, .sl 228 (.st [.int .i64, .sl 3 (.int .i64), .sl 3 (.int .i64)])]), .sl 201 (.st [.int .i64, .int .i64, .bool, .int .i64]), .sl 198 (.st [.sl 231 (.st [.int .i64, .int .i64]), .sl 26 (.sl 3 (.int .i64))]), .sl 3 (.int .i64)], .st [.int .i64, .int .i64, .int .i64, .int .i64]] (.bool)) := ⟨⟨_, _, _, Try.underlying98⟩, fun _ h => (by cases h), Try.t98, rfl, rfl, fun _ h => by cases h⟩
theorem tn107 : TnOk Try.prog 107 (.fn [.st [.int .i64, .sl 35 (.st [.str, .int .i64, .sl 37 (.st [.int .i64, .sl 3 (.int .i64), .sl 3 (.int .i64)])]), .sl 115 (.st [.int .i64, .int .i64, .bool, .int .i64]), .sl 44 (.st [.sl 176 (.st [.int .i64, .int .i64]), .sl 26 (.sl 3 (.int .i64))]), .sl 3 (.int .i64)]] (.bool)) := ⟨⟨_, _, _, Try.underlying107⟩, fun _ h => (by cases h), Try.t107, rfl, rfl, fun _ h => by cases h⟩
theorem tn108 : TnOk Try.prog 108 (.fn [.int .i64] (.bool)) := ⟨⟨_, _, _, Try.underlying108⟩, fun _ h => (by cases h), Try.t108, rfl, rfl, fun _ h => by cases h⟩
theorem tn113 : TnOk Try.prog 113 (.fn [.sl 115 (.st [.int .i64, .int .i64, .bool, .int .i64]), .sl 115 (.st [.int .i64, .int .i64, .bool, .int .i64])] (.bool)) := ⟨⟨_, _, _, Try.underlying113⟩, fun _ h => (by cases h), Try.t113, rfl, rfl, fun _ h => by cases h⟩
theorem tn114 : TnOk Try.prog 114 (.st [.int .i64, .int .i64, .bool, .int .i64]) := ⟨⟨_, Try.underlying114, Try.eqGuardType114, Try.stoodInHeld114, rfl, fun j τ h => by
    cases j with
    | zero => cases h; exact ⟨_, _, rfl, rfl, by decide, by decide, Try.underlying3, rfl, fun us h => by cases h⟩
    | succ j =>
     cases j with
     | zero => cases h; exact ⟨_, _, rfl, rfl, by decide, by decide, Try.underlying3, rfl, fun us h => by cases h⟩
     | succ j =>
      cases j with
      | zero => cases h; exact ⟨_, _, rfl, rfl, by decide, by decide, Try.underlying4, rfl, fun us h => by cases h⟩
      | succ j =>
       cases j with
       | zero => cases h; exact ⟨_, _, rfl, rfl, by decide, by decide, Try.underlying3, rfl, fun us h => by cases h⟩
       | succ j =>
        cases h⟩, (fun us hus fs hfs j τ h f hf => by
    cases hus
    rw [Try.underlying114] at hfs
    cases hfs
    cases j with
    | zero => cases h; cases hf; exact ⟨fun k e => by cases e; exact Try.underlying3, fun e => (by cases e), fun e => (by cases e)⟩
    | succ j =>
     cases j with
     | zero => cases h; cases hf; exact ⟨fun k e => by cases e; exact Try.underlying3, fun e => (by cases e), fun e => (by cases e)⟩
     | succ j =>
      cases j with
      | zero => cases h; cases hf; exact ⟨fun k e => (by cases e), fun _ => Try.underlying4, fun e => (by cases e)⟩
      | succ j =>
       cases j with
       | zero => cases h; cases hf; exact ⟨fun k e => by cases e; exact Try.underlying3, fun e => (by cases e), fun e => (by cases e)⟩
       | succ j =>
        cases h), Try.t114, rfl, rfl, fun _ _ => rfl⟩
theorem tn115 : TnOk Try.prog 115 (.st [.int .i64, .int .i64, .bool, .int .i64]) := ⟨⟨_, Try.underlying115, Try.eqGuardType115, Try.stoodInHeld115, rfl, fun j τ h => by
    cases j with
    | zero => cases h; exact ⟨_, _, rfl, rfl, by decide, by decide, Try.underlying3, rfl, fun us h => by cases h⟩
    | succ j =>
     cases j with
     | zero => cases h; exact ⟨_, _, rfl, rfl, by decide, by decide, Try.underlying3, rfl, fun us h => by cases h⟩
     | succ j =>
      cases j with
      | zero => cases h; exact ⟨_, _, rfl, rfl, by decide, by decide, Try.underlying4, rfl, fun us h => by cases h⟩
      | succ j =>
       cases j with
       | zero => cases h; exact ⟨_, _, rfl, rfl, by decide, by decide, Try.underlying3, rfl, fun us h => by cases h⟩
       | succ j =>
        cases h⟩, (fun us hus fs hfs j τ h f hf => by
    cases hus
    rw [Try.underlying115] at hfs
    cases hfs
    cases j with
    | zero => cases h; cases hf; exact ⟨fun k e => by cases e; exact Try.underlying3, fun e => (by cases e), fun e => (by cases e)⟩
    | succ j =>
     cases j with
     | zero => cases h; cases hf; exact ⟨fun k e => by cases e; exact Try.underlying3, fun e => (by cases e), fun e => (by cases e)⟩
     | succ j =>
      cases j with
      | zero => cases h; cases hf; exact ⟨fun k e => (by cases e), fun _ => Try.underlying4, fun e => (by cases e)⟩
      | succ j =>
       cases j with
       | zero => cases h; cases hf; exact ⟨fun k e => by cases e; exact Try.underlying3, fun e => (by cases e), fun e => (by cases e)⟩
       | succ j =>
        cases h), Try.t115, rfl, rfl, fun _ _ => rfl⟩
theorem tn117 : TnOk Try.prog 117 (.fn [.st [.sl 176 (.st [.int .i64, .int .i64]), .sl 26 (.sl 3 (.int .i64))], .st [.sl 176 (.st [.int .i64, .int .i64]), .sl 26 (.sl 3 (.int .i64))]] (.bool)) := ⟨⟨_, _, _, Try.underlying117⟩, fun _ h => (by cases h), Try.t117, rfl, rfl, fun _ h => by cases h⟩
theorem tn118 : TnOk Try.prog 118 (.fn [.sl 3 (.int .i64), .sl 3 (.int .i64)] (.bool)) := ⟨⟨_, _, _, Try.underlying118⟩, fun _ h => (by cases h), Try.t118, rfl, rfl, fun _ h => by cases h⟩
theorem tn119 : TnOk Try.prog 119 (.fn [.int .i64, .int .i64, .int .i64] (.bool)) := ⟨⟨_, _, _, Try.underlying119⟩, fun _ h => (by cases h), Try.t119, rfl, rfl, fun _ h => by cases h⟩
theorem tn120 : TnOk Try.prog 120 (.fn [.sl 176 (.st [.int .i64, .int .i64])] (.bool)) := ⟨⟨_, _, _, Try.underlying120⟩, fun _ h => (by cases h), Try.t120, rfl, rfl, fun _ h => by cases h⟩
theorem tn122 : TnOk Try.prog 122 (.fn [.st [.int .i64, .sl 3 (.int .i64), .sl 3 (.int .i64)], .st [.int .i64, .sl 3 (.int .i64), .sl 3 (.int .i64)]] (.bool)) := ⟨⟨_, _, _, Try.underlying122⟩, fun _ h => (by cases h), Try.t122, rfl, rfl, fun _ h => by cases h⟩
theorem tn132 : TnOk Try.prog 132 (.fn [.sl 3 (.int .i64), .int .i64] (.int .i64)) := ⟨⟨_, _, _, Try.underlying132⟩, fun _ h => (by cases h), Try.t132, rfl, rfl, fun _ h => by cases h⟩
theorem tn133 : TnOk Try.prog 133 (.fn [.sl 26 (.sl 3 (.int .i64)), .int .i64] (.int .i64)) := ⟨⟨_, _, _, Try.underlying133⟩, fun _ h => (by cases h), Try.t133, rfl, rfl, fun _ h => by cases h⟩
theorem tn140 : TnOk Try.prog 140 (.fn [.sl 3 (.int .i64)] (.sl 3 (.int .i64))) := ⟨⟨_, _, _, Try.underlying140⟩, fun _ h => (by cases h), Try.t140, rfl, rfl, fun _ h => by cases h⟩
theorem tn141 : TnOk Try.prog 141 (.fn [.sl 26 (.sl 3 (.int .i64))] (.sl 26 (.sl 3 (.int .i64)))) := ⟨⟨_, _, _, Try.underlying141⟩, fun _ h => (by cases h), Try.t141, rfl, rfl, fun _ h => by cases h⟩
theorem tn144 : TnOk Try.prog 144 (.fn [.sl 26 (.sl 3 (.int .i64)), .sl 26 (.sl 3 (.int .i64))] (.bool)) := ⟨⟨_, _, _, Try.underlying144⟩, fun _ h => (by cases h), Try.t144, rfl, rfl, fun _ h => by cases h⟩
theorem tn155 : TnOk Try.prog 155 (.fn [.sl 194 (.st [.str, .int .i64, .sl 228 (.st [.int .i64, .sl 3 (.int .i64), .sl 3 (.int .i64)])]), .int .i64] (.int .i64)) := ⟨⟨_, _, _, Try.underlying155⟩, fun _ h => (by cases h), Try.t155, rfl, rfl, fun _ h => by cases h⟩
theorem tn156 : TnOk Try.prog 156 (.fn [.sl 201 (.st [.int .i64, .int .i64, .bool, .int .i64]), .int .i64] (.int .i64)) := ⟨⟨_, _, _, Try.underlying156⟩, fun _ h => (by cases h), Try.t156, rfl, rfl, fun _ h => by cases h⟩
theorem tn157 : TnOk Try.prog 157 (.fn [.sl 198 (.st [.sl 231 (.st [.int .i64, .int .i64]), .sl 26 (.sl 3 (.int .i64))]), .int .i64] (.int .i64)) := ⟨⟨_, _, _, Try.underlying157⟩, fun _ h => (by cases h), Try.t157, rfl, rfl, fun _ h => by cases h⟩
theorem tn158 : TnOk Try.prog 158 (.fn [.sl 194 (.st [.str, .int .i64, .sl 228 (.st [.int .i64, .sl 3 (.int .i64), .sl 3 (.int .i64)])])] (.sl 35 (.st [.str, .int .i64, .sl 37 (.st [.int .i64, .sl 3 (.int .i64), .sl 3 (.int .i64)])]))) := ⟨⟨_, _, _, Try.underlying158⟩, fun _ h => (by cases h), Try.t158, rfl, rfl, fun _ h => by cases h⟩
theorem tn159 : TnOk Try.prog 159 (.fn [.sl 201 (.st [.int .i64, .int .i64, .bool, .int .i64])] (.sl 115 (.st [.int .i64, .int .i64, .bool, .int .i64]))) := ⟨⟨_, _, _, Try.underlying159⟩, fun _ h => (by cases h), Try.t159, rfl, rfl, fun _ h => by cases h⟩
theorem tn160 : TnOk Try.prog 160 (.fn [.sl 198 (.st [.sl 231 (.st [.int .i64, .int .i64]), .sl 26 (.sl 3 (.int .i64))])] (.sl 44 (.st [.sl 176 (.st [.int .i64, .int .i64]), .sl 26 (.sl 3 (.int .i64))]))) := ⟨⟨_, _, _, Try.underlying160⟩, fun _ h => (by cases h), Try.t160, rfl, rfl, fun _ h => by cases h⟩
theorem tn161 : TnOk Try.prog 161 (.fn [.sl 35 (.st [.str, .int .i64, .sl 37 (.st [.int .i64, .sl 3 (.int .i64), .sl 3 (.int .i64)])]), .sl 35 (.st [.str, .int .i64, .sl 37 (.st [.int .i64, .sl 3 (.int .i64), .sl 3 (.int .i64)])])] (.bool)) := ⟨⟨_, _, _, Try.underlying161⟩, fun _ h => (by cases h), Try.t161, rfl, rfl, fun _ h => by cases h⟩
theorem tn162 : TnOk Try.prog 162 (.fn [.sl 44 (.st [.sl 176 (.st [.int .i64, .int .i64]), .sl 26 (.sl 3 (.int .i64))]), .sl 44 (.st [.sl 176 (.st [.int .i64, .int .i64]), .sl 26 (.sl 3 (.int .i64))])] (.bool)) := ⟨⟨_, _, _, Try.underlying162⟩, fun _ h => (by cases h), Try.t162, rfl, rfl, fun _ h => by cases h⟩
theorem tn168 : TnOk Try.prog 168 (.fn [.st [.str, .int .i64, .sl 37 (.st [.int .i64, .sl 3 (.int .i64), .sl 3 (.int .i64)])], .int .i64, .int .i64] (.bool)) := ⟨⟨_, _, _, Try.underlying168⟩, fun _ h => (by cases h), Try.t168, rfl, rfl, fun _ h => by cases h⟩
theorem tn169 : TnOk Try.prog 169 (.fn [.st [.int .i64, .sl 35 (.st [.str, .int .i64, .sl 37 (.st [.int .i64, .sl 3 (.int .i64), .sl 3 (.int .i64)])]), .sl 115 (.st [.int .i64, .int .i64, .bool, .int .i64]), .sl 44 (.st [.sl 176 (.st [.int .i64, .int .i64]), .sl 26 (.sl 3 (.int .i64))]), .sl 3 (.int .i64)], .str] (.int .i64)) := ⟨⟨_, _, _, Try.underlying169⟩, fun _ h => (by cases h), Try.t169, rfl, rfl, fun _ h => by cases h⟩
theorem tn170 : TnOk Try.prog 170 (.fn [.sl 115 (.st [.int .i64, .int .i64, .bool, .int .i64]), .fn [.st [.int .i64, .int .i64, .bool, .int .i64]] (.bool)] (.bool)) := ⟨⟨_, _, _, Try.underlying170⟩, fun _ h => (by cases h), Try.t170, rfl, rfl, fun _ h => by cases h⟩
theorem tn171 : TnOk Try.prog 171 (.fn [.st [.int .i64, .int .i64, .bool, .int .i64]] (.bool)) := ⟨⟨_, _, _, Try.underlying171⟩, fun _ h => (by cases h), Try.t171, rfl, rfl, fun _ h => by cases h⟩
theorem tn175 : TnOk Try.prog 175 (.st [.int .i64, .int .i64]) := ⟨⟨_, Try.underlying175, Try.eqGuardType175, Try.stoodInHeld175, rfl, fun j τ h => by
    cases j with
    | zero => cases h; exact ⟨_, _, rfl, rfl, by decide, by decide, Try.underlying3, rfl, fun us h => by cases h⟩
    | succ j =>
     cases j with
     | zero => cases h; exact ⟨_, _, rfl, rfl, by decide, by decide, Try.underlying3, rfl, fun us h => by cases h⟩
     | succ j =>
      cases h⟩, (fun us hus fs hfs j τ h f hf => by
    cases hus
    rw [Try.underlying175] at hfs
    cases hfs
    cases j with
    | zero => cases h; cases hf; exact ⟨fun k e => by cases e; exact Try.underlying3, fun e => (by cases e), fun e => (by cases e)⟩
    | succ j =>
     cases j with
     | zero => cases h; cases hf; exact ⟨fun k e => by cases e; exact Try.underlying3, fun e => (by cases e), fun e => (by cases e)⟩
     | succ j =>
      cases h), Try.t175, rfl, rfl, fun _ _ => rfl⟩
theorem tn176 : TnOk Try.prog 176 (.st [.int .i64, .int .i64]) := ⟨⟨_, Try.underlying176, Try.eqGuardType176, Try.stoodInHeld176, rfl, fun j τ h => by
    cases j with
    | zero => cases h; exact ⟨_, _, rfl, rfl, by decide, by decide, Try.underlying3, rfl, fun us h => by cases h⟩
    | succ j =>
     cases j with
     | zero => cases h; exact ⟨_, _, rfl, rfl, by decide, by decide, Try.underlying3, rfl, fun us h => by cases h⟩
     | succ j =>
      cases h⟩, (fun us hus fs hfs j τ h f hf => by
    cases hus
    rw [Try.underlying176] at hfs
    cases hfs
    cases j with
    | zero => cases h; cases hf; exact ⟨fun k e => by cases e; exact Try.underlying3, fun e => (by cases e), fun e => (by cases e)⟩
    | succ j =>
     cases j with
     | zero => cases h; cases hf; exact ⟨fun k e => by cases e; exact Try.underlying3, fun e => (by cases e), fun e => (by cases e)⟩
     | succ j =>
      cases h), Try.t176, rfl, rfl, fun _ _ => rfl⟩
theorem tn177 : TnOk Try.prog 177 (.fn [.sl 176 (.st [.int .i64, .int .i64]), .sl 176 (.st [.int .i64, .int .i64])] (.bool)) := ⟨⟨_, _, _, Try.underlying177⟩, fun _ h => (by cases h), Try.t177, rfl, rfl, fun _ h => by cases h⟩
theorem tn191 : TnOk Try.prog 191 (.fn [.st [.str, .int .i64, .sl 228 (.st [.int .i64, .sl 3 (.int .i64), .sl 3 (.int .i64)])], .int .i64] (.int .i64)) := ⟨⟨_, _, _, Try.underlying191⟩, fun _ h => (by cases h), Try.t191, rfl, rfl, fun _ h => by cases h⟩
theorem tn192 : TnOk Try.prog 192 (.sl 228 (.st [.int .i64, .sl 3 (.int .i64), .sl 3 (.int .i64)])) := ⟨⟨Try.underlying192, Try.t228, _, rfl, rfl, rfl, rfl, by decide, by decide, fun _ _ => rfl, fun k h => by cases h⟩, fun _ h => (by cases h), Try.t192, rfl, rfl, fun _ _ => rfl⟩
theorem tn193 : TnOk Try.prog 193 (.st [.str, .int .i64, .sl 228 (.st [.int .i64, .sl 3 (.int .i64), .sl 3 (.int .i64)])]) := ⟨⟨_, Try.underlying193, Try.eqGuardType193, Try.stoodInHeld193, rfl, fun j τ h => by
    cases j with
    | zero => cases h; exact ⟨_, _, rfl, rfl, by decide, by decide, Try.underlying9, rfl, fun us h => by cases h⟩
    | succ j =>
     cases j with
     | zero => cases h; exact ⟨_, _, rfl, rfl, by decide, by decide, Try.underlying3, rfl, fun us h => by cases h⟩
     | succ j =>
      cases j with
      | zero => cases h; exact ⟨_, _, rfl, rfl, by decide, by decide, Try.underlying192, rfl, fun us h => by cases h⟩
      | succ j =>
       cases h⟩, (fun us hus fs hfs j τ h f hf => by
    cases hus
    rw [Try.underlying193] at hfs
    cases hfs
    cases j with
    | zero => cases h; cases hf; exact ⟨fun k e => (by cases e), fun e => (by cases e), fun _ => Try.underlying9⟩
    | succ j =>
     cases j with
     | zero => cases h; cases hf; exact ⟨fun k e => by cases e; exact Try.underlying3, fun e => (by cases e), fun e => (by cases e)⟩
     | succ j =>
      cases j with
      | zero => cases h; cases hf; exact ⟨fun k e => (by cases e), fun e => (by cases e), fun e => (by cases e)⟩
      | succ j =>
       cases h), Try.t193, rfl, rfl, fun _ _ => rfl⟩
theorem tn194 : TnOk Try.prog 194 (.st [.str, .int .i64, .sl 228 (.st [.int .i64, .sl 3 (.int .i64), .sl 3 (.int .i64)])]) := ⟨⟨_, Try.underlying194, Try.eqGuardType194, Try.stoodInHeld194, rfl, fun j τ h => by
    cases j with
    | zero => cases h; exact ⟨_, _, rfl, rfl, by decide, by decide, Try.underlying9, rfl, fun us h => by cases h⟩
    | succ j =>
     cases j with
     | zero => cases h; exact ⟨_, _, rfl, rfl, by decide, by decide, Try.underlying3, rfl, fun us h => by cases h⟩
     | succ j =>
      cases j with
      | zero => cases h; exact ⟨_, _, rfl, rfl, by decide, by decide, Try.underlying192, rfl, fun us h => by cases h⟩
      | succ j =>
       cases h⟩, (fun us hus fs hfs j τ h f hf => by
    cases hus
    rw [Try.underlying194] at hfs
    cases hfs
    cases j with
    | zero => cases h; cases hf; exact ⟨fun k e => (by cases e), fun e => (by cases e), fun _ => Try.underlying9⟩
    | succ j =>
     cases j with
     | zero => cases h; cases hf; exact ⟨fun k e => by cases e; exact Try.underlying3, fun e => (by cases e), fun e => (by cases e)⟩
     | succ j =>
      cases j with
      | zero => cases h; cases hf; exact ⟨fun k e => (by cases e), fun e => (by cases e), fun e => (by cases e)⟩
      | succ j =>
       cases h), Try.t194, rfl, rfl, fun _ _ => rfl⟩
theorem tn195 : TnOk Try.prog 195 (.fn [.st [.sl 231 (.st [.int .i64, .int .i64]), .sl 26 (.sl 3 (.int .i64))], .int .i64] (.int .i64)) := ⟨⟨_, _, _, Try.underlying195⟩, fun _ h => (by cases h), Try.t195, rfl, rfl, fun _ h => by cases h⟩
theorem tn196 : TnOk Try.prog 196 (.sl 231 (.st [.int .i64, .int .i64])) := ⟨⟨Try.underlying196, Try.t231, _, rfl, rfl, rfl, rfl, by decide, by decide, fun _ _ => rfl, fun k h => by cases h⟩, fun _ h => (by cases h), Try.t196, rfl, rfl, fun _ _ => rfl⟩
theorem tn197 : TnOk Try.prog 197 (.st [.sl 231 (.st [.int .i64, .int .i64]), .sl 26 (.sl 3 (.int .i64))]) := ⟨⟨_, Try.underlying197, Try.eqGuardType197, Try.stoodInHeld197, rfl, fun j τ h => by
    cases j with
    | zero => cases h; exact ⟨_, _, rfl, rfl, by decide, by decide, Try.underlying196, rfl, fun us h => by cases h⟩
    | succ j =>
     cases j with
     | zero => cases h; exact ⟨_, _, rfl, rfl, by decide, by decide, Try.underlying42, rfl, fun us h => by cases h⟩
     | succ j =>
      cases h⟩, (fun us hus fs hfs j τ h f hf => by
    cases hus
    rw [Try.underlying197] at hfs
    cases hfs
    cases j with
    | zero => cases h; cases hf; exact ⟨fun k e => (by cases e), fun e => (by cases e), fun e => (by cases e)⟩
    | succ j =>
     cases j with
     | zero => cases h; cases hf; exact ⟨fun k e => (by cases e), fun e => (by cases e), fun e => (by cases e)⟩
     | succ j =>
      cases h), Try.t197, rfl, rfl, fun _ _ => rfl⟩
theorem tn198 : TnOk Try.prog 198 (.st [.sl 231 (.st [.int .i64, .int .i64]), .sl 26 (.sl 3 (.int .i64))]) := ⟨⟨_, Try.underlying198, Try.eqGuardType198, Try.stoodInHeld198, rfl, fun j τ h => by
    cases j with
    | zero => cases h; exact ⟨_, _, rfl, rfl, by decide, by decide, Try.underlying196, rfl, fun us h => by cases h⟩
    | succ j =>
     cases j with
     | zero => cases h; exact ⟨_, _, rfl, rfl, by decide, by decide, Try.underlying42, rfl, fun us h => by cases h⟩
     | succ j =>
      cases h⟩, (fun us hus fs hfs j τ h f hf => by
    cases hus
    rw [Try.underlying198] at hfs
    cases hfs
    cases j with
    | zero => cases h; cases hf; exact ⟨fun k e => (by cases e), fun e => (by cases e), fun e => (by cases e)⟩
    | succ j =>
     cases j with
     | zero => cases h; cases hf; exact ⟨fun k e => (by cases e), fun e => (by cases e), fun e => (by cases e)⟩
     | succ j =>
      cases h), Try.t198, rfl, rfl, fun _ _ => rfl⟩
theorem tn199 : TnOk Try.prog 199 (.fn [.st [.str, .int .i64, .sl 228 (.st [.int .i64, .sl 3 (.int .i64), .sl 3 (.int .i64)])]] (.st [.str, .int .i64, .sl 37 (.st [.int .i64, .sl 3 (.int .i64), .sl 3 (.int .i64)])])) := ⟨⟨_, _, _, Try.underlying199⟩, fun _ h => (by cases h), Try.t199, rfl, rfl, fun _ h => by cases h⟩
theorem tn200 : TnOk Try.prog 200 (.fn [.st [.int .i64, .int .i64, .bool, .int .i64]] (.st [.int .i64, .int .i64, .bool, .int .i64])) := ⟨⟨_, _, _, Try.underlying200⟩, fun _ h => (by cases h), Try.t200, rfl, rfl, fun _ h => by cases h⟩
theorem tn201 : TnOk Try.prog 201 (.st [.int .i64, .int .i64, .bool, .int .i64]) := ⟨⟨_, Try.underlying201, Try.eqGuardType201, Try.stoodInHeld201, rfl, fun j τ h => by
    cases j with
    | zero => cases h; exact ⟨_, _, rfl, rfl, by decide, by decide, Try.underlying3, rfl, fun us h => by cases h⟩
    | succ j =>
     cases j with
     | zero => cases h; exact ⟨_, _, rfl, rfl, by decide, by decide, Try.underlying3, rfl, fun us h => by cases h⟩
     | succ j =>
      cases j with
      | zero => cases h; exact ⟨_, _, rfl, rfl, by decide, by decide, Try.underlying4, rfl, fun us h => by cases h⟩
      | succ j =>
       cases j with
       | zero => cases h; exact ⟨_, _, rfl, rfl, by decide, by decide, Try.underlying3, rfl, fun us h => by cases h⟩
       | succ j =>
        cases h⟩, (fun us hus fs hfs j τ h f hf => by
    cases hus
    rw [Try.underlying201] at hfs
    cases hfs
    cases j with
    | zero => cases h; cases hf; exact ⟨fun k e => by cases e; exact Try.underlying3, fun e => (by cases e), fun e => (by cases e)⟩
    | succ j =>
     cases j with
     | zero => cases h; cases hf; exact ⟨fun k e => by cases e; exact Try.underlying3, fun e => (by cases e), fun e => (by cases e)⟩
     | succ j =>
      cases j with
      | zero => cases h; cases hf; exact ⟨fun k e => (by cases e), fun _ => Try.underlying4, fun e => (by cases e)⟩
      | succ j =>
       cases j with
       | zero => cases h; cases hf; exact ⟨fun k e => by cases e; exact Try.underlying3, fun e => (by cases e), fun e => (by cases e)⟩
       | succ j =>
        cases h), Try.t201, rfl, rfl, fun _ _ => rfl⟩
theorem tn202 : TnOk Try.prog 202 (.fn [.st [.sl 231 (.st [.int .i64, .int .i64]), .sl 26 (.sl 3 (.int .i64))]] (.st [.sl 176 (.st [.int .i64, .int .i64]), .sl 26 (.sl 3 (.int .i64))])) := ⟨⟨_, _, _, Try.underlying202⟩, fun _ h => (by cases h), Try.t202, rfl, rfl, fun _ h => by cases h⟩
theorem tn203 : TnOk Try.prog 203 (.fn [.st [.int .i64, .int .i64, .bool, .int .i64], .st [.int .i64, .int .i64, .bool, .int .i64]] (.bool)) := ⟨⟨_, _, _, Try.underlying203⟩, fun _ h => (by cases h), Try.t203, rfl, rfl, fun _ h => by cases h⟩
theorem tn207 : TnOk Try.prog 207 (.fn [.st [.int .i64, .sl 3 (.int .i64), .sl 3 (.int .i64)], .int .i64, .int .i64] (.bool)) := ⟨⟨_, _, _, Try.underlying207⟩, fun _ h => (by cases h), Try.t207, rfl, rfl, fun _ h => by cases h⟩
theorem tn208 : TnOk Try.prog 208 (.fn [.str] (.bool)) := ⟨⟨_, _, _, Try.underlying208⟩, fun _ h => (by cases h), Try.t208, rfl, rfl, fun _ h => by cases h⟩
theorem tn209 : TnOk Try.prog 209 (.fn [.sl 35 (.st [.str, .int .i64, .sl 37 (.st [.int .i64, .sl 3 (.int .i64), .sl 3 (.int .i64)])]), .fn [.st [.str, .int .i64, .sl 37 (.st [.int .i64, .sl 3 (.int .i64), .sl 3 (.int .i64)])]] (.bool)] (.int .i64)) := ⟨⟨_, _, _, Try.underlying209⟩, fun _ h => (by cases h), Try.t209, rfl, rfl, fun _ h => by cases h⟩
theorem tn210 : TnOk Try.prog 210 (.fn [.st [.str, .int .i64, .sl 37 (.st [.int .i64, .sl 3 (.int .i64), .sl 3 (.int .i64)])]] (.bool)) := ⟨⟨_, _, _, Try.underlying210⟩, fun _ h => (by cases h), Try.t210, rfl, rfl, fun _ h => by cases h⟩
theorem tn211 : TnOk Try.prog 211 (.fn [.sl 115 (.st [.int .i64, .int .i64, .bool, .int .i64]), .fn [.st [.int .i64, .int .i64, .bool, .int .i64]] (.bool)] (.int .i64)) := ⟨⟨_, _, _, Try.underlying211⟩, fun _ h => (by cases h), Try.t211, rfl, rfl, fun _ h => by cases h⟩
theorem tn219 : TnOk Try.prog 219 (.fn [.sl 228 (.st [.int .i64, .sl 3 (.int .i64), .sl 3 (.int .i64)]), .int .i64] (.int .i64)) := ⟨⟨_, _, _, Try.underlying219⟩, fun _ h => (by cases h), Try.t219, rfl, rfl, fun _ h => by cases h⟩
theorem tn220 : TnOk Try.prog 220 (.fn [.sl 231 (.st [.int .i64, .int .i64]), .int .i64] (.int .i64)) := ⟨⟨_, _, _, Try.underlying220⟩, fun _ h => (by cases h), Try.t220, rfl, rfl, fun _ h => by cases h⟩
theorem tn221 : TnOk Try.prog 221 (.fn [.sl 228 (.st [.int .i64, .sl 3 (.int .i64), .sl 3 (.int .i64)])] (.sl 37 (.st [.int .i64, .sl 3 (.int .i64), .sl 3 (.int .i64)]))) := ⟨⟨_, _, _, Try.underlying221⟩, fun _ h => (by cases h), Try.t221, rfl, rfl, fun _ h => by cases h⟩
theorem tn222 : TnOk Try.prog 222 (.fn [.sl 231 (.st [.int .i64, .int .i64])] (.sl 176 (.st [.int .i64, .int .i64]))) := ⟨⟨_, _, _, Try.underlying222⟩, fun _ h => (by cases h), Try.t222, rfl, rfl, fun _ h => by cases h⟩
theorem tn223 : TnOk Try.prog 223 (.fn [.sl 37 (.st [.int .i64, .sl 3 (.int .i64), .sl 3 (.int .i64)]), .sl 37 (.st [.int .i64, .sl 3 (.int .i64), .sl 3 (.int .i64)])] (.bool)) := ⟨⟨_, _, _, Try.underlying223⟩, fun _ h => (by cases h), Try.t223, rfl, rfl, fun _ h => by cases h⟩
theorem tn227 : TnOk Try.prog 227 (.fn [.st [.int .i64, .sl 3 (.int .i64), .sl 3 (.int .i64)], .int .i64] (.int .i64)) := ⟨⟨_, _, _, Try.underlying227⟩, fun _ h => (by cases h), Try.t227, rfl, rfl, fun _ h => by cases h⟩
theorem tn228 : TnOk Try.prog 228 (.st [.int .i64, .sl 3 (.int .i64), .sl 3 (.int .i64)]) := ⟨⟨_, Try.underlying228, Try.eqGuardType228, Try.stoodInHeld228, rfl, fun j τ h => by
    cases j with
    | zero => cases h; exact ⟨_, _, rfl, rfl, by decide, by decide, Try.underlying3, rfl, fun us h => by cases h⟩
    | succ j =>
     cases j with
     | zero => cases h; exact ⟨_, _, rfl, rfl, by decide, by decide, Try.underlying26, rfl, fun us h => by cases h⟩
     | succ j =>
      cases j with
      | zero => cases h; exact ⟨_, _, rfl, rfl, by decide, by decide, Try.underlying26, rfl, fun us h => by cases h⟩
      | succ j =>
       cases h⟩, (fun us hus fs hfs j τ h f hf => by
    cases hus
    rw [Try.underlying228] at hfs
    cases hfs
    cases j with
    | zero => cases h; cases hf; exact ⟨fun k e => by cases e; exact Try.underlying3, fun e => (by cases e), fun e => (by cases e)⟩
    | succ j =>
     cases j with
     | zero => cases h; cases hf; exact ⟨fun k e => (by cases e), fun e => (by cases e), fun e => (by cases e)⟩
     | succ j =>
      cases j with
      | zero => cases h; cases hf; exact ⟨fun k e => (by cases e), fun e => (by cases e), fun e => (by cases e)⟩
      | succ j =>
       cases h), Try.t228, rfl, rfl, fun _ _ => rfl⟩
theorem tn229 : TnOk Try.prog 229 (.fn [.st [.int .i64, .sl 3 (.int .i64), .sl 3 (.int .i64)]] (.st [.int .i64, .sl 3 (.int .i64), .sl 3 (.int .i64)])) := ⟨⟨_, _, _, Try.underlying229⟩, fun _ h => (by cases h), Try.t229, rfl, rfl, fun _ h => by cases h⟩
theorem tn230 : TnOk Try.prog 230 (.fn [.st [.int .i64, .int .i64]] (.st [.int .i64, .int .i64])) := ⟨⟨_, _, _, Try.underlying230⟩, fun _ h => (by cases h), Try.t230, rfl, rfl, fun _ h => by cases h⟩
theorem tn231 : TnOk Try.prog 231 (.st [.int .i64, .int .i64]) := ⟨⟨_, Try.underlying231, Try.eqGuardType231, Try.stoodInHeld231, rfl, fun j τ h => by
    cases j with
    | zero => cases h; exact ⟨_, _, rfl, rfl, by decide, by decide, Try.underlying3, rfl, fun us h => by cases h⟩
    | succ j =>
     cases j with
     | zero => cases h; exact ⟨_, _, rfl, rfl, by decide, by decide, Try.underlying3, rfl, fun us h => by cases h⟩
     | succ j =>
      cases h⟩, (fun us hus fs hfs j τ h f hf => by
    cases hus
    rw [Try.underlying231] at hfs
    cases hfs
    cases j with
    | zero => cases h; cases hf; exact ⟨fun k e => by cases e; exact Try.underlying3, fun e => (by cases e), fun e => (by cases e)⟩
    | succ j =>
     cases j with
     | zero => cases h; cases hf; exact ⟨fun k e => by cases e; exact Try.underlying3, fun e => (by cases e), fun e => (by cases e)⟩
     | succ j =>
      cases h), Try.t231, rfl, rfl, fun _ _ => rfl⟩
theorem tn232 : TnOk Try.prog 232 (.fn [.st [.int .i64, .int .i64], .st [.int .i64, .int .i64]] (.bool)) := ⟨⟨_, _, _, Try.underlying232⟩, fun _ h => (by cases h), Try.t232, rfl, rfl, fun _ h => by cases h⟩
def tys : List (Nat × Ty) := [(3, .int .i64), (4, .bool), (5, .int .u8), (9, .str), (23, .sl 35 (.st [.str, .int .i64, .sl 37 (.st [.int .i64, .sl 3 (.int .i64), .sl 3 (.int .i64)])])), (24, .sl 115 (.st [.int .i64, .int .i64, .bool, .int .i64])), (25, .sl 44 (.st [.sl 176 (.st [.int .i64, .int .i64]), .sl 26 (.sl 3 (.int .i64))])), (26, .sl 3 (.int .i64)), (27, .st [.int .i64, .sl 35 (.st [.str, .int .i64, .sl 37 (.st [.int .i64, .sl 3 (.int .i64), .sl 3 (.int .i64)])]), .sl 115 (.st [.int .i64, .int .i64, .bool, .int .i64]), .sl 44 (.st [.sl 176 (.st [.int .i64, .int .i64]), .sl 26 (.sl 3 (.int .i64))]), .sl 3 (.int .i64)]), (28, .st [.int .i64, .sl 35 (.st [.str, .int .i64, .sl 37 (.st [.int .i64, .sl 3 (.int .i64), .sl 3 (.int .i64)])]), .sl 115 (.st [.int .i64, .int .i64, .bool, .int .i64]), .sl 44 (.st [.sl 176 (.st [.int .i64, .int .i64]), .sl 26 (.sl 3 (.int .i64))]), .sl 3 (.int .i64)]), (33, .sl 37 (.st [.int .i64, .sl 3 (.int .i64), .sl 3 (.int .i64)])), (34, .st [.str, .int .i64, .sl 37 (.st [.int .i64, .sl 3 (.int .i64), .sl 3 (.int .i64)])]), (35, .st [.str, .int .i64, .sl 37 (.st [.int .i64, .sl 3 (.int .i64), .sl 3 (.int .i64)])]), (36, .st [.int .i64, .sl 3 (.int .i64), .sl 3 (.int .i64)]), (37, .st [.int .i64, .sl 3 (.int .i64), .sl 3 (.int .i64)]), (38, .fn [.sl 3 (.int .i64), .int .i64] (.bool)), (39, .fn [.st [.int .i64, .sl 35 (.st [.str, .int .i64, .sl 37 (.st [.int .i64, .sl 3 (.int .i64), .sl 3 (.int .i64)])]), .sl 115 (.st [.int .i64, .int .i64, .bool, .int .i64]), .sl 44 (.st [.sl 176 (.st [.int .i64, .int .i64]), .sl 26 (.sl 3 (.int .i64))]), .sl 3 (.int .i64)], .st [.int .i64, .sl 35 (.st [.str, .int .i64, .sl 37 (.st [.int .i64, .sl 3 (.int .i64), .sl 3 (.int .i64)])]), .sl 115 (.st [.int .i64, .int .i64, .bool, .int .i64]), .sl 44 (.st [.sl 176 (.st [.int .i64, .int .i64]), .sl 26 (.sl 3 (.int .i64))]), .sl 3 (.int .i64)]] (.bool)), (40, .fn [.st [.sl 176 (.st [.int .i64, .int .i64]), .sl 26 (.sl 3 (.int .i64))]] (.bool)), (41, .sl 176 (.st [.int .i64, .int .i64])), (42, .sl 26 (.sl 3 (.int .i64))), (43, .st [.sl 176 (.st [.int .i64, .int .i64]), .sl 26 (.sl 3 (.int .i64))]), (44, .st [.sl 176 (.st [.int .i64, .int .i64]), .sl 26 (.sl 3 (.int .i64))]), (46, .fn [.st [.str, .int .i64, .sl 37 (.st [.int .i64, .sl 3 (.int .i64), .sl 3 (.int .i64)])], .st [.str, .int .i64, .sl 37 (.st [.int .i64, .sl 3 (.int .i64), .sl 3 (.int .i64)])]] (.bool)), (86, .sl 194 (.st [.str, .int .i64, .sl 228 (.st [.int .i64, .sl 3 (.int .i64), .sl 3 (.int .i64)])])), (87, .sl 201 (.st [.int .i64, .int .i64, .bool, .int .i64])), (88, .sl 198 (.st [.sl 231 (.st [.int .i64, .int .i64]), .sl 26 (.sl 3 (.int .i64))])), (89, .st [.int .i64, .sl 194 (.st [.str, .int .i64, .sl 228 (.st [.int .i64, .sl 3 (.int .i64), .sl 3 (.int .i64)])]), .sl 201 (.st [.int .i64, .int .i64, .bool, .int .i64]), .sl 198 (.st [.sl 231 (.st [.int .i64, .int .i64]), .sl 26 (.sl 3 (.int .i64))]), .sl 3 (.int .i64)]), (90, .st [.int .i64, .sl 194 (.st [.str, .int .i64, .sl 228 (.st [.int .i64, .sl 3 (.int .i64), .sl 3 (.int .i64)])]), .sl 201 (.st [.int .i64, .int .i64, .bool, .int .i64]), .sl 198 (.st [.sl 231 (.st [.int .i64, .int .i64]), .sl 26 (.sl 3 (.int .i64))]), .sl 3 (.int .i64)]), (91, .st [.int .i64, .int .i64, .int .i64, .int .i64]), (92, .st [.int .i64, .int .i64, .int .i64, .int .i64]), (93, .fn [.st [.int .i64, .sl 194 (.st [.str, .int .i64, .sl 228 (.st [.int .i64, .sl 3 (.int .i64), .sl 3 (.int .i64)])]), .sl 201 (.st [.int .i64, .int .i64, .bool, .int .i64]), .sl 198 (.st [.sl 231 (.st [.int .i64, .int .i64]), .sl 26 (.sl 3 (.int .i64))]), .sl 3 (.int .i64)], .int .i64] (.int .i64)), (94, .fn [.st [.int .i64, .sl 35 (.st [.str, .int .i64, .sl 37 (.st [.int .i64, .sl 3 (.int .i64), .sl 3 (.int .i64)])]), .sl 115 (.st [.int .i64, .int .i64, .bool, .int .i64]), .sl 44 (.st [.sl 176 (.st [.int .i64, .int .i64]), .sl 26 (.sl 3 (.int .i64))]), .sl 3 (.int .i64)], .st [.int .i64, .int .i64, .int .i64, .int .i64]] (.bool)), (95, .fn [.st [.int .i64, .sl 194 (.st [.str, .int .i64, .sl 228 (.st [.int .i64, .sl 3 (.int .i64), .sl 3 (.int .i64)])]), .sl 201 (.st [.int .i64, .int .i64, .bool, .int .i64]), .sl 198 (.st [.sl 231 (.st [.int .i64, .int .i64]), .sl 26 (.sl 3 (.int .i64))]), .sl 3 (.int .i64)]] (.st [.int .i64, .sl 35 (.st [.str, .int .i64, .sl 37 (.st [.int .i64, .sl 3 (.int .i64), .sl 3 (.int .i64)])]), .sl 115 (.st [.int .i64, .int .i64, .bool, .int .i64]), .sl 44 (.st [.sl 176 (.st [.int .i64, .int .i64]), .sl 26 (.sl 3 (.int .i64))]), .sl 3 (.int .i64)])), (96, .st [.int .i64, .int .i64, .int .i64, .int .i64]), (97, .fn [.st [.int .i64, .int .i64, .int .i64, .int .i64]] (.st [.int .i64, .int .i64, .int .i64, .int .i64])), (98, .fn [.st [.int .i64, .sl 194 (.st [.str, .int .i64, .sl 228 (.st [.int .i64, .sl 3 (.int .i64), .sl 3 (.int .i64)])]), .sl 201 (.st [.int .i64, .int .i64, .bool, .int .i64]), .sl 198 (.st [.sl 231 (.st [.int .i64, .int .i64]), .sl 26 (.sl 3 (.int .i64))]), .sl 3 (.int .i64)], .st [.int .i64, .int .i64, .int .i64, .int .i64]] (.bool)), (107, .fn [.st [.int .i64, .sl 35 (.st [.str, .int .i64, .sl 37 (.st [.int .i64, .sl 3 (.int .i64), .sl 3 (.int .i64)])]), .sl 115 (.st [.int .i64, .int .i64, .bool, .int .i64]), .sl 44 (.st [.sl 176 (.st [.int .i64, .int .i64]), .sl 26 (.sl 3 (.int .i64))]), .sl 3 (.int .i64)]] (.bool)), (108, .fn [.int .i64] (.bool)), (113, .fn [.sl 115 (.st [.int .i64, .int .i64, .bool, .int .i64]), .sl 115 (.st [.int .i64, .int .i64, .bool, .int .i64])] (.bool)), (114, .st [.int .i64, .int .i64, .bool, .int .i64]), (115, .st [.int .i64, .int .i64, .bool, .int .i64]), (117, .fn [.st [.sl 176 (.st [.int .i64, .int .i64]), .sl 26 (.sl 3 (.int .i64))], .st [.sl 176 (.st [.int .i64, .int .i64]), .sl 26 (.sl 3 (.int .i64))]] (.bool)), (118, .fn [.sl 3 (.int .i64), .sl 3 (.int .i64)] (.bool)), (119, .fn [.int .i64, .int .i64, .int .i64] (.bool)), (120, .fn [.sl 176 (.st [.int .i64, .int .i64])] (.bool)), (122, .fn [.st [.int .i64, .sl 3 (.int .i64), .sl 3 (.int .i64)], .st [.int .i64, .sl 3 (.int .i64), .sl 3 (.int .i64)]] (.bool)), (132, .fn [.sl 3 (.int .i64), .int .i64] (.int .i64)), (133, .fn [.sl 26 (.sl 3 (.int .i64)), .int .i64] (.int .i64)), (140, .fn [.sl 3 (.int .i64)] (.sl 3 (.int .i64))), (141, .fn [.sl 26 (.sl 3 (.int .i64))] (.sl 26 (.sl 3 (.int .i64)))), (144, .fn [.sl 26 (.sl 3 (.int .i64)), .sl 26 (.sl 3 (.int .i64))] (.bool)), (155, .fn [.sl 194 (.st [.str, .int .i64, .sl 228 (.st [.int .i64, .sl 3 (.int .i64), .sl 3 (.int .i64)])]), .int .i64] (.int .i64)), (156, .fn [.sl 201 (.st [.int .i64, .int .i64, .bool, .int .i64]), .int .i64] (.int .i64)), (157, .fn [.sl 198 (.st [.sl 231 (.st [.int .i64, .int .i64]), .sl 26 (.sl 3 (.int .i64))]), .int .i64] (.int .i64)), (158, .fn [.sl 194 (.st [.str, .int .i64, .sl 228 (.st [.int .i64, .sl 3 (.int .i64), .sl 3 (.int .i64)])])] (.sl 35 (.st [.str, .int .i64, .sl 37 (.st [.int .i64, .sl 3 (.int .i64), .sl 3 (.int .i64)])]))), (159, .fn [.sl 201 (.st [.int .i64, .int .i64, .bool, .int .i64])] (.sl 115 (.st [.int .i64, .int .i64, .bool, .int .i64]))), (160, .fn [.sl 198 (.st [.sl 231 (.st [.int .i64, .int .i64]), .sl 26 (.sl 3 (.int .i64))])] (.sl 44 (.st [.sl 176 (.st [.int .i64, .int .i64]), .sl 26 (.sl 3 (.int .i64))]))), (161, .fn [.sl 35 (.st [.str, .int .i64, .sl 37 (.st [.int .i64, .sl 3 (.int .i64), .sl 3 (.int .i64)])]), .sl 35 (.st [.str, .int .i64, .sl 37 (.st [.int .i64, .sl 3 (.int .i64), .sl 3 (.int .i64)])])] (.bool)), (162, .fn [.sl 44 (.st [.sl 176 (.st [.int .i64, .int .i64]), .sl 26 (.sl 3 (.int .i64))]), .sl 44 (.st [.sl 176 (.st [.int .i64, .int .i64]), .sl 26 (.sl 3 (.int .i64))])] (.bool)), (168, .fn [.st [.str, .int .i64, .sl 37 (.st [.int .i64, .sl 3 (.int .i64), .sl 3 (.int .i64)])], .int .i64, .int .i64] (.bool)), (169, .fn [.st [.int .i64, .sl 35 (.st [.str, .int .i64, .sl 37 (.st [.int .i64, .sl 3 (.int .i64), .sl 3 (.int .i64)])]), .sl 115 (.st [.int .i64, .int .i64, .bool, .int .i64]), .sl 44 (.st [.sl 176 (.st [.int .i64, .int .i64]), .sl 26 (.sl 3 (.int .i64))]), .sl 3 (.int .i64)], .str] (.int .i64)), (170, .fn [.sl 115 (.st [.int .i64, .int .i64, .bool, .int .i64]), .fn [.st [.int .i64, .int .i64, .bool, .int .i64]] (.bool)] (.bool)), (171, .fn [.st [.int .i64, .int .i64, .bool, .int .i64]] (.bool)), (175, .st [.int .i64, .int .i64]), (176, .st [.int .i64, .int .i64]), (177, .fn [.sl 176 (.st [.int .i64, .int .i64]), .sl 176 (.st [.int .i64, .int .i64])] (.bool)), (191, .fn [.st [.str, .int .i64, .sl 228 (.st [.int .i64, .sl 3 (.int .i64), .sl 3 (.int .i64)])], .int .i64] (.int .i64)), (192, .sl 228 (.st [.int .i64, .sl 3 (.int .i64), .sl 3 (.int .i64)])), (193, .st [.str, .int .i64, .sl 228 (.st [.int .i64, .sl 3 (.int .i64), .sl 3 (.int .i64)])]), (194, .st [.str, .int .i64, .sl 228 (.st [.int .i64, .sl 3 (.int .i64), .sl 3 (.int .i64)])]), (195, .fn [.st [.sl 231 (.st [.int .i64, .int .i64]), .sl 26 (.sl 3 (.int .i64))], .int .i64] (.int .i64)), (196, .sl 231 (.st [.int .i64, .int .i64])), (197, .st [.sl 231 (.st [.int .i64, .int .i64]), .sl 26 (.sl 3 (.int .i64))]), (198, .st [.sl 231 (.st [.int .i64, .int .i64]), .sl 26 (.sl 3 (.int .i64))]), (199, .fn [.st [.str, .int .i64, .sl 228 (.st [.int .i64, .sl 3 (.int .i64), .sl 3 (.int .i64)])]] (.st [.str, .int .i64, .sl 37 (.st [.int .i64, .sl 3 (.int .i64), .sl 3 (.int .i64)])])), (200, .fn [.st [.int .i64, .int .i64, .bool, .int .i64]] (.st [.int .i64, .int .i64, .bool, .int .i64])), (201, .st [.int .i64, .int .i64, .bool, .int .i64]), (202, .fn [.st [.sl 231 (.st [.int .i64, .int .i64]), .sl 26 (.sl 3 (.int .i64))]] (.st [.sl 176 (.st [.int .i64, .int .i64]), .sl 26 (.sl 3 (.int .i64))])), (203, .fn [.st [.int .i64, .int .i64, .bool, .int .i64], .st [.int .i64, .int .i64, .bool, .int .i64]] (.bool)), (207, .fn [.st [.int .i64, .sl 3 (.int .i64), .sl 3 (.int .i64)], .int .i64, .int .i64] (.bool)), (208, .fn [.str] (.bool)), (209, .fn [.sl 35 (.st [.str, .int .i64, .sl 37 (.st [.int .i64, .sl 3 (.int .i64), .sl 3 (.int .i64)])]), .fn [.st [.str, .int .i64, .sl 37 (.st [.int .i64, .sl 3 (.int .i64), .sl 3 (.int .i64)])]] (.bool)] (.int .i64)), (210, .fn [.st [.str, .int .i64, .sl 37 (.st [.int .i64, .sl 3 (.int .i64), .sl 3 (.int .i64)])]] (.bool)), (211, .fn [.sl 115 (.st [.int .i64, .int .i64, .bool, .int .i64]), .fn [.st [.int .i64, .int .i64, .bool, .int .i64]] (.bool)] (.int .i64)), (219, .fn [.sl 228 (.st [.int .i64, .sl 3 (.int .i64), .sl 3 (.int .i64)]), .int .i64] (.int .i64)), (220, .fn [.sl 231 (.st [.int .i64, .int .i64]), .int .i64] (.int .i64)), (221, .fn [.sl 228 (.st [.int .i64, .sl 3 (.int .i64), .sl 3 (.int .i64)])] (.sl 37 (.st [.int .i64, .sl 3 (.int .i64), .sl 3 (.int .i64)]))), (222, .fn [.sl 231 (.st [.int .i64, .int .i64])] (.sl 176 (.st [.int .i64, .int .i64]))), (223, .fn [.sl 37 (.st [.int .i64, .sl 3 (.int .i64), .sl 3 (.int .i64)]), .sl 37 (.st [.int .i64, .sl 3 (.int .i64), .sl 3 (.int .i64)])] (.bool)), (227, .fn [.st [.int .i64, .sl 3 (.int .i64), .sl 3 (.int .i64)], .int .i64] (.int .i64)), (228, .st [.int .i64, .sl 3 (.int .i64), .sl 3 (.int .i64)]), (229, .fn [.st [.int .i64, .sl 3 (.int .i64), .sl 3 (.int .i64)]] (.st [.int .i64, .sl 3 (.int .i64), .sl 3 (.int .i64)])), (230, .fn [.st [.int .i64, .int .i64]] (.st [.int .i64, .int .i64])), (231, .st [.int .i64, .int .i64]), (232, .fn [.st [.int .i64, .int .i64], .st [.int .i64, .int .i64]] (.bool))]
theorem tysOk : LkAll (TnOk Try.prog) tys := ⟨tn3, tn4, tn5, tn9, tn23, tn24, tn25, tn26, tn27, tn28, tn33, tn34, tn35, tn36, tn37, tn38, tn39, tn40, tn41, tn42, tn43, tn44, tn46, tn86, tn87, tn88, tn89, tn90, tn91, tn92, tn93, tn94, tn95, tn96, tn97, tn98, tn107, tn108, tn113, tn114, tn115, tn117, tn118, tn119, tn120, tn122, tn132, tn133, tn140, tn141, tn144, tn155, tn156, tn157, tn158, tn159, tn160, tn161, tn162, tn168, tn169, tn170, tn171, tn175, tn176, tn177, tn191, tn192, tn193, tn194, tn195, tn196, tn197, tn198, tn199, tn200, tn201, tn202, tn203, tn207, tn208, tn209, tn210, tn211, tn219, tn220, tn221, tn222, tn223, tn227, tn228, tn229, tn230, tn231, tn232, trivial⟩
def impl_within (x : (Int × (Int × (Int × Unit)))) (c : Unit) : (Option (Bool × Unit)) :=
  (Option.bind ((if (leZ x.2.1 x.1) = true then (some ((leZ x.1 x.2.2.1), ())) else (some (false, ()))) : (Option (Bool × Unit))) fun v0 => (some (v0.1, ())))
def H_impl_within : Hd := ⟨[.int .i64, .int .i64, .int .i64], [], none, .p, .bool, .p, []⟩
def T_impl_within : FSig := ⟨H_impl_within.ps, H_impl_within.cs, H_impl_within.io, H_impl_within.im, H_impl_within.R, H_impl_within.m, impl_within⟩
theorem E_impl_within : fnOf tys [] Try.f69 H_impl_within = T_impl_within := by kernel_rfl
theorem K_impl_within : SigOk Try.prog 69 T_impl_within := (congrArg (SigOk Try.prog 69) E_impl_within).mp (fnOf_ok rfl tysOk trivial Try.func69 (by decide) rfl (fun _ h => by cases h))
def impl_isTime (x : (Int × Unit)) (c : Unit) : (Option (Bool × Unit)) :=
  (Option.bind ((Option.bind (impl_within (x.1, (0, (60, ()))) ()) fun v0 => (some v0.1)) : (Option Bool)) fun v1 => (some (v1, ())))
def H_impl_isTime : Hd := ⟨[.int .i64], [], none, .p, .bool, .p, []⟩
def T_impl_isTime : FSig := ⟨H_impl_isTime.ps, H_impl_isTime.cs, H_impl_isTime.io, H_impl_isTime.im, H_impl_isTime.R, H_impl_isTime.m, impl_isTime⟩
theorem E_impl_isTime : fnOf tys [(69, T_impl_within)] Try.f108 H_impl_isTime = T_impl_isTime := by kernel_rfl
theorem K_impl_isTime : SigOk Try.prog 108 T_impl_isTime := (congrArg (SigOk Try.prog 108) E_impl_isTime).mp (fnOf_ok rfl tysOk ⟨K_impl_within, trivial⟩ Try.func108 (by decide) rfl (fun _ h => by cases h))
def impl_isAmount (x : (Int × Unit)) (c : Unit) : (Option (Bool × Unit)) :=
  (Option.bind ((Option.bind (impl_within (x.1, (0, (20, ()))) ()) fun v0 => (some v0.1)) : (Option Bool)) fun v1 => (some (v1, ())))
def H_impl_isAmount : Hd := ⟨[.int .i64], [], none, .p, .bool, .p, []⟩
def T_impl_isAmount : FSig := ⟨H_impl_isAmount.ps, H_impl_isAmount.cs, H_impl_isAmount.io, H_impl_isAmount.im, H_impl_isAmount.R, H_impl_isAmount.m, impl_isAmount⟩
theorem E_impl_isAmount : fnOf tys [(69, T_impl_within)] Try.f146 H_impl_isAmount = T_impl_isAmount := by kernel_rfl
theorem K_impl_isAmount : SigOk Try.prog 146 T_impl_isAmount := (congrArg (SigOk Try.prog 146) E_impl_isAmount).mp (fnOf_ok rfl tysOk ⟨K_impl_within, trivial⟩ Try.func146 (by decide) rfl (fun _ h => by cases h))
def impl_StepsOk_L0 : (Int × (Int × ((List (Int × (Int × Unit))) × ((List (Int × (Int × Unit))) × Unit)))) → Option (Out (Int × (Int × ((List (Int × (Int × Unit))) × ((List (Int × (Int × Unit))) × Unit)))) ((Bool × (Int × (Int × ((List (Int × (Int × Unit))) × ((List (Int × (Int × Unit))) × Unit))))) ⊕ Empty) (Bool × Unit)) :=
  (fun v0 => (if (ltZ v0.1 v0.2.1) = true then (Option.bind (getI v0.2.2.1 v0.1) fun v1 => (Option.bind ((Option.bind (impl_isTime (v1.1, ()) ()) fun v2 => (some v2.1)) : (Option Bool)) fun v3 => (Option.bind ((if (notB v3) = true then (some (true, (v0.1, (v0.2.1, (v0.2.2.1, (v0.2.2.2.1, ())))))) else (Option.bind ((Option.bind (impl_isAmount (v1.2.1, ()) ()) fun v4 => (some v4.1)) : (Option Bool)) fun v5 => (Option.bind ((if (notB v5) = true then (some (true, (v0.1, (v0.2.1, (v0.2.2.1, (v0.2.2.2.1, ())))))) else (Option.bind ((if (eqZ v0.1 0) = true then (Option.bind ((if (notB (eqZ v1.1 0)) = true then (some (true, (v0.1, (v0.2.1, (v0.2.2.1, (v0.2.2.2.1, ())))))) else (Option.bind ((if (ltZ 0 v0.1) = true then (Option.bind (getI v0.2.2.2.1 (subZ .i64 v0.1 1)) fun v6 => (some ((leZ v1.1 v6.1), (v0.1, (v0.2.1, (v0.2.2.1, (v0.2.2.2.1, ()))))))) else (some (false, (v0.1, (v0.2.1, (v0.2.2.1, (v0.2.2.2.1, ()))))))) : (Option (Bool × (Int × (Int × ((List (Int × (Int × Unit))) × ((List (Int × (Int × Unit))) × Unit))))))) fun v7 => (some (v7.1, (v7.2.1, (v7.2.2.1, (v7.2.2.2.1, (v7.2.2.2.2.1, ())))))))) : (Option (Bool × (Int × (Int × ((List (Int × (Int × Unit))) × ((List (Int × (Int × Unit))) × Unit))))))) fun v8 => (some (v8.1, (v8.2.1, (v8.2.2.1, (v8.2.2.2.1, (v8.2.2.2.2.1, ()))))))) else (Option.bind ((Option.bind ((if (ltZ 0 v0.1) = true then (Option.bind (getI v0.2.2.2.1 (subZ .i64 v0.1 1)) fun v9 => (some ((leZ v1.1 v9.1), (v0.1, (v0.2.1, (v0.2.2.1, (v0.2.2.2.1, ()))))))) else (some (false, (v0.1, (v0.2.1, (v0.2.2.1, (v0.2.2.2.1, ()))))))) : (Option (Bool × (Int × (Int × ((List (Int × (Int × Unit))) × ((List (Int × (Int × Unit))) × Unit))))))) fun v10 => (some (v10.1, (v10.2.1, (v10.2.2.1, (v10.2.2.2.1, (v10.2.2.2.2.1, ()))))))) : (Option (Bool × (Int × (Int × ((List (Int × (Int × Unit))) × ((List (Int × (Int × Unit))) × Unit))))))) fun v11 => (some (v11.1, (v11.2.1, (v11.2.2.1, (v11.2.2.2.1, (v11.2.2.2.2.1, ())))))))) : (Option (Bool × (Int × (Int × ((List (Int × (Int × Unit))) × ((List (Int × (Int × Unit))) × Unit))))))) fun v12 => (some (v12.1, (v12.2.1, (v12.2.2.1, (v12.2.2.2.1, (v12.2.2.2.2.1, ())))))))) : (Option (Bool × (Int × (Int × ((List (Int × (Int × Unit))) × ((List (Int × (Int × Unit))) × Unit))))))) fun v13 => (some (v13.1, (v13.2.1, (v13.2.2.1, (v13.2.2.2.1, (v13.2.2.2.2.1, ()))))))))) : (Option (Bool × (Int × (Int × ((List (Int × (Int × Unit))) × ((List (Int × (Int × Unit))) × Unit))))))) fun v14 => (if v14.1 = true then (some (Out.ret (false, ()))) else (some (Out.norm ((addZ .i64 v14.2.1 1), (v14.2.2.1, (v14.2.2.2.1, (v14.2.2.2.2.1, ())))))))))) else (some (Out.exit (Sum.inl ((ltZ v0.1 v0.2.1), (v0.1, (v0.2.1, (v0.2.2.1, (v0.2.2.2.1, ()))))))))))
def impl_StepsOk (x : ((List (Int × (Int × Unit))) × Unit)) (c : Unit) : (Option (Bool × Unit)) :=
  (Option.bind (loopN (A := (Int × (Int × ((List (Int × (Int × Unit))) × ((List (Int × (Int × Unit))) × Unit))))) big impl_StepsOk_L0 (0, ((lenI x.1), (x.1, (x.1, ()))))) fun v15 => (match v15 with | Out.norm v16 => none | Out.exit v17 => (match ((match v17 with | Sum.inl v22 => (Sum.inl (v22.2.2.2.2.1, ())) | Sum.inr v23 => (Empty.elim v23)) : (((List (Int × (Int × Unit))) × Unit) ⊕ Empty)) with | Sum.inl v18 => (Option.bind ((Option.bind (impl_within ((lenI v18.1), (1, (8, ()))) ()) fun v19 => (some v19.1)) : (Option Bool)) fun v20 => (some (v20, ()))) | Sum.inr v21 => none) | Out.ret v24 => (some v24)))
def H_impl_StepsOk : Hd := ⟨[.sl 176 (.st [.int .i64, .int .i64])], [], none, .p, .bool, .p, []⟩
def T_impl_StepsOk : FSig := ⟨H_impl_StepsOk.ps, H_impl_StepsOk.cs, H_impl_StepsOk.io, H_impl_StepsOk.im, H_impl_StepsOk.R, H_impl_StepsOk.m, impl_StepsOk⟩
theorem E_impl_StepsOk : fnOf tys [(69, T_impl_within), (108, T_impl_isTime), (146, T_impl_isAmount)] Try.f70 H_impl_StepsOk = T_impl_StepsOk := by kernel_rfl
theorem K_impl_StepsOk : SigOk Try.prog 70 T_impl_StepsOk := (congrArg (SigOk Try.prog 70) E_impl_StepsOk).mp (fnOf_ok rfl tysOk ⟨K_impl_within, K_impl_isTime, K_impl_isAmount, trivial⟩ Try.func70 (by decide) rfl (fun _ h => by cases h))
def impl_ResourceOk_L0 : (Int × (Int × ((List Int) × (Int × (Int × ((List (List Int)) × (((List (Int × (Int × Unit))) × ((List (List Int)) × Unit)) × Unit))))))) → Option (Out (Int × (Int × ((List Int) × (Int × (Int × ((List (List Int)) × (((List (Int × (Int × Unit))) × ((List (List Int)) × Unit)) × Unit))))))) ((Bool × (Int × (Int × ((List Int) × (Int × (Int × ((List (List Int)) × (((List (Int × (Int × Unit))) × ((List (List Int)) × Unit)) × Unit)))))))) ⊕ Empty) (Bool × Unit)) :=
  (fun v2 => (if (ltZ v2.1 v2.2.1) = true then (Option.bind (getI v2.2.2.1 v2.1) fun v3 => (Option.bind ((Option.bind (impl_within (v3, (0, (12, ()))) ()) fun v4 => (some v4.1)) : (Option Bool)) fun v5 => (if (notB v5) = true then (some (Out.ret (false, ()))) else (some (Out.norm ((addZ .i64 v2.1 1), (v2.2.1, (v2.2.2.1, (v2.2.2.2.1, (v2.2.2.2.2.1, (v2.2.2.2.2.2.1, (v2.2.2.2.2.2.2.1, ())))))))))))) else (some (Out.exit (Sum.inl ((ltZ v2.1 v2.2.1), (v2.1, (v2.2.1, (v2.2.2.1, (v2.2.2.2.1, (v2.2.2.2.2.1, (v2.2.2.2.2.2.1, (v2.2.2.2.2.2.2.1, ())))))))))))))
def impl_ResourceOk_L1 : (Int × (Int × ((List (List Int)) × (((List (Int × (Int × Unit))) × ((List (List Int)) × Unit)) × Unit)))) → Option (Out (Int × (Int × ((List (List Int)) × (((List (Int × (Int × Unit))) × ((List (List Int)) × Unit)) × Unit)))) ((Bool × (Int × (Int × ((List (List Int)) × (((List (Int × (Int × Unit))) × ((List (List Int)) × Unit)) × Unit))))) ⊕ Empty) (Bool × Unit)) :=
  (fun v0 => (if (ltZ v0.1 v0.2.1) = true then (Option.bind (getI v0.2.2.1 v0.1) fun v1 => (if (notB (eqZ (lenI v1) 4)) = true then (some (Out.ret (false, ()))) else (Option.bind (loopN (A := (Int × (Int × ((List Int) × (Int × (Int × ((List (List Int)) × (((List (Int × (Int × Unit))) × ((List (List Int)) × Unit)) × Unit)))))))) big impl_ResourceOk_L0 (0, ((lenI v1), (v1, (v0.1, (v0.2.1, (v0.2.2.1, (v0.2.2.2.1, ())))))))) fun v6 => (match v6 with | Out.norm v7 => none | Out.exit v8 => (match ((match v8 with | Sum.inl v13 => (Sum.inl (v13.2.2.2.2.1, (v13.2.2.2.2.2.1, (v13.2.2.2.2.2.2.1, (v13.2.2.2.2.2.2.2.1, ()))))) | Sum.inr v14 => (Empty.elim v14)) : ((Int × (Int × ((List (List Int)) × (((List (Int × (Int × Unit))) × ((List (List Int)) × Unit)) × Unit)))) ⊕ Empty)) with | Sum.inl v9 => (some (Out.norm ((addZ .i64 v9.1 1), (v9.2.1, (v9.2.2.1, (v9.2.2.2.1, ())))))) | Sum.inr v10 => (match ((Empty.elim v10) : ((Int × (Int × ((List (List Int)) × (((List (Int × (Int × Unit))) × ((List (List Int)) × Unit)) × Unit)))) ⊕ Empty)) with | Sum.inl v11 => (some (Out.norm ((addZ .i64 v11.1 1), (v11.2.1, (v11.2.2.1, (v11.2.2.2.1, ())))))) | Sum.inr v12 => (some (Out.exit (Sum.inr (Empty.elim v12)))))) | Out.ret v15 => (some (Out.ret v15)))))) else (some (Out.exit (Sum.inl ((ltZ v0.1 v0.2.1), (v0.1, (v0.2.1, (v0.2.2.1, (v0.2.2.2.1, ()))))))))))
def impl_ResourceOk (x : (((List (Int × (Int × Unit))) × ((List (List Int)) × Unit)) × Unit)) (c : Unit) : (Option (Bool × Unit)) :=
  (Option.bind (loopN (A := (Int × (Int × ((List (List Int)) × (((List (Int × (Int × Unit))) × ((List (List Int)) × Unit)) × Unit))))) big impl_ResourceOk_L1 (0, ((lenI x.1.2.1), (x.1.2.1, (x.1, ()))))) fun v16 => (match v16 with | Out.norm v17 => none | Out.exit v18 => (match ((match v18 with | Sum.inl v25 => (Sum.inl (v25.2.2.2.2.1, ())) | Sum.inr v26 => (Empty.elim v26)) : ((((List (Int × (Int × Unit))) × ((List (List Int)) × Unit)) × Unit) ⊕ Empty)) with | Sum.inl v19 => (Option.bind ((Option.bind (impl_StepsOk (v19.1.1, ()) ()) fun v20 => (some v20.1)) : (Option Bool)) fun v21 => (Option.bind ((if v21 = true then (Option.bind ((if (eqZ (lenI v19.1.2.1) 0) = true then (some (true, ())) else (some ((eqZ (lenI v19.1.2.1) 4), ()))) : (Option (Bool × Unit))) fun v22 => (some (v22.1, ()))) else (some (false, ()))) : (Option (Bool × Unit))) fun v23 => (some (v23.1, ())))) | Sum.inr v24 => none) | Out.ret v27 => (some v27)))
def H_impl_ResourceOk : Hd := ⟨[.st [.sl 176 (.st [.int .i64, .int .i64]), .sl 26 (.sl 3 (.int .i64))]], [], none, .p, .bool, .p, []⟩
def T_impl_ResourceOk : FSig := ⟨H_impl_ResourceOk.ps, H_impl_ResourceOk.cs, H_impl_ResourceOk.io, H_impl_ResourceOk.im, H_impl_ResourceOk.R, H_impl_ResourceOk.m, impl_ResourceOk⟩
theorem E_impl_ResourceOk : fnOf tys [(69, T_impl_within), (70, T_impl_StepsOk)] Try.f15 H_impl_ResourceOk = T_impl_ResourceOk := by kernel_rfl
theorem K_impl_ResourceOk : SigOk Try.prog 15 T_impl_ResourceOk := (congrArg (SigOk Try.prog 15) E_impl_ResourceOk).mp (fnOf_ok rfl tysOk ⟨K_impl_within, K_impl_StepsOk, trivial⟩ Try.func15 (by decide) rfl (fun _ h => by cases h))
def impl_areAmounts_L0 : (Int × (Int × ((List Int) × ((List Int) × (Int × Unit))))) → Option (Out (Int × (Int × ((List Int) × ((List Int) × (Int × Unit))))) ((Bool × (Int × (Int × ((List Int) × ((List Int) × (Int × Unit)))))) ⊕ Empty) (Bool × Unit)) :=
  (fun v0 => (if (ltZ v0.1 v0.2.1) = true then (Option.bind (getI v0.2.2.1 v0.1) fun v1 => (Option.bind ((Option.bind (impl_isAmount (v1, ()) ()) fun v2 => (some v2.1)) : (Option Bool)) fun v3 => (if (notB v3) = true then (some (Out.ret (false, ()))) else (some (Out.norm ((addZ .i64 v0.1 1), (v0.2.1, (v0.2.2.1, (v0.2.2.2.1, (v0.2.2.2.2.1, ())))))))))) else (some (Out.exit (Sum.inl ((ltZ v0.1 v0.2.1), (v0.1, (v0.2.1, (v0.2.2.1, (v0.2.2.2.1, (v0.2.2.2.2.1, ())))))))))))
def impl_areAmounts (x : ((List Int) × (Int × Unit))) (c : Unit) : (Option (Bool × Unit)) :=
  (Option.bind (loopN (A := (Int × (Int × ((List Int) × ((List Int) × (Int × Unit)))))) big impl_areAmounts_L0 (0, ((lenI x.1), (x.1, (x.1, (x.2.1, ())))))) fun v4 => (match v4 with | Out.norm v5 => none | Out.exit v6 => (match ((match v6 with | Sum.inl v9 => (Sum.inl (v9.2.2.2.2.1, (v9.2.2.2.2.2.1, ()))) | Sum.inr v10 => (Empty.elim v10)) : (((List Int) × (Int × Unit)) ⊕ Empty)) with | Sum.inl v7 => (some ((eqZ (lenI v7.1) v7.2.1), ())) | Sum.inr v8 => none) | Out.ret v11 => (some v11)))
def H_impl_areAmounts : Hd := ⟨[.sl 3 (.int .i64), .int .i64], [], none, .p, .bool, .p, []⟩
def T_impl_areAmounts : FSig := ⟨H_impl_areAmounts.ps, H_impl_areAmounts.cs, H_impl_areAmounts.io, H_impl_areAmounts.im, H_impl_areAmounts.R, H_impl_areAmounts.m, impl_areAmounts⟩
theorem E_impl_areAmounts : fnOf tys [(146, T_impl_isAmount)] Try.f209 H_impl_areAmounts = T_impl_areAmounts := by kernel_rfl
theorem K_impl_areAmounts : SigOk Try.prog 209 T_impl_areAmounts := (congrArg (SigOk Try.prog 209) E_impl_areAmounts).mp (fnOf_ok rfl tysOk ⟨K_impl_isAmount, trivial⟩ Try.func209 (by decide) rfl (fun _ h => by cases h))
def impl_ModeOk (x : ((Int × ((List Int) × ((List Int) × Unit))) × (Int × (Int × Unit)))) (c : Unit) : (Option (Bool × Unit)) :=
  (Option.bind ((Option.bind (impl_within (x.1.1, (1, (12, ()))) ()) fun v0 => (some v0.1)) : (Option Bool)) fun v1 => (Option.bind ((if v1 = true then (Option.bind ((Option.bind (impl_areAmounts (x.1.2.1, (x.2.1, ())) ()) fun v2 => (some v2.1)) : (Option Bool)) fun v3 => (Option.bind ((if v3 = true then (Option.bind ((Option.bind (impl_areAmounts (x.1.2.2.1, (x.2.2.1, ())) ()) fun v4 => (some v4.1)) : (Option Bool)) fun v5 => (some (v5, ()))) else (some (false, ()))) : (Option (Bool × Unit))) fun v6 => (some (v6.1, ())))) else (some (false, ()))) : (Option (Bool × Unit))) fun v7 => (some (v7.1, ()))))
def H_impl_ModeOk : Hd := ⟨[.st [.int .i64, .sl 3 (.int .i64), .sl 3 (.int .i64)], .int .i64, .int .i64], [], none, .p, .bool, .p, []⟩
def T_impl_ModeOk : FSig := ⟨H_impl_ModeOk.ps, H_impl_ModeOk.cs, H_impl_ModeOk.io, H_impl_ModeOk.im, H_impl_ModeOk.R, H_impl_ModeOk.m, impl_ModeOk⟩
theorem E_impl_ModeOk : fnOf tys [(69, T_impl_within), (209, T_impl_areAmounts)] Try.f182 H_impl_ModeOk = T_impl_ModeOk := by kernel_rfl
theorem K_impl_ModeOk : SigOk Try.prog 182 T_impl_ModeOk := (congrArg (SigOk Try.prog 182) E_impl_ModeOk).mp (fnOf_ok rfl tysOk ⟨K_impl_within, K_impl_areAmounts, trivial⟩ Try.func182 (by decide) rfl (fun _ h => by cases h))
def impl_IsName_L0 : (Int × (Int × ((List UInt8) × Unit))) → Option (Out (Int × (Int × ((List UInt8) × Unit))) ((Bool × (Int × (Int × ((List UInt8) × Unit)))) ⊕ Empty) (Bool × Unit)) :=
  (fun v0 => (if (ltZ v0.1 v0.2.1) = true then (Option.bind (byteAt v0.2.2.1 v0.1) fun v1 => (Option.bind ((if (leZ 97 v1) = true then (Option.bind (byteAt v0.2.2.1 v0.1) fun v2 => (some ((leZ v2 122), (v0.1, (v0.1, (v0.2.1, (v0.2.2.1, ()))))))) else (some (false, (v0.1, (v0.1, (v0.2.1, (v0.2.2.1, ()))))))) : (Option (Bool × (Int × (Int × (Int × ((List UInt8) × Unit))))))) fun v3 => (Option.bind ((if (notB v3.1) = true then (Option.bind ((if (eqZ v3.2.1 0) = true then (some (true, (v3.2.2.1, (v3.2.2.2.1, (v3.2.2.2.2.1, ()))))) else (Option.bind (byteAt v3.2.2.2.2.1 v3.2.1) fun v4 => (Option.bind ((if (ltZ v4 48) = true then (some (true, (v3.2.2.1, (v3.2.2.2.1, (v3.2.2.2.2.1, ()))))) else (Option.bind (byteAt v3.2.2.2.2.1 v3.2.1) fun v5 => (some ((ltZ 57 v5), (v3.2.2.1, (v3.2.2.2.1, (v3.2.2.2.2.1, ()))))))) : (Option (Bool × (Int × (Int × ((List UInt8) × Unit)))))) fun v6 => (some (v6.1, (v6.2.1, (v6.2.2.1, (v6.2.2.2.1, ())))))))) : (Option (Bool × (Int × (Int × ((List UInt8) × Unit)))))) fun v7 => (some (v7.1, (v7.2.1, (v7.2.2.1, (v7.2.2.2.1, ())))))) else (some (false, (v3.2.2.1, (v3.2.2.2.1, (v3.2.2.2.2.1, ())))))) : (Option (Bool × (Int × (Int × ((List UInt8) × Unit)))))) fun v8 => (if v8.1 = true then (some (Out.ret (false, ()))) else (some (Out.norm ((addZ .i64 v8.2.1 1), (v8.2.2.1, (v8.2.2.2.1, ()))))))))) else (some (Out.exit (Sum.inl ((ltZ v0.1 v0.2.1), (v0.1, (v0.2.1, (v0.2.2.1, ())))))))))
def impl_IsName (x : ((List UInt8) × Unit)) (c : Unit) : (Option (Bool × Unit)) :=
  (Option.bind (loopN (A := (Int × (Int × ((List UInt8) × Unit)))) big impl_IsName_L0 (0, ((lenI x.1), (x.1, ())))) fun v9 => (match v9 with | Out.norm v10 => none | Out.exit v11 => (match ((match v11 with | Sum.inl v16 => (Sum.inl (v16.2.2.2.1, ())) | Sum.inr v17 => (Empty.elim v17)) : (((List UInt8) × Unit) ⊕ Empty)) with | Sum.inl v12 => (Option.bind ((Option.bind (impl_within ((lenI v12.1), (1, (8, ()))) ()) fun v13 => (some v13.1)) : (Option Bool)) fun v14 => (some (v14, ()))) | Sum.inr v15 => none) | Out.ret v18 => (some v18)))
def H_impl_IsName : Hd := ⟨[.str], [], none, .p, .bool, .p, []⟩
def T_impl_IsName : FSig := ⟨H_impl_IsName.ps, H_impl_IsName.cs, H_impl_IsName.io, H_impl_IsName.im, H_impl_IsName.R, H_impl_IsName.m, impl_IsName⟩
theorem E_impl_IsName : fnOf tys [(69, T_impl_within)] Try.f183 H_impl_IsName = T_impl_IsName := by kernel_rfl
theorem K_impl_IsName : SigOk Try.prog 183 T_impl_IsName := (congrArg (SigOk Try.prog 183) E_impl_IsName).mp (fnOf_ok rfl tysOk ⟨K_impl_within, trivial⟩ Try.func183 (by decide) rfl (fun _ h => by cases h))
def impl_ActivityOk_L0 : (Int × (Int × ((List (Int × ((List Int) × ((List Int) × Unit)))) × (Int × (Int × (((List UInt8) × (Int × ((List (Int × ((List Int) × ((List Int) × Unit)))) × Unit))) × Unit)))))) → Option (Out (Int × (Int × ((List (Int × ((List Int) × ((List Int) × Unit)))) × (Int × (Int × (((List UInt8) × (Int × ((List (Int × ((List Int) × ((List Int) × Unit)))) × Unit))) × Unit)))))) ((Bool × (Int × (Int × ((List (Int × ((List Int) × ((List Int) × Unit)))) × (Int × (Int × (((List UInt8) × (Int × ((List (Int × ((List Int) × ((List Int) × Unit)))) × Unit))) × Unit))))))) ⊕ Empty) (Bool × Unit)) :=
  (fun v0 => (if (ltZ v0.1 v0.2.1) = true then (Option.bind (getI v0.2.2.1 v0.1) fun v1 => (Option.bind ((Option.bind (impl_ModeOk (v1, (v0.2.2.2.1, (v0.2.2.2.2.1, ()))) ()) fun v2 => (some v2.1)) : (Option Bool)) fun v3 => (if (notB v3) = true then (some (Out.ret (false, ()))) else (some (Out.norm ((addZ .i64 v0.1 1), (v0.2.1, (v0.2.2.1, (v0.2.2.2.1, (v0.2.2.2.2.1, (v0.2.2.2.2.2.1, ()))))))))))) else (some (Out.exit (Sum.inl ((ltZ v0.1 v0.2.1), (v0.1, (v0.2.1, (v0.2.2.1, (v0.2.2.2.1, (v0.2.2.2.2.1, (v0.2.2.2.2.2.1, ()))))))))))))
def impl_ActivityOk (x : (((List UInt8) × (Int × ((List (Int × ((List Int) × ((List Int) × Unit)))) × Unit))) × (Int × (Int × Unit)))) (c : Unit) : (Option (Bool × Unit)) :=
  (Option.bind (loopN (A := (Int × (Int × ((List (Int × ((List Int) × ((List Int) × Unit)))) × (Int × (Int × (((List UInt8) × (Int × ((List (Int × ((List Int) × ((List Int) × Unit)))) × Unit))) × Unit))))))) big impl_ActivityOk_L0 (0, ((lenI x.1.2.2.1), (x.1.2.2.1, (x.2.1, (x.2.2.1, (x.1, ()))))))) fun v4 => (match v4 with | Out.norm v5 => none | Out.exit v6 => (match ((match v6 with | Sum.inl v17 => (Sum.inl (v17.2.2.2.2.2.2.1, ())) | Sum.inr v18 => (Empty.elim v18)) : ((((List UInt8) × (Int × ((List (Int × ((List Int) × ((List Int) × Unit)))) × Unit))) × Unit) ⊕ Empty)) with | Sum.inl v7 => (Option.bind ((Option.bind (impl_IsName (v7.1.1, ()) ()) fun v8 => (some v8.1)) : (Option Bool)) fun v9 => (Option.bind ((if v9 = true then (Option.bind ((Option.bind (impl_within (v7.1.2.1, (0, (3, ()))) ()) fun v10 => (some v10.1)) : (Option Bool)) fun v11 => (Option.bind ((if v11 = true then (Option.bind ((Option.bind (impl_within ((lenI v7.1.2.2.1), (1, (3, ()))) ()) fun v12 => (some v12.1)) : (Option Bool)) fun v13 => (some (v13, ()))) else (some (false, ()))) : (Option (Bool × Unit))) fun v14 => (some (v14.1, ())))) else (some (false, ()))) : (Option (Bool × Unit))) fun v15 => (some (v15.1, ())))) | Sum.inr v16 => none) | Out.ret v19 => (some v19)))
def H_impl_ActivityOk : Hd := ⟨[.st [.str, .int .i64, .sl 37 (.st [.int .i64, .sl 3 (.int .i64), .sl 3 (.int .i64)])], .int .i64, .int .i64], [], none, .p, .bool, .p, []⟩
def T_impl_ActivityOk : FSig := ⟨H_impl_ActivityOk.ps, H_impl_ActivityOk.cs, H_impl_ActivityOk.io, H_impl_ActivityOk.im, H_impl_ActivityOk.R, H_impl_ActivityOk.m, impl_ActivityOk⟩
theorem E_impl_ActivityOk : fnOf tys [(69, T_impl_within), (182, T_impl_ModeOk), (183, T_impl_IsName)] Try.f134 H_impl_ActivityOk = T_impl_ActivityOk := by kernel_rfl
theorem K_impl_ActivityOk : SigOk Try.prog 134 T_impl_ActivityOk := (congrArg (SigOk Try.prog 134) E_impl_ActivityOk).mp (fnOf_ok rfl tysOk ⟨K_impl_within, K_impl_ModeOk, K_impl_IsName, trivial⟩ Try.func134 (by decide) rfl (fun _ h => by cases h))
def slices_IndexFunc_impl_Activity_impl_Activity_L0 : (Int × (Int × (((((List UInt8) × (Int × ((List (Int × ((List Int) × ((List Int) × Unit)))) × Unit))) × Unit) → (Option Bool)) × ((List ((List UInt8) × (Int × ((List (Int × ((List Int) × ((List Int) × Unit)))) × Unit)))) × Unit)))) → Option (Out (Int × (Int × (((((List UInt8) × (Int × ((List (Int × ((List Int) × ((List Int) × Unit)))) × Unit))) × Unit) → (Option Bool)) × ((List ((List UInt8) × (Int × ((List (Int × ((List Int) × ((List Int) × Unit)))) × Unit)))) × Unit)))) ((Bool × (Int × (Int × (((((List UInt8) × (Int × ((List (Int × ((List Int) × ((List Int) × Unit)))) × Unit))) × Unit) → (Option Bool)) × ((List ((List UInt8) × (Int × ((List (Int × ((List Int) × ((List Int) × Unit)))) × Unit)))) × Unit))))) ⊕ Empty) (Int × Unit)) :=
  (fun v0 => (if (ltZ v0.1 v0.2.1) = true then (Option.bind (getI v0.2.2.2.1 v0.1) fun v1 => (Option.bind (v0.2.2.1 (v1, ())) fun v2 => (if v2 = true then (some (Out.ret (v0.1, ()))) else (some (Out.norm ((addZ .i64 v0.1 1), (v0.2.1, (v0.2.2.1, (v0.2.2.2.1, ()))))))))) else (some (Out.exit (Sum.inl ((ltZ v0.1 v0.2.1), (v0.1, (v0.2.1, (v0.2.2.1, (v0.2.2.2.1, ()))))))))))
def slices_IndexFunc_impl_Activity_impl_Activity (x : ((List ((List UInt8) × (Int × ((List (Int × ((List Int) × ((List Int) × Unit)))) × Unit)))) × (((((List UInt8) × (Int × ((List (Int × ((List Int) × ((List Int) × Unit)))) × Unit))) × Unit) → (Option Bool)) × Unit))) (c : Unit) : (Option (Int × Unit)) :=
  (Option.bind (loopN (A := (Int × (Int × (((((List UInt8) × (Int × ((List (Int × ((List Int) × ((List Int) × Unit)))) × Unit))) × Unit) → (Option Bool)) × ((List ((List UInt8) × (Int × ((List (Int × ((List Int) × ((List Int) × Unit)))) × Unit)))) × Unit))))) big slices_IndexFunc_impl_Activity_impl_Activity_L0 (0, ((lenI x.1), (x.2.1, (x.1, ()))))) fun v3 => (match v3 with | Out.norm v4 => none | Out.exit v5 => (match ((match v5 with | Sum.inl v8 => (Sum.inl ()) | Sum.inr v9 => (Empty.elim v9)) : (Unit ⊕ Empty)) with | Sum.inl v6 => (some ((-1), ())) | Sum.inr v7 => none) | Out.ret v10 => (some v10)))
def H_slices_IndexFunc_impl_Activity_impl_Activity : Hd := ⟨[.sl 35 (.st [.str, .int .i64, .sl 37 (.st [.int .i64, .sl 3 (.int .i64), .sl 3 (.int .i64)])]), .fn [.st [.str, .int .i64, .sl 37 (.st [.int .i64, .sl 3 (.int .i64), .sl 3 (.int .i64)])]] (.bool)], [], none, .p, .int .i64, .p, []⟩
def T_slices_IndexFunc_impl_Activity_impl_Activity : FSig := ⟨H_slices_IndexFunc_impl_Activity_impl_Activity.ps, H_slices_IndexFunc_impl_Activity_impl_Activity.cs, H_slices_IndexFunc_impl_Activity_impl_Activity.io, H_slices_IndexFunc_impl_Activity_impl_Activity.im, H_slices_IndexFunc_impl_Activity_impl_Activity.R, H_slices_IndexFunc_impl_Activity_impl_Activity.m, slices_IndexFunc_impl_Activity_impl_Activity⟩
theorem E_slices_IndexFunc_impl_Activity_impl_Activity : fnOf tys [] Try.f184 H_slices_IndexFunc_impl_Activity_impl_Activity = T_slices_IndexFunc_impl_Activity_impl_Activity := by kernel_rfl
theorem K_slices_IndexFunc_impl_Activity_impl_Activity : SigOk Try.prog 184 T_slices_IndexFunc_impl_Activity_impl_Activity := (congrArg (SigOk Try.prog 184) E_slices_IndexFunc_impl_Activity_impl_Activity).mp (fnOf_ok rfl tysOk trivial Try.func184 (by decide) rfl (fun _ h => by cases h))
def impl_ActivityIndex_1 (x : (((List UInt8) × (Int × ((List (Int × ((List Int) × ((List Int) × Unit)))) × Unit))) × Unit)) (c : ((List UInt8) × Unit)) : (Option (Bool × Unit)) :=
  (some ((eqS x.1.1 c.1), ()))
def H_impl_ActivityIndex_1 : Hd := ⟨[.st [.str, .int .i64, .sl 37 (.st [.int .i64, .sl 3 (.int .i64), .sl 3 (.int .i64)])]], [.str], none, .p, .bool, .p, []⟩
def T_impl_ActivityIndex_1 : FSig := ⟨H_impl_ActivityIndex_1.ps, H_impl_ActivityIndex_1.cs, H_impl_ActivityIndex_1.io, H_impl_ActivityIndex_1.im, H_impl_ActivityIndex_1.R, H_impl_ActivityIndex_1.m, impl_ActivityIndex_1⟩
theorem E_impl_ActivityIndex_1 : fnOf tys [] Try.f185 H_impl_ActivityIndex_1 = T_impl_ActivityIndex_1 := by kernel_rfl
theorem K_impl_ActivityIndex_1 : SigOk Try.prog 185 T_impl_ActivityIndex_1 := (congrArg (SigOk Try.prog 185) E_impl_ActivityIndex_1).mp (fnOf_ok rfl tysOk trivial Try.func185 (by decide) rfl (fun _ h => by cases h))
def impl_ActivityIndex (x : ((Int × ((List ((List UInt8) × (Int × ((List (Int × ((List Int) × ((List Int) × Unit)))) × Unit)))) × ((List (Int × (Int × (Bool × (Int × Unit))))) × ((List ((List (Int × (Int × Unit))) × ((List (List Int)) × Unit))) × ((List Int) × Unit))))) × ((List UInt8) × Unit))) (c : Unit) : (Option (Int × Unit)) :=
  (Option.bind ((Option.bind (slices_IndexFunc_impl_Activity_impl_Activity (x.1.2.1, ((fun v0 => (Option.bind (impl_ActivityIndex_1 v0 (x.2.1, ())) fun v1 => (some v1.1))), ())) ()) fun v2 => (some v2.1)) : (Option Int)) fun v3 => (some (v3, ())))
def H_impl_ActivityIndex : Hd := ⟨[.st [.int .i64, .sl 35 (.st [.str, .int .i64, .sl 37 (.st [.int .i64, .sl 3 (.int .i64), .sl 3 (.int .i64)])]), .sl 115 (.st [.int .i64, .int .i64, .bool, .int .i64]), .sl 44 (.st [.sl 176 (.st [.int .i64, .int .i64]), .sl 26 (.sl 3 (.int .i64))]), .sl 3 (.int .i64)], .str], [], none, .p, .int .i64, .p, []⟩
def T_impl_ActivityIndex : FSig := ⟨H_impl_ActivityIndex.ps, H_impl_ActivityIndex.cs, H_impl_ActivityIndex.io, H_impl_ActivityIndex.im, H_impl_ActivityIndex.R, H_impl_ActivityIndex.m, impl_ActivityIndex⟩
theorem E_impl_ActivityIndex : fnOf tys [(184, T_slices_IndexFunc_impl_Activity_impl_Activity), (185, T_impl_ActivityIndex_1)] Try.f135 H_impl_ActivityIndex = T_impl_ActivityIndex := by kernel_rfl
theorem K_impl_ActivityIndex : SigOk Try.prog 135 T_impl_ActivityIndex := (congrArg (SigOk Try.prog 135) E_impl_ActivityIndex).mp (fnOf_ok rfl tysOk ⟨K_slices_IndexFunc_impl_Activity_impl_Activity, K_impl_ActivityIndex_1, trivial⟩ Try.func135 (by decide) rfl (fun _ h => by cases h))
def slices_IndexFunc_impl_Link_impl_Link_L0 : (Int × (Int × ((((Int × (Int × (Bool × (Int × Unit)))) × Unit) → (Option Bool)) × ((List (Int × (Int × (Bool × (Int × Unit))))) × Unit)))) → Option (Out (Int × (Int × ((((Int × (Int × (Bool × (Int × Unit)))) × Unit) → (Option Bool)) × ((List (Int × (Int × (Bool × (Int × Unit))))) × Unit)))) ((Bool × (Int × (Int × ((((Int × (Int × (Bool × (Int × Unit)))) × Unit) → (Option Bool)) × ((List (Int × (Int × (Bool × (Int × Unit))))) × Unit))))) ⊕ Empty) (Int × Unit)) :=
  (fun v0 => (if (ltZ v0.1 v0.2.1) = true then (Option.bind (getI v0.2.2.2.1 v0.1) fun v1 => (Option.bind (v0.2.2.1 (v1, ())) fun v2 => (if v2 = true then (some (Out.ret (v0.1, ()))) else (some (Out.norm ((addZ .i64 v0.1 1), (v0.2.1, (v0.2.2.1, (v0.2.2.2.1, ()))))))))) else (some (Out.exit (Sum.inl ((ltZ v0.1 v0.2.1), (v0.1, (v0.2.1, (v0.2.2.1, (v0.2.2.2.1, ()))))))))))
def slices_IndexFunc_impl_Link_impl_Link (x : ((List (Int × (Int × (Bool × (Int × Unit))))) × ((((Int × (Int × (Bool × (Int × Unit)))) × Unit) → (Option Bool)) × Unit))) (c : Unit) : (Option (Int × Unit)) :=
  (Option.bind (loopN (A := (Int × (Int × ((((Int × (Int × (Bool × (Int × Unit)))) × Unit) → (Option Bool)) × ((List (Int × (Int × (Bool × (Int × Unit))))) × Unit))))) big slices_IndexFunc_impl_Link_impl_Link_L0 (0, ((lenI x.1), (x.2.1, (x.1, ()))))) fun v3 => (match v3 with | Out.norm v4 => none | Out.exit v5 => (match ((match v5 with | Sum.inl v8 => (Sum.inl ()) | Sum.inr v9 => (Empty.elim v9)) : (Unit ⊕ Empty)) with | Sum.inl v6 => (some ((-1), ())) | Sum.inr v7 => none) | Out.ret v10 => (some v10)))
def H_slices_IndexFunc_impl_Link_impl_Link : Hd := ⟨[.sl 115 (.st [.int .i64, .int .i64, .bool, .int .i64]), .fn [.st [.int .i64, .int .i64, .bool, .int .i64]] (.bool)], [], none, .p, .int .i64, .p, []⟩
def T_slices_IndexFunc_impl_Link_impl_Link : FSig := ⟨H_slices_IndexFunc_impl_Link_impl_Link.ps, H_slices_IndexFunc_impl_Link_impl_Link.cs, H_slices_IndexFunc_impl_Link_impl_Link.io, H_slices_IndexFunc_impl_Link_impl_Link.im, H_slices_IndexFunc_impl_Link_impl_Link.R, H_slices_IndexFunc_impl_Link_impl_Link.m, slices_IndexFunc_impl_Link_impl_Link⟩
theorem E_slices_IndexFunc_impl_Link_impl_Link : fnOf tys [] Try.f186 H_slices_IndexFunc_impl_Link_impl_Link = T_slices_IndexFunc_impl_Link_impl_Link := by kernel_rfl
theorem K_slices_IndexFunc_impl_Link_impl_Link : SigOk Try.prog 186 T_slices_IndexFunc_impl_Link_impl_Link := (congrArg (SigOk Try.prog 186) E_slices_IndexFunc_impl_Link_impl_Link).mp (fnOf_ok rfl tysOk trivial Try.func186 (by decide) rfl (fun _ h => by cases h))
def slices_ContainsFunc_impl_Link_impl_Link (x : ((List (Int × (Int × (Bool × (Int × Unit))))) × ((((Int × (Int × (Bool × (Int × Unit)))) × Unit) → (Option Bool)) × Unit))) (c : Unit) : (Option (Bool × Unit)) :=
  (Option.bind ((Option.bind (slices_IndexFunc_impl_Link_impl_Link (x.1, (x.2.1, ())) ()) fun v0 => (some v0.1)) : (Option Int)) fun v1 => (some ((leZ 0 v1), ())))
def H_slices_ContainsFunc_impl_Link_impl_Link : Hd := ⟨[.sl 115 (.st [.int .i64, .int .i64, .bool, .int .i64]), .fn [.st [.int .i64, .int .i64, .bool, .int .i64]] (.bool)], [], none, .p, .bool, .p, []⟩
def T_slices_ContainsFunc_impl_Link_impl_Link : FSig := ⟨H_slices_ContainsFunc_impl_Link_impl_Link.ps, H_slices_ContainsFunc_impl_Link_impl_Link.cs, H_slices_ContainsFunc_impl_Link_impl_Link.io, H_slices_ContainsFunc_impl_Link_impl_Link.im, H_slices_ContainsFunc_impl_Link_impl_Link.R, H_slices_ContainsFunc_impl_Link_impl_Link.m, slices_ContainsFunc_impl_Link_impl_Link⟩
theorem E_slices_ContainsFunc_impl_Link_impl_Link : fnOf tys [(186, T_slices_IndexFunc_impl_Link_impl_Link)] Try.f136 H_slices_ContainsFunc_impl_Link_impl_Link = T_slices_ContainsFunc_impl_Link_impl_Link := by kernel_rfl
theorem K_slices_ContainsFunc_impl_Link_impl_Link : SigOk Try.prog 136 T_slices_ContainsFunc_impl_Link_impl_Link := (congrArg (SigOk Try.prog 136) E_slices_ContainsFunc_impl_Link_impl_Link).mp (fnOf_ok rfl tysOk ⟨K_slices_IndexFunc_impl_Link_impl_Link, trivial⟩ Try.func136 (by decide) rfl (fun _ h => by cases h))
def impl_Project_hasActivity (x : ((Int × ((List ((List UInt8) × (Int × ((List (Int × ((List Int) × ((List Int) × Unit)))) × Unit)))) × ((List (Int × (Int × (Bool × (Int × Unit))))) × ((List ((List (Int × (Int × Unit))) × ((List (List Int)) × Unit))) × ((List Int) × Unit))))) × (Int × Unit))) (c : Unit) : (Option (Bool × Unit)) :=
  (Option.bind ((Option.bind (impl_within (x.2.1, (0, ((subZ .i64 (lenI x.1.2.1) 1), ()))) ()) fun v0 => (some v0.1)) : (Option Bool)) fun v1 => (some (v1, ())))
def H_impl_Project_hasActivity : Hd := ⟨[.st [.int .i64, .sl 35 (.st [.str, .int .i64, .sl 37 (.st [.int .i64, .sl 3 (.int .i64), .sl 3 (.int .i64)])]), .sl 115 (.st [.int .i64, .int .i64, .bool, .int .i64]), .sl 44 (.st [.sl 176 (.st [.int .i64, .int .i64]), .sl 26 (.sl 3 (.int .i64))]), .sl 3 (.int .i64)], .int .i64], [], none, .p, .bool, .p, []⟩
def T_impl_Project_hasActivity : FSig := ⟨H_impl_Project_hasActivity.ps, H_impl_Project_hasActivity.cs, H_impl_Project_hasActivity.io, H_impl_Project_hasActivity.im, H_impl_Project_hasActivity.R, H_impl_Project_hasActivity.m, impl_Project_hasActivity⟩
theorem E_impl_Project_hasActivity : fnOf tys [(69, T_impl_within)] Try.f104 H_impl_Project_hasActivity = T_impl_Project_hasActivity := by kernel_rfl
theorem K_impl_Project_hasActivity : SigOk Try.prog 104 T_impl_Project_hasActivity := (congrArg (SigOk Try.prog 104) E_impl_Project_hasActivity).mp (fnOf_ok rfl tysOk ⟨K_impl_within, trivial⟩ Try.func104 (by decide) rfl (fun _ h => by cases h))
def impl_Project_linkOk (x : ((Int × ((List ((List UInt8) × (Int × ((List (Int × ((List Int) × ((List Int) × Unit)))) × Unit)))) × ((List (Int × (Int × (Bool × (Int × Unit))))) × ((List ((List (Int × (Int × Unit))) × ((List (List Int)) × Unit))) × ((List Int) × Unit))))) × ((Int × (Int × (Bool × (Int × Unit)))) × Unit))) (c : Unit) : (Option (Bool × Unit)) :=
  (Option.bind ((Option.bind (impl_Project_hasActivity (x.1, (x.2.1.1, ())) ()) fun v0 => (some v0.1)) : (Option Bool)) fun v1 => (Option.bind ((if v1 = true then (Option.bind ((Option.bind (impl_Project_hasActivity (x.1, (x.2.1.2.1, ())) ()) fun v2 => (some v2.1)) : (Option Bool)) fun v3 => (Option.bind ((if v3 = true then (Option.bind ((if (notB (eqZ x.2.1.1 x.2.1.2.1)) = true then (Option.bind ((Option.bind (impl_within (x.2.1.2.2.2.1, ((-60), (60, ()))) ()) fun v4 => (some v4.1)) : (Option Bool)) fun v5 => (some (v5, ()))) else (some (false, ()))) : (Option (Bool × Unit))) fun v6 => (some (v6.1, ()))) else (some (false, ()))) : (Option (Bool × Unit))) fun v7 => (some (v7.1, ())))) else (some (false, ()))) : (Option (Bool × Unit))) fun v8 => (some (v8.1, ()))))
def H_impl_Project_linkOk : Hd := ⟨[.st [.int .i64, .sl 35 (.st [.str, .int .i64, .sl 37 (.st [.int .i64, .sl 3 (.int .i64), .sl 3 (.int .i64)])]), .sl 115 (.st [.int .i64, .int .i64, .bool, .int .i64]), .sl 44 (.st [.sl 176 (.st [.int .i64, .int .i64]), .sl 26 (.sl 3 (.int .i64))]), .sl 3 (.int .i64)], .st [.int .i64, .int .i64, .bool, .int .i64]], [], none, .p, .bool, .p, []⟩
def T_impl_Project_linkOk : FSig := ⟨H_impl_Project_linkOk.ps, H_impl_Project_linkOk.cs, H_impl_Project_linkOk.io, H_impl_Project_linkOk.im, H_impl_Project_linkOk.R, H_impl_Project_linkOk.m, impl_Project_linkOk⟩
theorem E_impl_Project_linkOk : fnOf tys [(69, T_impl_within), (104, T_impl_Project_hasActivity)] Try.f138 H_impl_Project_linkOk = T_impl_Project_linkOk := by kernel_rfl
theorem K_impl_Project_linkOk : SigOk Try.prog 138 T_impl_Project_linkOk := (congrArg (SigOk Try.prog 138) E_impl_Project_linkOk).mp (fnOf_ok rfl tysOk ⟨K_impl_within, K_impl_Project_hasActivity, trivial⟩ Try.func138 (by decide) rfl (fun _ h => by cases h))
def impl_ProjectOk_1 (x : ((Int × (Int × (Bool × (Int × Unit)))) × Unit)) (c : ((Int × ((List ((List UInt8) × (Int × ((List (Int × ((List Int) × ((List Int) × Unit)))) × Unit)))) × ((List (Int × (Int × (Bool × (Int × Unit))))) × ((List ((List (Int × (Int × Unit))) × ((List (List Int)) × Unit))) × ((List Int) × Unit))))) × Unit)) : (Option (Bool × Unit)) :=
  (Option.bind ((Option.bind (impl_Project_linkOk (c.1, (x.1, ())) ()) fun v0 => (some v0.1)) : (Option Bool)) fun v1 => (some ((notB v1), ())))
def H_impl_ProjectOk_1 : Hd := ⟨[.st [.int .i64, .int .i64, .bool, .int .i64]], [.st [.int .i64, .sl 35 (.st [.str, .int .i64, .sl 37 (.st [.int .i64, .sl 3 (.int .i64), .sl 3 (.int .i64)])]), .sl 115 (.st [.int .i64, .int .i64, .bool, .int .i64]), .sl 44 (.st [.sl 176 (.st [.int .i64, .int .i64]), .sl 26 (.sl 3 (.int .i64))]), .sl 3 (.int .i64)]], none, .p, .bool, .p, []⟩
def T_impl_ProjectOk_1 : FSig := ⟨H_impl_ProjectOk_1.ps, H_impl_ProjectOk_1.cs, H_impl_ProjectOk_1.io, H_impl_ProjectOk_1.im, H_impl_ProjectOk_1.R, H_impl_ProjectOk_1.m, impl_ProjectOk_1⟩
theorem E_impl_ProjectOk_1 : fnOf tys [(138, T_impl_Project_linkOk)] Try.f137 H_impl_ProjectOk_1 = T_impl_ProjectOk_1 := by kernel_rfl
theorem K_impl_ProjectOk_1 : SigOk Try.prog 137 T_impl_ProjectOk_1 := (congrArg (SigOk Try.prog 137) E_impl_ProjectOk_1).mp (fnOf_ok rfl tysOk ⟨K_impl_Project_linkOk, trivial⟩ Try.func137 (by decide) rfl (fun _ h => by cases h))
def impl_ProjectOk_L0 : (Int × (Int × ((List ((List UInt8) × (Int × ((List (Int × ((List Int) × ((List Int) × Unit)))) × Unit)))) × ((Int × ((List ((List UInt8) × (Int × ((List (Int × ((List Int) × ((List Int) × Unit)))) × Unit)))) × ((List (Int × (Int × (Bool × (Int × Unit))))) × ((List ((List (Int × (Int × Unit))) × ((List (List Int)) × Unit))) × ((List Int) × Unit))))) × Unit)))) → Option (Out (Int × (Int × ((List ((List UInt8) × (Int × ((List (Int × ((List Int) × ((List Int) × Unit)))) × Unit)))) × ((Int × ((List ((List UInt8) × (Int × ((List (Int × ((List Int) × ((List Int) × Unit)))) × Unit)))) × ((List (Int × (Int × (Bool × (Int × Unit))))) × ((List ((List (Int × (Int × Unit))) × ((List (List Int)) × Unit))) × ((List Int) × Unit))))) × Unit)))) ((Bool × (Int × (Int × ((List ((List UInt8) × (Int × ((List (Int × ((List Int) × ((List Int) × Unit)))) × Unit)))) × ((Int × ((List ((List UInt8) × (Int × ((List (Int × ((List Int) × ((List Int) × Unit)))) × Unit)))) × ((List (Int × (Int × (Bool × (Int × Unit))))) × ((List ((List (Int × (Int × Unit))) × ((List (List Int)) × Unit))) × ((List Int) × Unit))))) × Unit))))) ⊕ Empty) (Bool × Unit)) :=
  (fun v8 => (if (ltZ v8.1 v8.2.1) = true then (Option.bind (getI v8.2.2.1 v8.1) fun v9 => (Option.bind ((Option.bind (impl_ActivityOk (v9, ((lenI v8.2.2.2.1.2.2.2.1), ((lenI v8.2.2.2.1.2.2.2.2.1), ()))) ()) fun v10 => (some v10.1)) : (Option Bool)) fun v11 => (Option.bind ((if (notB v11) = true then (some (true, (v8.1, (v8.2.1, (v8.2.2.1, (v8.2.2.2.1, ())))))) else (Option.bind ((Option.bind (impl_ActivityIndex (v8.2.2.2.1, (v9.1, ())) ()) fun v12 => (some v12.1)) : (Option Int)) fun v13 => (some ((notB (eqZ v13 v8.1)), (v8.1, (v8.2.1, (v8.2.2.1, (v8.2.2.2.1, ())))))))) : (Option (Bool × (Int × (Int × ((List ((List UInt8) × (Int × ((List (Int × ((List Int) × ((List Int) × Unit)))) × Unit)))) × ((Int × ((List ((List UInt8) × (Int × ((List (Int × ((List Int) × ((List Int) × Unit)))) × Unit)))) × ((List (Int × (Int × (Bool × (Int × Unit))))) × ((List ((List (Int × (Int × Unit))) × ((List (List Int)) × Unit))) × ((List Int) × Unit))))) × Unit))))))) fun v14 => (if v14.1 = true then (some (Out.ret (false, ()))) else (some (Out.norm ((addZ .i64 v14.2.1 1), (v14.2.2.1, (v14.2.2.2.1, (v14.2.2.2.2.1, ())))))))))) else (some (Out.exit (Sum.inl ((ltZ v8.1 v8.2.1), (v8.1, (v8.2.1, (v8.2.2.1, (v8.2.2.2.1, ()))))))))))
def impl_ProjectOk_L1 : (Int × (Int × ((List ((List (Int × (Int × Unit))) × ((List (List Int)) × Unit))) × ((Int × ((List ((List UInt8) × (Int × ((List (Int × ((List Int) × ((List Int) × Unit)))) × Unit)))) × ((List (Int × (Int × (Bool × (Int × Unit))))) × ((List ((List (Int × (Int × Unit))) × ((List (List Int)) × Unit))) × ((List Int) × Unit))))) × Unit)))) → Option (Out (Int × (Int × ((List ((List (Int × (Int × Unit))) × ((List (List Int)) × Unit))) × ((Int × ((List ((List UInt8) × (Int × ((List (Int × ((List Int) × ((List Int) × Unit)))) × Unit)))) × ((List (Int × (Int × (Bool × (Int × Unit))))) × ((List ((List (Int × (Int × Unit))) × ((List (List Int)) × Unit))) × ((List Int) × Unit))))) × Unit)))) ((Bool × (Int × (Int × ((List ((List (Int × (Int × Unit))) × ((List (List Int)) × Unit))) × ((Int × ((List ((List UInt8) × (Int × ((List (Int × ((List Int) × ((List Int) × Unit)))) × Unit)))) × ((List (Int × (Int × (Bool × (Int × Unit))))) × ((List ((List (Int × (Int × Unit))) × ((List (List Int)) × Unit))) × ((List Int) × Unit))))) × Unit))))) ⊕ Empty) (Bool × Unit)) :=
  (fun v19 => (if (ltZ v19.1 v19.2.1) = true then (Option.bind (getI v19.2.2.1 v19.1) fun v20 => (Option.bind ((Option.bind (impl_ResourceOk (v20, ()) ()) fun v21 => (some v21.1)) : (Option Bool)) fun v22 => (if (notB v22) = true then (some (Out.ret (false, ()))) else (some (Out.norm ((addZ .i64 v19.1 1), (v19.2.1, (v19.2.2.1, (v19.2.2.2.1, ()))))))))) else (some (Out.exit (Sum.inl ((ltZ v19.1 v19.2.1), (v19.1, (v19.2.1, (v19.2.2.1, (v19.2.2.2.1, ()))))))))))
def impl_ProjectOk_L2 : (Int × (Int × ((List Int) × ((Int × ((List ((List UInt8) × (Int × ((List (Int × ((List Int) × ((List Int) × Unit)))) × Unit)))) × ((List (Int × (Int × (Bool × (Int × Unit))))) × ((List ((List (Int × (Int × Unit))) × ((List (List Int)) × Unit))) × ((List Int) × Unit))))) × Unit)))) → Option (Out (Int × (Int × ((List Int) × ((Int × ((List ((List UInt8) × (Int × ((List (Int × ((List Int) × ((List Int) × Unit)))) × Unit)))) × ((List (Int × (Int × (Bool × (Int × Unit))))) × ((List ((List (Int × (Int × Unit))) × ((List (List Int)) × Unit))) × ((List Int) × Unit))))) × Unit)))) ((Bool × (Int × (Int × ((List Int) × ((Int × ((List ((List UInt8) × (Int × ((List (Int × ((List Int) × ((List Int) × Unit)))) × Unit)))) × ((List (Int × (Int × (Bool × (Int × Unit))))) × ((List ((List (Int × (Int × Unit))) × ((List (List Int)) × Unit))) × ((List Int) × Unit))))) × Unit))))) ⊕ Empty) (Bool × Unit)) :=
  (fun v27 => (if (ltZ v27.1 v27.2.1) = true then (Option.bind (getI v27.2.2.1 v27.1) fun v28 => (Option.bind ((Option.bind (impl_within (v28, (0, (100, ()))) ()) fun v29 => (some v29.1)) : (Option Bool)) fun v30 => (if (notB v30) = true then (some (Out.ret (false, ()))) else (some (Out.norm ((addZ .i64 v27.1 1), (v27.2.1, (v27.2.2.1, (v27.2.2.2.1, ()))))))))) else (some (Out.exit (Sum.inl ((ltZ v27.1 v27.2.1), (v27.1, (v27.2.1, (v27.2.2.1, (v27.2.2.2.1, ()))))))))))
def impl_ProjectOk (x : ((Int × ((List ((List UInt8) × (Int × ((List (Int × ((List Int) × ((List Int) × Unit)))) × Unit)))) × ((List (Int × (Int × (Bool × (Int × Unit))))) × ((List ((List (Int × (Int × Unit))) × ((List (List Int)) × Unit))) × ((List Int) × Unit))))) × Unit)) (c : Unit) : (Option (Bool × Unit)) :=
  (Option.bind ((Option.bind (impl_within (x.1.1, (1, (60, ()))) ()) fun v0 => (some v0.1)) : (Option Bool)) fun v1 => (Option.bind ((if (notB v1) = true then (some (true, (x.1, ()))) else (Option.bind ((Option.bind (impl_within ((lenI x.1.2.1), (1, (6, ()))) ()) fun v2 => (some v2.1)) : (Option Bool)) fun v3 => (Option.bind ((if (notB v3) = true then (some (true, (x.1, ()))) else (Option.bind ((if (ltZ 3 (lenI x.1.2.2.2.1)) = true then (some (true, (x.1, ()))) else (Option.bind ((if (ltZ 2 (lenI x.1.2.2.2.2.1)) = true then (some (true, (x.1, ()))) else (some ((ltZ 12 (lenI x.1.2.2.1)), (x.1, ())))) : (Option (Bool × ((Int × ((List ((List UInt8) × (Int × ((List (Int × ((List Int) × ((List Int) × Unit)))) × Unit)))) × ((List (Int × (Int × (Bool × (Int × Unit))))) × ((List ((List (Int × (Int × Unit))) × ((List (List Int)) × Unit))) × ((List Int) × Unit))))) × Unit)))) fun v4 => (some (v4.1, (v4.2.1, ()))))) : (Option (Bool × ((Int × ((List ((List UInt8) × (Int × ((List (Int × ((List Int) × ((List Int) × Unit)))) × Unit)))) × ((List (Int × (Int × (Bool × (Int × Unit))))) × ((List ((List (Int × (Int × Unit))) × ((List (List Int)) × Unit))) × ((List Int) × Unit))))) × Unit)))) fun v5 => (some (v5.1, (v5.2.1, ()))))) : (Option (Bool × ((Int × ((List ((List UInt8) × (Int × ((List (Int × ((List Int) × ((List Int) × Unit)))) × Unit)))) × ((List (Int × (Int × (Bool × (Int × Unit))))) × ((List ((List (Int × (Int × Unit))) × ((List (List Int)) × Unit))) × ((List Int) × Unit))))) × Unit)))) fun v6 => (some (v6.1, (v6.2.1, ())))))) : (Option (Bool × ((Int × ((List ((List UInt8) × (Int × ((List (Int × ((List Int) × ((List Int) × Unit)))) × Unit)))) × ((List (Int × (Int × (Bool × (Int × Unit))))) × ((List ((List (Int × (Int × Unit))) × ((List (List Int)) × Unit))) × ((List Int) × Unit))))) × Unit)))) fun v7 => (if v7.1 = true then (some (false, ())) else (Option.bind (loopN (A := (Int × (Int × ((List ((List UInt8) × (Int × ((List (Int × ((List Int) × ((List Int) × Unit)))) × Unit)))) × ((Int × ((List ((List UInt8) × (Int × ((List (Int × ((List Int) × ((List Int) × Unit)))) × Unit)))) × ((List (Int × (Int × (Bool × (Int × Unit))))) × ((List ((List (Int × (Int × Unit))) × ((List (List Int)) × Unit))) × ((List Int) × Unit))))) × Unit))))) big impl_ProjectOk_L0 (0, ((lenI v7.2.1.2.1), (v7.2.1.2.1, (v7.2.1, ()))))) fun v15 => (match v15 with | Out.norm v16 => none | Out.exit v17 => (match ((match v17 with | Sum.inl v48 => (Sum.inl (v48.2.2.2.2.1, ())) | Sum.inr v49 => (Empty.elim v49)) : (((Int × ((List ((List UInt8) × (Int × ((List (Int × ((List Int) × ((List Int) × Unit)))) × Unit)))) × ((List (Int × (Int × (Bool × (Int × Unit))))) × ((List ((List (Int × (Int × Unit))) × ((List (List Int)) × Unit))) × ((List Int) × Unit))))) × Unit) ⊕ Empty)) with | Sum.inl v18 => (Option.bind (loopN (A := (Int × (Int × ((List ((List (Int × (Int × Unit))) × ((List (List Int)) × Unit))) × ((Int × ((List ((List UInt8) × (Int × ((List (Int × ((List Int) × ((List Int) × Unit)))) × Unit)))) × ((List (Int × (Int × (Bool × (Int × Unit))))) × ((List ((List (Int × (Int × Unit))) × ((List (List Int)) × Unit))) × ((List Int) × Unit))))) × Unit))))) big impl_ProjectOk_L1 (0, ((lenI v18.1.2.2.2.1), (v18.1.2.2.2.1, (v18.1, ()))))) fun v23 => (match v23 with | Out.norm v24 => none | Out.exit v25 => (match ((match v25 with | Sum.inl v44 => (Sum.inl (v44.2.2.2.2.1, ())) | Sum.inr v45 => (Empty.elim v45)) : (((Int × ((List ((List UInt8) × (Int × ((List (Int × ((List Int) × ((List Int) × Unit)))) × Unit)))) × ((List (Int × (Int × (Bool × (Int × Unit))))) × ((List ((List (Int × (Int × Unit))) × ((List (List Int)) × Unit))) × ((List Int) × Unit))))) × Unit) ⊕ Empty)) with | Sum.inl v26 => (Option.bind (loopN (A := (Int × (Int × ((List Int) × ((Int × ((List ((List UInt8) × (Int × ((List (Int × ((List Int) × ((List Int) × Unit)))) × Unit)))) × ((List (Int × (Int × (Bool × (Int × Unit))))) × ((List ((List (Int × (Int × Unit))) × ((List (List Int)) × Unit))) × ((List Int) × Unit))))) × Unit))))) big impl_ProjectOk_L2 (0, ((lenI v26.1.2.2.2.2.1), (v26.1.2.2.2.2.1, (v26.1, ()))))) fun v31 => (match v31 with | Out.norm v32 => none | Out.exit v33 => (match ((match v33 with | Sum.inl v40 => (Sum.inl (v40.2.2.2.2.1, ())) | Sum.inr v41 => (Empty.elim v41)) : (((Int × ((List ((List UInt8) × (Int × ((List (Int × ((List Int) × ((List Int) × Unit)))) × Unit)))) × ((List (Int × (Int × (Bool × (Int × Unit))))) × ((List ((List (Int × (Int × Unit))) × ((List (List Int)) × Unit))) × ((List Int) × Unit))))) × Unit) ⊕ Empty)) with | Sum.inl v34 => (Option.bind ((Option.bind (slices_ContainsFunc_impl_Link_impl_Link (v34.1.2.2.1, ((fun v35 => (Option.bind (impl_ProjectOk_1 v35 (v34.1, ())) fun v36 => (some v36.1))), ())) ()) fun v37 => (some v37.1)) : (Option Bool)) fun v38 => (some ((notB v38), ()))) | Sum.inr v39 => none) | Out.ret v42 => (some v42))) | Sum.inr v43 => none) | Out.ret v46 => (some v46))) | Sum.inr v47 => none) | Out.ret v50 => (some v50))))))
def H_impl_ProjectOk : Hd := ⟨[.st [.int .i64, .sl 35 (.st [.str, .int .i64, .sl 37 (.st [.int .i64, .sl 3 (.int .i64), .sl 3 (.int .i64)])]), .sl 115 (.st [.int .i64, .int .i64, .bool, .int .i64]), .sl 44 (.st [.sl 176 (.st [.int .i64, .int .i64]), .sl 26 (.sl 3 (.int .i64))]), .sl 3 (.int .i64)]], [], none, .p, .bool, .p, []⟩
def T_impl_ProjectOk : FSig := ⟨H_impl_ProjectOk.ps, H_impl_ProjectOk.cs, H_impl_ProjectOk.io, H_impl_ProjectOk.im, H_impl_ProjectOk.R, H_impl_ProjectOk.m, impl_ProjectOk⟩
theorem E_impl_ProjectOk : fnOf tys [(15, T_impl_ResourceOk), (69, T_impl_within), (134, T_impl_ActivityOk), (135, T_impl_ActivityIndex), (136, T_slices_ContainsFunc_impl_Link_impl_Link), (137, T_impl_ProjectOk_1)] Try.f58 H_impl_ProjectOk = T_impl_ProjectOk := by kernel_rfl
theorem K_impl_ProjectOk : SigOk Try.prog 58 T_impl_ProjectOk := (congrArg (SigOk Try.prog 58) E_impl_ProjectOk).mp (fnOf_ok rfl tysOk ⟨K_impl_ResourceOk, K_impl_within, K_impl_ActivityOk, K_impl_ActivityIndex, K_slices_ContainsFunc_impl_Link_impl_Link, K_impl_ProjectOk_1, trivial⟩ Try.func58 (by decide) rfl (fun _ h => by cases h))
def impl_Project_hasResource (x : ((Int × ((List ((List UInt8) × (Int × ((List (Int × ((List Int) × ((List Int) × Unit)))) × Unit)))) × ((List (Int × (Int × (Bool × (Int × Unit))))) × ((List ((List (Int × (Int × Unit))) × ((List (List Int)) × Unit))) × ((List Int) × Unit))))) × (Int × Unit))) (c : Unit) : (Option (Bool × Unit)) :=
  (Option.bind ((Option.bind (impl_within (x.2.1, (0, ((subZ .i64 (lenI x.1.2.2.2.1) 1), ()))) ()) fun v0 => (some v0.1)) : (Option Bool)) fun v1 => (some (v1, ())))
def H_impl_Project_hasResource : Hd := ⟨[.st [.int .i64, .sl 35 (.st [.str, .int .i64, .sl 37 (.st [.int .i64, .sl 3 (.int .i64), .sl 3 (.int .i64)])]), .sl 115 (.st [.int .i64, .int .i64, .bool, .int .i64]), .sl 44 (.st [.sl 176 (.st [.int .i64, .int .i64]), .sl 26 (.sl 3 (.int .i64))]), .sl 3 (.int .i64)], .int .i64], [], none, .p, .bool, .p, []⟩
def T_impl_Project_hasResource : FSig := ⟨H_impl_Project_hasResource.ps, H_impl_Project_hasResource.cs, H_impl_Project_hasResource.io, H_impl_Project_hasResource.im, H_impl_Project_hasResource.R, H_impl_Project_hasResource.m, impl_Project_hasResource⟩
theorem E_impl_Project_hasResource : fnOf tys [(69, T_impl_within)] Try.f59 H_impl_Project_hasResource = T_impl_Project_hasResource := by kernel_rfl
theorem K_impl_Project_hasResource : SigOk Try.prog 59 T_impl_Project_hasResource := (congrArg (SigOk Try.prog 59) E_impl_Project_hasResource).mp (fnOf_ok rfl tysOk ⟨K_impl_within, trivial⟩ Try.func59 (by decide) rfl (fun _ h => by cases h))
def laws_szIntS (x : ((List Int) × (Int × Unit))) (c : Unit) : (Option (Int × Unit)) :=
  (if (ltZ (subZ .i64 x.2.1 (lenI x.1)) 0) = true then (some ((-1), ())) else (some ((subZ .i64 x.2.1 (lenI x.1)), ())))
def H_laws_szIntS : Hd := ⟨[.sl 3 (.int .i64), .int .i64], [], none, .p, .int .i64, .p, []⟩
def T_laws_szIntS : FSig := ⟨H_laws_szIntS.ps, H_laws_szIntS.cs, H_laws_szIntS.io, H_laws_szIntS.im, H_laws_szIntS.R, H_laws_szIntS.m, laws_szIntS⟩
theorem E_laws_szIntS : fnOf tys [] Try.f80 H_laws_szIntS = T_laws_szIntS := by kernel_rfl
theorem K_laws_szIntS : SigOk Try.prog 80 T_laws_szIntS := (congrArg (SigOk Try.prog 80) E_laws_szIntS).mp (fnOf_ok rfl tysOk trivial Try.func80 (by decide) rfl (fun _ h => by cases h))
def laws_toIntS_L0 : (Int × ((List Int) × ((List Int) × Unit))) → Option (Out (Int × ((List Int) × ((List Int) × Unit))) ((Bool × (Int × ((List Int) × ((List Int) × Unit)))) ⊕ Empty) ((List Int) × Unit)) :=
  (fun v1 => (if (ltZ v1.1 (lenI v1.2.1)) = true then (Option.bind (getI v1.2.1 v1.1) fun v2 => (Option.bind ((Option.bind (getI v1.2.2.1 v1.1) fun v3 => (some ())) : (Option Unit)) fun v4 => (Option.bind ((Option.bind ((Option.bind (getI v1.2.2.1 v1.1) fun v5 => (some v5)) : (Option Int)) fun v6 => (some v2)) : (Option Int)) fun v7 => (some (Out.norm ((addZ .i64 v1.1 1), (v1.2.1, ((setI v1.2.2.1 v1.1 (fun v8 => v7)), ())))))))) else (some (Out.exit (Sum.inl ((ltZ v1.1 (lenI v1.2.1)), (v1.1, (v1.2.1, (v1.2.2.1, ())))))))))
def laws_toIntS (x : ((List Int) × Unit)) (c : Unit) : (Option ((List Int) × Unit)) :=
  (Option.bind ((if (eqZ (lenI x.1) (lenI x.1)) = true then (zerosI (lenI x.1) 0) else none) : (Option (List Int))) fun v0 => (Option.bind (loopN (A := (Int × ((List Int) × ((List Int) × Unit)))) big laws_toIntS_L0 (0, (x.1, (v0, ())))) fun v9 => (match v9 with | Out.norm v10 => none | Out.exit v11 => (match ((match v11 with | Sum.inl v14 => (Sum.inl (v14.2.2.2.1, ())) | Sum.inr v15 => (Empty.elim v15)) : (((List Int) × Unit) ⊕ Empty)) with | Sum.inl v12 => (some (v12.1, ())) | Sum.inr v13 => none) | Out.ret v16 => (some v16))))
def H_laws_toIntS : Hd := ⟨[.sl 3 (.int .i64)], [], none, .p, .sl 3 (.int .i64), (Ty.all (.sl 3 (.int .i64))), []⟩
def T_laws_toIntS : FSig := ⟨H_laws_toIntS.ps, H_laws_toIntS.cs, H_laws_toIntS.io, H_laws_toIntS.im, H_laws_toIntS.R, H_laws_toIntS.m, laws_toIntS⟩
theorem E_laws_toIntS : fnOf tys [] Try.f89 H_laws_toIntS = T_laws_toIntS := by kernel_rfl
theorem K_laws_toIntS : SigOk Try.prog 89 T_laws_toIntS := (congrArg (SigOk Try.prog 89) E_laws_toIntS).mp (fnOf_ok rfl tysOk trivial Try.func89 (by decide) rfl (fun _ h => by cases h))
def laws_eqIntS_L0 : (Int × ((List Int) × ((List Int) × Unit))) → Option (Out (Int × ((List Int) × ((List Int) × Unit))) ((Bool × (Int × ((List Int) × ((List Int) × Unit)))) ⊕ Empty) (Bool × Unit)) :=
  (fun v0 => (if (ltZ v0.1 (lenI v0.2.1)) = true then (Option.bind (getI v0.2.1 v0.1) fun v1 => (Option.bind (getI v0.2.2.1 v0.1) fun v2 => (if (notB (eqZ v1 v2)) = true then (some (Out.ret (false, ()))) else (some (Out.norm ((addZ .i64 v0.1 1), (v0.2.1, (v0.2.2.1, ())))))))) else (some (Out.exit (Sum.inl ((ltZ v0.1 (lenI v0.2.1)), (v0.1, (v0.2.1, (v0.2.2.1, ())))))))))
def laws_eqIntS (x : ((List Int) × ((List Int) × Unit))) (c : Unit) : (Option (Bool × Unit)) :=
  (if (notB (eqZ (lenI x.1) (lenI x.2.1))) = true then (some (false, ())) else (Option.bind (loopN (A := (Int × ((List Int) × ((List Int) × Unit)))) big laws_eqIntS_L0 (0, (x.1, (x.2.1, ())))) fun v3 => (match v3 with | Out.norm v4 => none | Out.exit v5 => (match ((match v5 with | Sum.inl v8 => (Sum.inl ()) | Sum.inr v9 => (Empty.elim v9)) : (Unit ⊕ Empty)) with | Sum.inl v6 => (some (true, ())) | Sum.inr v7 => none) | Out.ret v10 => (some v10))))
def H_laws_eqIntS : Hd := ⟨[.sl 3 (.int .i64), .sl 3 (.int .i64)], [], none, .p, .bool, .p, []⟩
def T_laws_eqIntS : FSig := ⟨H_laws_eqIntS.ps, H_laws_eqIntS.cs, H_laws_eqIntS.io, H_laws_eqIntS.im, H_laws_eqIntS.R, H_laws_eqIntS.m, laws_eqIntS⟩
theorem E_laws_eqIntS : fnOf tys [] Try.f97 H_laws_eqIntS = T_laws_eqIntS := by kernel_rfl
theorem K_laws_eqIntS : SigOk Try.prog 97 T_laws_eqIntS := (congrArg (SigOk Try.prog 97) E_laws_eqIntS).mp (fnOf_ok rfl tysOk trivial Try.func97 (by decide) rfl (fun _ h => by cases h))
def laws_szIntSS_L0 : (Int × ((List (List Int)) × (Int × Unit))) → Option (Out (Int × ((List (List Int)) × (Int × Unit))) ((Bool × (Int × ((List (List Int)) × (Int × Unit)))) ⊕ Empty) (Int × Unit)) :=
  (fun v0 => (if (ltZ v0.1 (lenI v0.2.1)) = true then (Option.bind (getI v0.2.1 v0.1) fun v1 => (Option.bind ((Option.bind (laws_szIntS (v1, (v0.2.2.1, ())) ()) fun v2 => (some v2.1)) : (Option Int)) fun v3 => (if (ltZ v3 0) = true then (some (Out.ret ((-1), ()))) else (some (Out.norm ((addZ .i64 v0.1 1), (v0.2.1, (v3, ())))))))) else (some (Out.exit (Sum.inl ((ltZ v0.1 (lenI v0.2.1)), (v0.1, (v0.2.1, (v0.2.2.1, ())))))))))
def laws_szIntSS (x : ((List (List Int)) × (Int × Unit))) (c : Unit) : (Option (Int × Unit)) :=
  (if (ltZ (subZ .i64 x.2.1 (lenI x.1)) 0) = true then (some ((-1), ())) else (Option.bind (loopN (A := (Int × ((List (List Int)) × (Int × Unit)))) big laws_szIntSS_L0 (0, (x.1, ((subZ .i64 x.2.1 (lenI x.1)), ())))) fun v4 => (match v4 with | Out.norm v5 => none | Out.exit v6 => (match ((match v6 with | Sum.inl v9 => (Sum.inl (v9.2.2.2.1, ())) | Sum.inr v10 => (Empty.elim v10)) : ((Int × Unit) ⊕ Empty)) with | Sum.inl v7 => (some (v7.1, ())) | Sum.inr v8 => none) | Out.ret v11 => (some v11))))
def H_laws_szIntSS : Hd := ⟨[.sl 26 (.sl 3 (.int .i64)), .int .i64], [], none, .p, .int .i64, .p, []⟩
def T_laws_szIntSS : FSig := ⟨H_laws_szIntSS.ps, H_laws_szIntSS.cs, H_laws_szIntSS.io, H_laws_szIntSS.im, H_laws_szIntSS.R, H_laws_szIntSS.m, laws_szIntSS⟩
theorem E_laws_szIntSS : fnOf tys [(80, T_laws_szIntS)] Try.f81 H_laws_szIntSS = T_laws_szIntSS := by kernel_rfl
theorem K_laws_szIntSS : SigOk Try.prog 81 T_laws_szIntSS := (congrArg (SigOk Try.prog 81) E_laws_szIntSS).mp (fnOf_ok rfl tysOk ⟨K_laws_szIntS, trivial⟩ Try.func81 (by decide) rfl (fun _ h => by cases h))
def spec_l01In (x : (Int × (Int × (Int × Unit)))) (c : Unit) : (Option (Bool × Unit)) :=
  (Option.bind ((if (leZ x.2.1 x.1) = true then (some ((leZ x.1 x.2.2.1), ())) else (some (false, ()))) : (Option (Bool × Unit))) fun v0 => (some (v0.1, ())))
def H_spec_l01In : Hd := ⟨[.int .i64, .int .i64, .int .i64], [], none, .p, .bool, .p, []⟩
def T_spec_l01In : FSig := ⟨H_spec_l01In.ps, H_spec_l01In.cs, H_spec_l01In.io, H_spec_l01In.im, H_spec_l01In.R, H_spec_l01In.m, spec_l01In⟩
theorem E_spec_l01In : fnOf tys [] Try.f120 H_spec_l01In = T_spec_l01In := by kernel_rfl
theorem K_spec_l01In : SigOk Try.prog 120 T_spec_l01In := (congrArg (SigOk Try.prog 120) E_spec_l01In).mp (fnOf_ok rfl tysOk trivial Try.func120 (by decide) rfl (fun _ h => by cases h))
def laws_toIntSS_L0 : (Int × ((List (List Int)) × ((List (List Int)) × Unit))) → Option (Out (Int × ((List (List Int)) × ((List (List Int)) × Unit))) ((Bool × (Int × ((List (List Int)) × ((List (List Int)) × Unit)))) ⊕ Empty) ((List (List Int)) × Unit)) :=
  (fun v1 => (if (ltZ v1.1 (lenI v1.2.1)) = true then (Option.bind (getI v1.2.1 v1.1) fun v2 => (Option.bind ((Option.bind (laws_toIntS (v2, ()) ()) fun v3 => (some v3.1)) : (Option (List Int))) fun v4 => (Option.bind ((Option.bind (getI v1.2.2.1 v1.1) fun v5 => (some ())) : (Option Unit)) fun v6 => (Option.bind ((Option.bind ((Option.bind (getI v1.2.2.1 v1.1) fun v7 => (some v7)) : (Option (List Int))) fun v8 => (some v4)) : (Option (List Int))) fun v9 => (some (Out.norm ((addZ .i64 v1.1 1), (v1.2.1, ((setI v1.2.2.1 v1.1 (fun v10 => v9)), ()))))))))) else (some (Out.exit (Sum.inl ((ltZ v1.1 (lenI v1.2.1)), (v1.1, (v1.2.1, (v1.2.2.1, ())))))))))
def laws_toIntSS (x : ((List (List Int)) × Unit)) (c : Unit) : (Option ((List (List Int)) × Unit)) :=
  (Option.bind ((if (eqZ (lenI x.1) (lenI x.1)) = true then (zerosI (lenI x.1) []) else none) : (Option (List (List Int)))) fun v0 => (Option.bind (loopN (A := (Int × ((List (List Int)) × ((List (List Int)) × Unit)))) big laws_toIntSS_L0 (0, (x.1, (v0, ())))) fun v11 => (match v11 with | Out.norm v12 => none | Out.exit v13 => (match ((match v13 with | Sum.inl v16 => (Sum.inl (v16.2.2.2.1, ())) | Sum.inr v17 => (Empty.elim v17)) : (((List (List Int)) × Unit) ⊕ Empty)) with | Sum.inl v14 => (some (v14.1, ())) | Sum.inr v15 => none) | Out.ret v18 => (some v18))))
def H_laws_toIntSS : Hd := ⟨[.sl 26 (.sl 3 (.int .i64))], [], none, .p, .sl 26 (.sl 3 (.int .i64)), (Ty.all (.sl 26 (.sl 3 (.int .i64)))), []⟩
def T_laws_toIntSS : FSig := ⟨H_laws_toIntSS.ps, H_laws_toIntSS.cs, H_laws_toIntSS.io, H_laws_toIntSS.im, H_laws_toIntSS.R, H_laws_toIntSS.m, laws_toIntSS⟩
theorem E_laws_toIntSS : fnOf tys [(89, T_laws_toIntS)] Try.f90 H_laws_toIntSS = T_laws_toIntSS := by kernel_rfl
theorem K_laws_toIntSS : SigOk Try.prog 90 T_laws_toIntSS := (congrArg (SigOk Try.prog 90) E_laws_toIntSS).mp (fnOf_ok rfl tysOk ⟨K_laws_toIntS, trivial⟩ Try.func90 (by decide) rfl (fun _ h => by cases h))
def laws_eqIntSS_L0 : (Int × ((List (List Int)) × ((List (List Int)) × Unit))) → Option (Out (Int × ((List (List Int)) × ((List (List Int)) × Unit))) ((Bool × (Int × ((List (List Int)) × ((List (List Int)) × Unit)))) ⊕ Empty) (Bool × Unit)) :=
  (fun v0 => (if (ltZ v0.1 (lenI v0.2.1)) = true then (Option.bind (getI v0.2.1 v0.1) fun v1 => (Option.bind (getI v0.2.2.1 v0.1) fun v2 => (Option.bind ((Option.bind (laws_eqIntS (v1, (v2, ())) ()) fun v3 => (some v3.1)) : (Option Bool)) fun v4 => (if (notB v4) = true then (some (Out.ret (false, ()))) else (some (Out.norm ((addZ .i64 v0.1 1), (v0.2.1, (v0.2.2.1, ()))))))))) else (some (Out.exit (Sum.inl ((ltZ v0.1 (lenI v0.2.1)), (v0.1, (v0.2.1, (v0.2.2.1, ())))))))))
def laws_eqIntSS (x : ((List (List Int)) × ((List (List Int)) × Unit))) (c : Unit) : (Option (Bool × Unit)) :=
  (if (notB (eqZ (lenI x.1) (lenI x.2.1))) = true then (some (false, ())) else (Option.bind (loopN (A := (Int × ((List (List Int)) × ((List (List Int)) × Unit)))) big laws_eqIntSS_L0 (0, (x.1, (x.2.1, ())))) fun v5 => (match v5 with | Out.norm v6 => none | Out.exit v7 => (match ((match v7 with | Sum.inl v10 => (Sum.inl ()) | Sum.inr v11 => (Empty.elim v11)) : (Unit ⊕ Empty)) with | Sum.inl v8 => (some (true, ())) | Sum.inr v9 => none) | Out.ret v12 => (some v12))))
def H_laws_eqIntSS : Hd := ⟨[.sl 26 (.sl 3 (.int .i64)), .sl 26 (.sl 3 (.int .i64))], [], none, .p, .bool, .p, []⟩
def T_laws_eqIntSS : FSig := ⟨H_laws_eqIntSS.ps, H_laws_eqIntSS.cs, H_laws_eqIntSS.io, H_laws_eqIntSS.im, H_laws_eqIntSS.R, H_laws_eqIntSS.m, laws_eqIntSS⟩
theorem E_laws_eqIntSS : fnOf tys [(97, T_laws_eqIntS)] Try.f98 H_laws_eqIntSS = T_laws_eqIntSS := by kernel_rfl
theorem K_laws_eqIntSS : SigOk Try.prog 98 T_laws_eqIntSS := (congrArg (SigOk Try.prog 98) E_laws_eqIntSS).mp (fnOf_ok rfl tysOk ⟨K_laws_eqIntS, trivial⟩ Try.func98 (by decide) rfl (fun _ h => by cases h))
def laws_eqMode (x : ((Int × ((List Int) × ((List Int) × Unit))) × ((Int × ((List Int) × ((List Int) × Unit))) × Unit))) (c : Unit) : (Option (Bool × Unit)) :=
  (if (notB (eqZ x.1.1 x.2.1.1)) = true then (some (false, ())) else (Option.bind ((Option.bind (laws_eqIntS (x.1.2.1, (x.2.1.2.1, ())) ()) fun v0 => (some v0.1)) : (Option Bool)) fun v1 => (if (notB v1) = true then (some (false, ())) else (Option.bind ((Option.bind (laws_eqIntS (x.1.2.2.1, (x.2.1.2.2.1, ())) ()) fun v2 => (some v2.1)) : (Option Bool)) fun v3 => (if (notB v3) = true then (some (false, ())) else (some (true, ())))))))
def H_laws_eqMode : Hd := ⟨[.st [.int .i64, .sl 3 (.int .i64), .sl 3 (.int .i64)], .st [.int .i64, .sl 3 (.int .i64), .sl 3 (.int .i64)]], [], none, .p, .bool, .p, []⟩
def T_laws_eqMode : FSig := ⟨H_laws_eqMode.ps, H_laws_eqMode.cs, H_laws_eqMode.io, H_laws_eqMode.im, H_laws_eqMode.R, H_laws_eqMode.m, laws_eqMode⟩
theorem E_laws_eqMode : fnOf tys [(97, T_laws_eqIntS)] Try.f215 H_laws_eqMode = T_laws_eqMode := by kernel_rfl
theorem K_laws_eqMode : SigOk Try.prog 215 T_laws_eqMode := (congrArg (SigOk Try.prog 215) E_laws_eqMode).mp (fnOf_ok rfl tysOk ⟨K_laws_eqIntS, trivial⟩ Try.func215 (by decide) rfl (fun _ h => by cases h))
def laws_eqModeS_L0 : (Int × ((List (Int × ((List Int) × ((List Int) × Unit)))) × ((List (Int × ((List Int) × ((List Int) × Unit)))) × Unit))) → Option (Out (Int × ((List (Int × ((List Int) × ((List Int) × Unit)))) × ((List (Int × ((List Int) × ((List Int) × Unit)))) × Unit))) ((Bool × (Int × ((List (Int × ((List Int) × ((List Int) × Unit)))) × ((List (Int × ((List Int) × ((List Int) × Unit)))) × Unit)))) ⊕ Empty) (Bool × Unit)) :=
  (fun v0 => (if (ltZ v0.1 (lenI v0.2.1)) = true then (Option.bind (getI v0.2.1 v0.1) fun v1 => (Option.bind (getI v0.2.2.1 v0.1) fun v2 => (Option.bind ((Option.bind (laws_eqMode (v1, (v2, ())) ()) fun v3 => (some v3.1)) : (Option Bool)) fun v4 => (if (notB v4) = true then (some (Out.ret (false, ()))) else (some (Out.norm ((addZ .i64 v0.1 1), (v0.2.1, (v0.2.2.1, ()))))))))) else (some (Out.exit (Sum.inl ((ltZ v0.1 (lenI v0.2.1)), (v0.1, (v0.2.1, (v0.2.2.1, ())))))))))
def laws_eqModeS (x : ((List (Int × ((List Int) × ((List Int) × Unit)))) × ((List (Int × ((List Int) × ((List Int) × Unit)))) × Unit))) (c : Unit) : (Option (Bool × Unit)) :=
  (if (notB (eqZ (lenI x.1) (lenI x.2.1))) = true then (some (false, ())) else (Option.bind (loopN (A := (Int × ((List (Int × ((List Int) × ((List Int) × Unit)))) × ((List (Int × ((List Int) × ((List Int) × Unit)))) × Unit)))) big laws_eqModeS_L0 (0, (x.1, (x.2.1, ())))) fun v5 => (match v5 with | Out.norm v6 => none | Out.exit v7 => (match ((match v7 with | Sum.inl v10 => (Sum.inl ()) | Sum.inr v11 => (Empty.elim v11)) : (Unit ⊕ Empty)) with | Sum.inl v8 => (some (true, ())) | Sum.inr v9 => none) | Out.ret v12 => (some v12))))
def H_laws_eqModeS : Hd := ⟨[.sl 37 (.st [.int .i64, .sl 3 (.int .i64), .sl 3 (.int .i64)]), .sl 37 (.st [.int .i64, .sl 3 (.int .i64), .sl 3 (.int .i64)])], [], none, .p, .bool, .p, []⟩
def T_laws_eqModeS : FSig := ⟨H_laws_eqModeS.ps, H_laws_eqModeS.cs, H_laws_eqModeS.io, H_laws_eqModeS.im, H_laws_eqModeS.R, H_laws_eqModeS.m, laws_eqModeS⟩
theorem E_laws_eqModeS : fnOf tys [(215, T_laws_eqMode)] Try.f207 H_laws_eqModeS = T_laws_eqModeS := by kernel_rfl
theorem K_laws_eqModeS : SigOk Try.prog 207 T_laws_eqModeS := (congrArg (SigOk Try.prog 207) E_laws_eqModeS).mp (fnOf_ok rfl tysOk ⟨K_laws_eqMode, trivial⟩ Try.func207 (by decide) rfl (fun _ h => by cases h))
def laws_eqActivity (x : (((List UInt8) × (Int × ((List (Int × ((List Int) × ((List Int) × Unit)))) × Unit))) × (((List UInt8) × (Int × ((List (Int × ((List Int) × ((List Int) × Unit)))) × Unit))) × Unit))) (c : Unit) : (Option (Bool × Unit)) :=
  (if (notB (eqS x.1.1 x.2.1.1)) = true then (some (false, ())) else (if (notB (eqZ x.1.2.1 x.2.1.2.1)) = true then (some (false, ())) else (Option.bind ((Option.bind (laws_eqModeS (x.1.2.2.1, (x.2.1.2.2.1, ())) ()) fun v0 => (some v0.1)) : (Option Bool)) fun v1 => (if (notB v1) = true then (some (false, ())) else (some (true, ()))))))
def H_laws_eqActivity : Hd := ⟨[.st [.str, .int .i64, .sl 37 (.st [.int .i64, .sl 3 (.int .i64), .sl 3 (.int .i64)])], .st [.str, .int .i64, .sl 37 (.st [.int .i64, .sl 3 (.int .i64), .sl 3 (.int .i64)])]], [], none, .p, .bool, .p, []⟩
def T_laws_eqActivity : FSig := ⟨H_laws_eqActivity.ps, H_laws_eqActivity.cs, H_laws_eqActivity.io, H_laws_eqActivity.im, H_laws_eqActivity.R, H_laws_eqActivity.m, laws_eqActivity⟩
theorem E_laws_eqActivity : fnOf tys [(207, T_laws_eqModeS)] Try.f176 H_laws_eqActivity = T_laws_eqActivity := by kernel_rfl
theorem K_laws_eqActivity : SigOk Try.prog 176 T_laws_eqActivity := (congrArg (SigOk Try.prog 176) E_laws_eqActivity).mp (fnOf_ok rfl tysOk ⟨K_laws_eqModeS, trivial⟩ Try.func176 (by decide) rfl (fun _ h => by cases h))
def laws_eqActivityS_L0 : (Int × ((List ((List UInt8) × (Int × ((List (Int × ((List Int) × ((List Int) × Unit)))) × Unit)))) × ((List ((List UInt8) × (Int × ((List (Int × ((List Int) × ((List Int) × Unit)))) × Unit)))) × Unit))) → Option (Out (Int × ((List ((List UInt8) × (Int × ((List (Int × ((List Int) × ((List Int) × Unit)))) × Unit)))) × ((List ((List UInt8) × (Int × ((List (Int × ((List Int) × ((List Int) × Unit)))) × Unit)))) × Unit))) ((Bool × (Int × ((List ((List UInt8) × (Int × ((List (Int × ((List Int) × ((List Int) × Unit)))) × Unit)))) × ((List ((List UInt8) × (Int × ((List (Int × ((List Int) × ((List Int) × Unit)))) × Unit)))) × Unit)))) ⊕ Empty) (Bool × Unit)) :=
  (fun v0 => (if (ltZ v0.1 (lenI v0.2.1)) = true then (Option.bind (getI v0.2.1 v0.1) fun v1 => (Option.bind (getI v0.2.2.1 v0.1) fun v2 => (Option.bind ((Option.bind (laws_eqActivity (v1, (v2, ())) ()) fun v3 => (some v3.1)) : (Option Bool)) fun v4 => (if (notB v4) = true then (some (Out.ret (false, ()))) else (some (Out.norm ((addZ .i64 v0.1 1), (v0.2.1, (v0.2.2.1, ()))))))))) else (some (Out.exit (Sum.inl ((ltZ v0.1 (lenI v0.2.1)), (v0.1, (v0.2.1, (v0.2.2.1, ())))))))))
def laws_eqActivityS (x : ((List ((List UInt8) × (Int × ((List (Int × ((List Int) × ((List Int) × Unit)))) × Unit)))) × ((List ((List UInt8) × (Int × ((List (Int × ((List Int) × ((List Int) × Unit)))) × Unit)))) × Unit))) (c : Unit) : (Option (Bool × Unit)) :=
  (if (notB (eqZ (lenI x.1) (lenI x.2.1))) = true then (some (false, ())) else (Option.bind (loopN (A := (Int × ((List ((List UInt8) × (Int × ((List (Int × ((List Int) × ((List Int) × Unit)))) × Unit)))) × ((List ((List UInt8) × (Int × ((List (Int × ((List Int) × ((List Int) × Unit)))) × Unit)))) × Unit)))) big laws_eqActivityS_L0 (0, (x.1, (x.2.1, ())))) fun v5 => (match v5 with | Out.norm v6 => none | Out.exit v7 => (match ((match v7 with | Sum.inl v10 => (Sum.inl ()) | Sum.inr v11 => (Empty.elim v11)) : (Unit ⊕ Empty)) with | Sum.inl v8 => (some (true, ())) | Sum.inr v9 => none) | Out.ret v12 => (some v12))))
def H_laws_eqActivityS : Hd := ⟨[.sl 35 (.st [.str, .int .i64, .sl 37 (.st [.int .i64, .sl 3 (.int .i64), .sl 3 (.int .i64)])]), .sl 35 (.st [.str, .int .i64, .sl 37 (.st [.int .i64, .sl 3 (.int .i64), .sl 3 (.int .i64)])])], [], none, .p, .bool, .p, []⟩
def T_laws_eqActivityS : FSig := ⟨H_laws_eqActivityS.ps, H_laws_eqActivityS.cs, H_laws_eqActivityS.io, H_laws_eqActivityS.im, H_laws_eqActivityS.R, H_laws_eqActivityS.m, laws_eqActivityS⟩
theorem E_laws_eqActivityS : fnOf tys [(176, T_laws_eqActivity)] Try.f124 H_laws_eqActivityS = T_laws_eqActivityS := by kernel_rfl
theorem K_laws_eqActivityS : SigOk Try.prog 124 T_laws_eqActivityS := (congrArg (SigOk Try.prog 124) E_laws_eqActivityS).mp (fnOf_ok rfl tysOk ⟨K_laws_eqActivity, trivial⟩ Try.func124 (by decide) rfl (fun _ h => by cases h))
def laws_eqLink (x : ((Int × (Int × (Bool × (Int × Unit)))) × ((Int × (Int × (Bool × (Int × Unit)))) × Unit))) (c : Unit) : (Option (Bool × Unit)) :=
  (if (notB (eqZ x.1.1 x.2.1.1)) = true then (some (false, ())) else (if (notB (eqZ x.1.2.1 x.2.1.2.1)) = true then (some (false, ())) else (if (notB (eqB x.1.2.2.1 x.2.1.2.2.1)) = true then (some (false, ())) else (if (notB (eqZ x.1.2.2.2.1 x.2.1.2.2.2.1)) = true then (some (false, ())) else (some (true, ()))))))
def H_laws_eqLink : Hd := ⟨[.st [.int .i64, .int .i64, .bool, .int .i64], .st [.int .i64, .int .i64, .bool, .int .i64]], [], none, .p, .bool, .p, []⟩
def T_laws_eqLink : FSig := ⟨H_laws_eqLink.ps, H_laws_eqLink.cs, H_laws_eqLink.io, H_laws_eqLink.im, H_laws_eqLink.R, H_laws_eqLink.m, laws_eqLink⟩
theorem E_laws_eqLink : fnOf tys [] Try.f177 H_laws_eqLink = T_laws_eqLink := by kernel_rfl
theorem K_laws_eqLink : SigOk Try.prog 177 T_laws_eqLink := (congrArg (SigOk Try.prog 177) E_laws_eqLink).mp (fnOf_ok rfl tysOk trivial Try.func177 (by decide) rfl (fun _ h => by cases h))
def laws_eqLinkS_L0 : (Int × ((List (Int × (Int × (Bool × (Int × Unit))))) × ((List (Int × (Int × (Bool × (Int × Unit))))) × Unit))) → Option (Out (Int × ((List (Int × (Int × (Bool × (Int × Unit))))) × ((List (Int × (Int × (Bool × (Int × Unit))))) × Unit))) ((Bool × (Int × ((List (Int × (Int × (Bool × (Int × Unit))))) × ((List (Int × (Int × (Bool × (Int × Unit))))) × Unit)))) ⊕ Empty) (Bool × Unit)) :=
  (fun v0 => (if (ltZ v0.1 (lenI v0.2.1)) = true then (Option.bind (getI v0.2.1 v0.1) fun v1 => (Option.bind (getI v0.2.2.1 v0.1) fun v2 => (Option.bind ((Option.bind (laws_eqLink (v1, (v2, ())) ()) fun v3 => (some v3.1)) : (Option Bool)) fun v4 => (if (notB v4) = true then (some (Out.ret (false, ()))) else (some (Out.norm ((addZ .i64 v0.1 1), (v0.2.1, (v0.2.2.1, ()))))))))) else (some (Out.exit (Sum.inl ((ltZ v0.1 (lenI v0.2.1)), (v0.1, (v0.2.1, (v0.2.2.1, ())))))))))
def laws_eqLinkS (x : ((List (Int × (Int × (Bool × (Int × Unit))))) × ((List (Int × (Int × (Bool × (Int × Unit))))) × Unit))) (c : Unit) : (Option (Bool × Unit)) :=
  (if (notB (eqZ (lenI x.1) (lenI x.2.1))) = true then (some (false, ())) else (Option.bind (loopN (A := (Int × ((List (Int × (Int × (Bool × (Int × Unit))))) × ((List (Int × (Int × (Bool × (Int × Unit))))) × Unit)))) big laws_eqLinkS_L0 (0, (x.1, (x.2.1, ())))) fun v5 => (match v5 with | Out.norm v6 => none | Out.exit v7 => (match ((match v7 with | Sum.inl v10 => (Sum.inl ()) | Sum.inr v11 => (Empty.elim v11)) : (Unit ⊕ Empty)) with | Sum.inl v8 => (some (true, ())) | Sum.inr v9 => none) | Out.ret v12 => (some v12))))
def H_laws_eqLinkS : Hd := ⟨[.sl 115 (.st [.int .i64, .int .i64, .bool, .int .i64]), .sl 115 (.st [.int .i64, .int .i64, .bool, .int .i64])], [], none, .p, .bool, .p, []⟩
def T_laws_eqLinkS : FSig := ⟨H_laws_eqLinkS.ps, H_laws_eqLinkS.cs, H_laws_eqLinkS.io, H_laws_eqLinkS.im, H_laws_eqLinkS.R, H_laws_eqLinkS.m, laws_eqLinkS⟩
theorem E_laws_eqLinkS : fnOf tys [(177, T_laws_eqLink)] Try.f125 H_laws_eqLinkS = T_laws_eqLinkS := by kernel_rfl
theorem K_laws_eqLinkS : SigOk Try.prog 125 T_laws_eqLinkS := (congrArg (SigOk Try.prog 125) E_laws_eqLinkS).mp (fnOf_ok rfl tysOk ⟨K_laws_eqLink, trivial⟩ Try.func125 (by decide) rfl (fun _ h => by cases h))
def laws_eqStep (x : ((Int × (Int × Unit)) × ((Int × (Int × Unit)) × Unit))) (c : Unit) : (Option (Bool × Unit)) :=
  (if (notB (eqZ x.1.1 x.2.1.1)) = true then (some (false, ())) else (if (notB (eqZ x.1.2.1 x.2.1.2.1)) = true then (some (false, ())) else (some (true, ()))))
def H_laws_eqStep : Hd := ⟨[.st [.int .i64, .int .i64], .st [.int .i64, .int .i64]], [], none, .p, .bool, .p, []⟩
def T_laws_eqStep : FSig := ⟨H_laws_eqStep.ps, H_laws_eqStep.cs, H_laws_eqStep.io, H_laws_eqStep.im, H_laws_eqStep.R, H_laws_eqStep.m, laws_eqStep⟩
theorem E_laws_eqStep : fnOf tys [] Try.f216 H_laws_eqStep = T_laws_eqStep := by kernel_rfl
theorem K_laws_eqStep : SigOk Try.prog 216 T_laws_eqStep := (congrArg (SigOk Try.prog 216) E_laws_eqStep).mp (fnOf_ok rfl tysOk trivial Try.func216 (by decide) rfl (fun _ h => by cases h))
def laws_eqStepS_L0 : (Int × ((List (Int × (Int × Unit))) × ((List (Int × (Int × Unit))) × Unit))) → Option (Out (Int × ((List (Int × (Int × Unit))) × ((List (Int × (Int × Unit))) × Unit))) ((Bool × (Int × ((List (Int × (Int × Unit))) × ((List (Int × (Int × Unit))) × Unit)))) ⊕ Empty) (Bool × Unit)) :=
  (fun v0 => (if (ltZ v0.1 (lenI v0.2.1)) = true then (Option.bind (getI v0.2.1 v0.1) fun v1 => (Option.bind (getI v0.2.2.1 v0.1) fun v2 => (Option.bind ((Option.bind (laws_eqStep (v1, (v2, ())) ()) fun v3 => (some v3.1)) : (Option Bool)) fun v4 => (if (notB v4) = true then (some (Out.ret (false, ()))) else (some (Out.norm ((addZ .i64 v0.1 1), (v0.2.1, (v0.2.2.1, ()))))))))) else (some (Out.exit (Sum.inl ((ltZ v0.1 (lenI v0.2.1)), (v0.1, (v0.2.1, (v0.2.2.1, ())))))))))
def laws_eqStepS (x : ((List (Int × (Int × Unit))) × ((List (Int × (Int × Unit))) × Unit))) (c : Unit) : (Option (Bool × Unit)) :=
  (if (notB (eqZ (lenI x.1) (lenI x.2.1))) = true then (some (false, ())) else (Option.bind (loopN (A := (Int × ((List (Int × (Int × Unit))) × ((List (Int × (Int × Unit))) × Unit)))) big laws_eqStepS_L0 (0, (x.1, (x.2.1, ())))) fun v5 => (match v5 with | Out.norm v6 => none | Out.exit v7 => (match ((match v7 with | Sum.inl v10 => (Sum.inl ()) | Sum.inr v11 => (Empty.elim v11)) : (Unit ⊕ Empty)) with | Sum.inl v8 => (some (true, ())) | Sum.inr v9 => none) | Out.ret v12 => (some v12))))
def H_laws_eqStepS : Hd := ⟨[.sl 176 (.st [.int .i64, .int .i64]), .sl 176 (.st [.int .i64, .int .i64])], [], none, .p, .bool, .p, []⟩
def T_laws_eqStepS : FSig := ⟨H_laws_eqStepS.ps, H_laws_eqStepS.cs, H_laws_eqStepS.io, H_laws_eqStepS.im, H_laws_eqStepS.R, H_laws_eqStepS.m, laws_eqStepS⟩
theorem E_laws_eqStepS : fnOf tys [(216, T_laws_eqStep)] Try.f208 H_laws_eqStepS = T_laws_eqStepS := by kernel_rfl
theorem K_laws_eqStepS : SigOk Try.prog 208 T_laws_eqStepS := (congrArg (SigOk Try.prog 208) E_laws_eqStepS).mp (fnOf_ok rfl tysOk ⟨K_laws_eqStep, trivial⟩ Try.func208 (by decide) rfl (fun _ h => by cases h))
def laws_eqResource (x : (((List (Int × (Int × Unit))) × ((List (List Int)) × Unit)) × (((List (Int × (Int × Unit))) × ((List (List Int)) × Unit)) × Unit))) (c : Unit) : (Option (Bool × Unit)) :=
  (Option.bind ((Option.bind (laws_eqStepS (x.1.1, (x.2.1.1, ())) ()) fun v0 => (some v0.1)) : (Option Bool)) fun v1 => (if (notB v1) = true then (some (false, ())) else (Option.bind ((Option.bind (laws_eqIntSS (x.1.2.1, (x.2.1.2.1, ())) ()) fun v2 => (some v2.1)) : (Option Bool)) fun v3 => (if (notB v3) = true then (some (false, ())) else (some (true, ()))))))
def H_laws_eqResource : Hd := ⟨[.st [.sl 176 (.st [.int .i64, .int .i64]), .sl 26 (.sl 3 (.int .i64))], .st [.sl 176 (.st [.int .i64, .int .i64]), .sl 26 (.sl 3 (.int .i64))]], [], none, .p, .bool, .p, []⟩
def T_laws_eqResource : FSig := ⟨H_laws_eqResource.ps, H_laws_eqResource.cs, H_laws_eqResource.io, H_laws_eqResource.im, H_laws_eqResource.R, H_laws_eqResource.m, laws_eqResource⟩
theorem E_laws_eqResource : fnOf tys [(98, T_laws_eqIntSS), (208, T_laws_eqStepS)] Try.f178 H_laws_eqResource = T_laws_eqResource := by kernel_rfl
theorem K_laws_eqResource : SigOk Try.prog 178 T_laws_eqResource := (congrArg (SigOk Try.prog 178) E_laws_eqResource).mp (fnOf_ok rfl tysOk ⟨K_laws_eqIntSS, K_laws_eqStepS, trivial⟩ Try.func178 (by decide) rfl (fun _ h => by cases h))
def laws_eqResourceS_L0 : (Int × ((List ((List (Int × (Int × Unit))) × ((List (List Int)) × Unit))) × ((List ((List (Int × (Int × Unit))) × ((List (List Int)) × Unit))) × Unit))) → Option (Out (Int × ((List ((List (Int × (Int × Unit))) × ((List (List Int)) × Unit))) × ((List ((List (Int × (Int × Unit))) × ((List (List Int)) × Unit))) × Unit))) ((Bool × (Int × ((List ((List (Int × (Int × Unit))) × ((List (List Int)) × Unit))) × ((List ((List (Int × (Int × Unit))) × ((List (List Int)) × Unit))) × Unit)))) ⊕ Empty) (Bool × Unit)) :=
  (fun v0 => (if (ltZ v0.1 (lenI v0.2.1)) = true then (Option.bind (getI v0.2.1 v0.1) fun v1 => (Option.bind (getI v0.2.2.1 v0.1) fun v2 => (Option.bind ((Option.bind (laws_eqResource (v1, (v2, ())) ()) fun v3 => (some v3.1)) : (Option Bool)) fun v4 => (if (notB v4) = true then (some (Out.ret (false, ()))) else (some (Out.norm ((addZ .i64 v0.1 1), (v0.2.1, (v0.2.2.1, ()))))))))) else (some (Out.exit (Sum.inl ((ltZ v0.1 (lenI v0.2.1)), (v0.1, (v0.2.1, (v0.2.2.1, ())))))))))
def laws_eqResourceS (x : ((List ((List (Int × (Int × Unit))) × ((List (List Int)) × Unit))) × ((List ((List (Int × (Int × Unit))) × ((List (List Int)) × Unit))) × Unit))) (c : Unit) : (Option (Bool × Unit)) :=
  (if (notB (eqZ (lenI x.1) (lenI x.2.1))) = true then (some (false, ())) else (Option.bind (loopN (A := (Int × ((List ((List (Int × (Int × Unit))) × ((List (List Int)) × Unit))) × ((List ((List (Int × (Int × Unit))) × ((List (List Int)) × Unit))) × Unit)))) big laws_eqResourceS_L0 (0, (x.1, (x.2.1, ())))) fun v5 => (match v5 with | Out.norm v6 => none | Out.exit v7 => (match ((match v7 with | Sum.inl v10 => (Sum.inl ()) | Sum.inr v11 => (Empty.elim v11)) : (Unit ⊕ Empty)) with | Sum.inl v8 => (some (true, ())) | Sum.inr v9 => none) | Out.ret v12 => (some v12))))
def H_laws_eqResourceS : Hd := ⟨[.sl 44 (.st [.sl 176 (.st [.int .i64, .int .i64]), .sl 26 (.sl 3 (.int .i64))]), .sl 44 (.st [.sl 176 (.st [.int .i64, .int .i64]), .sl 26 (.sl 3 (.int .i64))])], [], none, .p, .bool, .p, []⟩
def T_laws_eqResourceS : FSig := ⟨H_laws_eqResourceS.ps, H_laws_eqResourceS.cs, H_laws_eqResourceS.io, H_laws_eqResourceS.im, H_laws_eqResourceS.R, H_laws_eqResourceS.m, laws_eqResourceS⟩
theorem E_laws_eqResourceS : fnOf tys [(178, T_laws_eqResource)] Try.f126 H_laws_eqResourceS = T_laws_eqResourceS := by kernel_rfl
theorem K_laws_eqResourceS : SigOk Try.prog 126 T_laws_eqResourceS := (congrArg (SigOk Try.prog 126) E_laws_eqResourceS).mp (fnOf_ok rfl tysOk ⟨K_laws_eqResource, trivial⟩ Try.func126 (by decide) rfl (fun _ h => by cases h))
def laws_eqProject (x : ((Int × ((List ((List UInt8) × (Int × ((List (Int × ((List Int) × ((List Int) × Unit)))) × Unit)))) × ((List (Int × (Int × (Bool × (Int × Unit))))) × ((List ((List (Int × (Int × Unit))) × ((List (List Int)) × Unit))) × ((List Int) × Unit))))) × ((Int × ((List ((List UInt8) × (Int × ((List (Int × ((List Int) × ((List Int) × Unit)))) × Unit)))) × ((List (Int × (Int × (Bool × (Int × Unit))))) × ((List ((List (Int × (Int × Unit))) × ((List (List Int)) × Unit))) × ((List Int) × Unit))))) × Unit))) (c : Unit) : (Option (Bool × Unit)) :=
  (if (notB (eqZ x.1.1 x.2.1.1)) = true then (some (false, ())) else (Option.bind ((Option.bind (laws_eqActivityS (x.1.2.1, (x.2.1.2.1, ())) ()) fun v0 => (some v0.1)) : (Option Bool)) fun v1 => (if (notB v1) = true then (some (false, ())) else (Option.bind ((Option.bind (laws_eqLinkS (x.1.2.2.1, (x.2.1.2.2.1, ())) ()) fun v2 => (some v2.1)) : (Option Bool)) fun v3 => (if (notB v3) = true then (some (false, ())) else (Option.bind ((Option.bind (laws_eqResourceS (x.1.2.2.2.1, (x.2.1.2.2.2.1, ())) ()) fun v4 => (some v4.1)) : (Option Bool)) fun v5 => (if (notB v5) = true then (some (false, ())) else (Option.bind ((Option.bind (laws_eqIntS (x.1.2.2.2.2.1, (x.2.1.2.2.2.2.1, ())) ()) fun v6 => (some v6.1)) : (Option Bool)) fun v7 => (if (notB v7) = true then (some (false, ())) else (some (true, ())))))))))))
def H_laws_eqProject : Hd := ⟨[.st [.int .i64, .sl 35 (.st [.str, .int .i64, .sl 37 (.st [.int .i64, .sl 3 (.int .i64), .sl 3 (.int .i64)])]), .sl 115 (.st [.int .i64, .int .i64, .bool, .int .i64]), .sl 44 (.st [.sl 176 (.st [.int .i64, .int .i64]), .sl 26 (.sl 3 (.int .i64))]), .sl 3 (.int .i64)], .st [.int .i64, .sl 35 (.st [.str, .int .i64, .sl 37 (.st [.int .i64, .sl 3 (.int .i64), .sl 3 (.int .i64)])]), .sl 115 (.st [.int .i64, .int .i64, .bool, .int .i64]), .sl 44 (.st [.sl 176 (.st [.int .i64, .int .i64]), .sl 26 (.sl 3 (.int .i64))]), .sl 3 (.int .i64)]], [], none, .p, .bool, .p, []⟩
def T_laws_eqProject : FSig := ⟨H_laws_eqProject.ps, H_laws_eqProject.cs, H_laws_eqProject.io, H_laws_eqProject.im, H_laws_eqProject.R, H_laws_eqProject.m, laws_eqProject⟩
theorem E_laws_eqProject : fnOf tys [(97, T_laws_eqIntS), (124, T_laws_eqActivityS), (125, T_laws_eqLinkS), (126, T_laws_eqResourceS)] Try.f50 H_laws_eqProject = T_laws_eqProject := by kernel_rfl
theorem K_laws_eqProject : SigOk Try.prog 50 T_laws_eqProject := (congrArg (SigOk Try.prog 50) E_laws_eqProject).mp (fnOf_ok rfl tysOk ⟨K_laws_eqIntS, K_laws_eqActivityS, K_laws_eqLinkS, K_laws_eqResourceS, trivial⟩ Try.func50 (by decide) rfl (fun _ h => by cases h))
def laws_szMode (x : ((Int × ((List Int) × ((List Int) × Unit))) × (Int × Unit))) (c : Unit) : (Option (Int × Unit)) :=
  (Option.bind ((Option.bind (laws_szIntS (x.1.2.1, (x.2.1, ())) ()) fun v0 => (some v0.1)) : (Option Int)) fun v1 => (if (ltZ v1 0) = true then (some ((-1), ())) else (Option.bind ((Option.bind (laws_szIntS (x.1.2.2.1, (v1, ())) ()) fun v2 => (some v2.1)) : (Option Int)) fun v3 => (if (ltZ v3 0) = true then (some ((-1), ())) else (some (v3, ()))))))
def H_laws_szMode : Hd := ⟨[.st [.int .i64, .sl 3 (.int .i64), .sl 3 (.int .i64)], .int .i64], [], none, .p, .int .i64, .p, []⟩
def T_laws_szMode : FSig := ⟨H_laws_szMode.ps, H_laws_szMode.cs, H_laws_szMode.io, H_laws_szMode.im, H_laws_szMode.R, H_laws_szMode.m, laws_szMode⟩
theorem E_laws_szMode : fnOf tys [(80, T_laws_szIntS)] Try.f211 H_laws_szMode = T_laws_szMode := by kernel_rfl
theorem K_laws_szMode : SigOk Try.prog 211 T_laws_szMode := (congrArg (SigOk Try.prog 211) E_laws_szMode).mp (fnOf_ok rfl tysOk ⟨K_laws_szIntS, trivial⟩ Try.func211 (by decide) rfl (fun _ h => by cases h))
def laws_szModeS_L0 : (Int × ((List (Int × ((List Int) × ((List Int) × Unit)))) × (Int × Unit))) → Option (Out (Int × ((List (Int × ((List Int) × ((List Int) × Unit)))) × (Int × Unit))) ((Bool × (Int × ((List (Int × ((List Int) × ((List Int) × Unit)))) × (Int × Unit)))) ⊕ Empty) (Int × Unit)) :=
  (fun v0 => (if (ltZ v0.1 (lenI v0.2.1)) = true then (Option.bind (getI v0.2.1 v0.1) fun v1 => (Option.bind ((Option.bind (laws_szMode (v1, (v0.2.2.1, ())) ()) fun v2 => (some v2.1)) : (Option Int)) fun v3 => (if (ltZ v3 0) = true then (some (Out.ret ((-1), ()))) else (some (Out.norm ((addZ .i64 v0.1 1), (v0.2.1, (v3, ())))))))) else (some (Out.exit (Sum.inl ((ltZ v0.1 (lenI v0.2.1)), (v0.1, (v0.2.1, (v0.2.2.1, ())))))))))
def laws_szModeS (x : ((List (Int × ((List Int) × ((List Int) × Unit)))) × (Int × Unit))) (c : Unit) : (Option (Int × Unit)) :=
  (if (ltZ (subZ .i64 x.2.1 (lenI x.1)) 0) = true then (some ((-1), ())) else (Option.bind (loopN (A := (Int × ((List (Int × ((List Int) × ((List Int) × Unit)))) × (Int × Unit)))) big laws_szModeS_L0 (0, (x.1, ((subZ .i64 x.2.1 (lenI x.1)), ())))) fun v4 => (match v4 with | Out.norm v5 => none | Out.exit v6 => (match ((match v6 with | Sum.inl v9 => (Sum.inl (v9.2.2.2.1, ())) | Sum.inr v10 => (Empty.elim v10)) : ((Int × Unit) ⊕ Empty)) with | Sum.inl v7 => (some (v7.1, ())) | Sum.inr v8 => none) | Out.ret v11 => (some v11))))
def H_laws_szModeS : Hd := ⟨[.sl 228 (.st [.int .i64, .sl 3 (.int .i64), .sl 3 (.int .i64)]), .int .i64], [], none, .p, .int .i64, .p, []⟩
def T_laws_szModeS : FSig := ⟨H_laws_szModeS.ps, H_laws_szModeS.cs, H_laws_szModeS.io, H_laws_szModeS.im, H_laws_szModeS.R, H_laws_szModeS.m, laws_szModeS⟩
theorem E_laws_szModeS : fnOf tys [(211, T_laws_szMode)] Try.f200 H_laws_szModeS = T_laws_szModeS := by kernel_rfl
theorem K_laws_szModeS : SigOk Try.prog 200 T_laws_szModeS := (congrArg (SigOk Try.prog 200) E_laws_szModeS).mp (fnOf_ok rfl tysOk ⟨K_laws_szMode, trivial⟩ Try.func200 (by decide) rfl (fun _ h => by cases h))
def laws_szActivity (x : (((List UInt8) × (Int × ((List (Int × ((List Int) × ((List Int) × Unit)))) × Unit))) × (Int × Unit))) (c : Unit) : (Option (Int × Unit)) :=
  (if (ltZ (subZ .i64 x.2.1 (lenI x.1.1)) 0) = true then (some ((-1), ())) else (Option.bind ((Option.bind (laws_szModeS (x.1.2.2.1, ((subZ .i64 x.2.1 (lenI x.1.1)), ())) ()) fun v0 => (some v0.1)) : (Option Int)) fun v1 => (if (ltZ v1 0) = true then (some ((-1), ())) else (some (v1, ())))))
def H_laws_szActivity : Hd := ⟨[.st [.str, .int .i64, .sl 228 (.st [.int .i64, .sl 3 (.int .i64), .sl 3 (.int .i64)])], .int .i64], [], none, .p, .int .i64, .p, []⟩
def T_laws_szActivity : FSig := ⟨H_laws_szActivity.ps, H_laws_szActivity.cs, H_laws_szActivity.io, H_laws_szActivity.im, H_laws_szActivity.R, H_laws_szActivity.m, laws_szActivity⟩
theorem E_laws_szActivity : fnOf tys [(200, T_laws_szModeS)] Try.f168 H_laws_szActivity = T_laws_szActivity := by kernel_rfl
theorem K_laws_szActivity : SigOk Try.prog 168 T_laws_szActivity := (congrArg (SigOk Try.prog 168) E_laws_szActivity).mp (fnOf_ok rfl tysOk ⟨K_laws_szModeS, trivial⟩ Try.func168 (by decide) rfl (fun _ h => by cases h))
def laws_szActivityS_L0 : (Int × ((List ((List UInt8) × (Int × ((List (Int × ((List Int) × ((List Int) × Unit)))) × Unit)))) × (Int × Unit))) → Option (Out (Int × ((List ((List UInt8) × (Int × ((List (Int × ((List Int) × ((List Int) × Unit)))) × Unit)))) × (Int × Unit))) ((Bool × (Int × ((List ((List UInt8) × (Int × ((List (Int × ((List Int) × ((List Int) × Unit)))) × Unit)))) × (Int × Unit)))) ⊕ Empty) (Int × Unit)) :=
  (fun v0 => (if (ltZ v0.1 (lenI v0.2.1)) = true then (Option.bind (getI v0.2.1 v0.1) fun v1 => (Option.bind ((Option.bind (laws_szActivity (v1, (v0.2.2.1, ())) ()) fun v2 => (some v2.1)) : (Option Int)) fun v3 => (if (ltZ v3 0) = true then (some (Out.ret ((-1), ()))) else (some (Out.norm ((addZ .i64 v0.1 1), (v0.2.1, (v3, ())))))))) else (some (Out.exit (Sum.inl ((ltZ v0.1 (lenI v0.2.1)), (v0.1, (v0.2.1, (v0.2.2.1, ())))))))))
def laws_szActivityS (x : ((List ((List UInt8) × (Int × ((List (Int × ((List Int) × ((List Int) × Unit)))) × Unit)))) × (Int × Unit))) (c : Unit) : (Option (Int × Unit)) :=
  (if (ltZ (subZ .i64 x.2.1 (lenI x.1)) 0) = true then (some ((-1), ())) else (Option.bind (loopN (A := (Int × ((List ((List UInt8) × (Int × ((List (Int × ((List Int) × ((List Int) × Unit)))) × Unit)))) × (Int × Unit)))) big laws_szActivityS_L0 (0, (x.1, ((subZ .i64 x.2.1 (lenI x.1)), ())))) fun v4 => (match v4 with | Out.norm v5 => none | Out.exit v6 => (match ((match v6 with | Sum.inl v9 => (Sum.inl (v9.2.2.2.1, ())) | Sum.inr v10 => (Empty.elim v10)) : ((Int × Unit) ⊕ Empty)) with | Sum.inl v7 => (some (v7.1, ())) | Sum.inr v8 => none) | Out.ret v11 => (some v11))))
def H_laws_szActivityS : Hd := ⟨[.sl 194 (.st [.str, .int .i64, .sl 228 (.st [.int .i64, .sl 3 (.int .i64), .sl 3 (.int .i64)])]), .int .i64], [], none, .p, .int .i64, .p, []⟩
def T_laws_szActivityS : FSig := ⟨H_laws_szActivityS.ps, H_laws_szActivityS.cs, H_laws_szActivityS.io, H_laws_szActivityS.im, H_laws_szActivityS.R, H_laws_szActivityS.m, laws_szActivityS⟩
theorem E_laws_szActivityS : fnOf tys [(168, T_laws_szActivity)] Try.f116 H_laws_szActivityS = T_laws_szActivityS := by kernel_rfl
theorem K_laws_szActivityS : SigOk Try.prog 116 T_laws_szActivityS := (congrArg (SigOk Try.prog 116) E_laws_szActivityS).mp (fnOf_ok rfl tysOk ⟨K_laws_szActivity, trivial⟩ Try.func116 (by decide) rfl (fun _ h => by cases h))
def laws_szLinkS (x : ((List (Int × (Int × (Bool × (Int × Unit))))) × (Int × Unit))) (c : Unit) : (Option (Int × Unit)) :=
  (if (ltZ (subZ .i64 x.2.1 (lenI x.1)) 0) = true then (some ((-1), ())) else (some ((subZ .i64 x.2.1 (lenI x.1)), ())))
def H_laws_szLinkS : Hd := ⟨[.sl 201 (.st [.int .i64, .int .i64, .bool, .int .i64]), .int .i64], [], none, .p, .int .i64, .p, []⟩
def T_laws_szLinkS : FSig := ⟨H_laws_szLinkS.ps, H_laws_szLinkS.cs, H_laws_szLinkS.io, H_laws_szLinkS.im, H_laws_szLinkS.R, H_laws_szLinkS.m, laws_szLinkS⟩
theorem E_laws_szLinkS : fnOf tys [] Try.f117 H_laws_szLinkS = T_laws_szLinkS := by kernel_rfl
theorem K_laws_szLinkS : SigOk Try.prog 117 T_laws_szLinkS := (congrArg (SigOk Try.prog 117) E_laws_szLinkS).mp (fnOf_ok rfl tysOk trivial Try.func117 (by decide) rfl (fun _ h => by cases h))
def laws_szStepS (x : ((List (Int × (Int × Unit))) × (Int × Unit))) (c : Unit) : (Option (Int × Unit)) :=
  (if (ltZ (subZ .i64 x.2.1 (lenI x.1)) 0) = true then (some ((-1), ())) else (some ((subZ .i64 x.2.1 (lenI x.1)), ())))
def H_laws_szStepS : Hd := ⟨[.sl 231 (.st [.int .i64, .int .i64]), .int .i64], [], none, .p, .int .i64, .p, []⟩
def T_laws_szStepS : FSig := ⟨H_laws_szStepS.ps, H_laws_szStepS.cs, H_laws_szStepS.io, H_laws_szStepS.im, H_laws_szStepS.R, H_laws_szStepS.m, laws_szStepS⟩
theorem E_laws_szStepS : fnOf tys [] Try.f201 H_laws_szStepS = T_laws_szStepS := by kernel_rfl
theorem K_laws_szStepS : SigOk Try.prog 201 T_laws_szStepS := (congrArg (SigOk Try.prog 201) E_laws_szStepS).mp (fnOf_ok rfl tysOk trivial Try.func201 (by decide) rfl (fun _ h => by cases h))
def laws_szResource (x : (((List (Int × (Int × Unit))) × ((List (List Int)) × Unit)) × (Int × Unit))) (c : Unit) : (Option (Int × Unit)) :=
  (Option.bind ((Option.bind (laws_szStepS (x.1.1, (x.2.1, ())) ()) fun v0 => (some v0.1)) : (Option Int)) fun v1 => (if (ltZ v1 0) = true then (some ((-1), ())) else (Option.bind ((Option.bind (laws_szIntSS (x.1.2.1, (v1, ())) ()) fun v2 => (some v2.1)) : (Option Int)) fun v3 => (if (ltZ v3 0) = true then (some ((-1), ())) else (some (v3, ()))))))
def H_laws_szResource : Hd := ⟨[.st [.sl 231 (.st [.int .i64, .int .i64]), .sl 26 (.sl 3 (.int .i64))], .int .i64], [], none, .p, .int .i64, .p, []⟩
def T_laws_szResource : FSig := ⟨H_laws_szResource.ps, H_laws_szResource.cs, H_laws_szResource.io, H_laws_szResource.im, H_laws_szResource.R, H_laws_szResource.m, laws_szResource⟩
theorem E_laws_szResource : fnOf tys [(81, T_laws_szIntSS), (201, T_laws_szStepS)] Try.f169 H_laws_szResource = T_laws_szResource := by kernel_rfl
theorem K_laws_szResource : SigOk Try.prog 169 T_laws_szResource := (congrArg (SigOk Try.prog 169) E_laws_szResource).mp (fnOf_ok rfl tysOk ⟨K_laws_szIntSS, K_laws_szStepS, trivial⟩ Try.func169 (by decide) rfl (fun _ h => by cases h))
def laws_szResourceS_L0 : (Int × ((List ((List (Int × (Int × Unit))) × ((List (List Int)) × Unit))) × (Int × Unit))) → Option (Out (Int × ((List ((List (Int × (Int × Unit))) × ((List (List Int)) × Unit))) × (Int × Unit))) ((Bool × (Int × ((List ((List (Int × (Int × Unit))) × ((List (List Int)) × Unit))) × (Int × Unit)))) ⊕ Empty) (Int × Unit)) :=
  (fun v0 => (if (ltZ v0.1 (lenI v0.2.1)) = true then (Option.bind (getI v0.2.1 v0.1) fun v1 => (Option.bind ((Option.bind (laws_szResource (v1, (v0.2.2.1, ())) ()) fun v2 => (some v2.1)) : (Option Int)) fun v3 => (if (ltZ v3 0) = true then (some (Out.ret ((-1), ()))) else (some (Out.norm ((addZ .i64 v0.1 1), (v0.2.1, (v3, ())))))))) else (some (Out.exit (Sum.inl ((ltZ v0.1 (lenI v0.2.1)), (v0.1, (v0.2.1, (v0.2.2.1, ())))))))))
def laws_szResourceS (x : ((List ((List (Int × (Int × Unit))) × ((List (List Int)) × Unit))) × (Int × Unit))) (c : Unit) : (Option (Int × Unit)) :=
  (if (ltZ (subZ .i64 x.2.1 (lenI x.1)) 0) = true then (some ((-1), ())) else (Option.bind (loopN (A := (Int × ((List ((List (Int × (Int × Unit))) × ((List (List Int)) × Unit))) × (Int × Unit)))) big laws_szResourceS_L0 (0, (x.1, ((subZ .i64 x.2.1 (lenI x.1)), ())))) fun v4 => (match v4 with | Out.norm v5 => none | Out.exit v6 => (match ((match v6 with | Sum.inl v9 => (Sum.inl (v9.2.2.2.1, ())) | Sum.inr v10 => (Empty.elim v10)) : ((Int × Unit) ⊕ Empty)) with | Sum.inl v7 => (some (v7.1, ())) | Sum.inr v8 => none) | Out.ret v11 => (some v11))))
def H_laws_szResourceS : Hd := ⟨[.sl 198 (.st [.sl 231 (.st [.int .i64, .int .i64]), .sl 26 (.sl 3 (.int .i64))]), .int .i64], [], none, .p, .int .i64, .p, []⟩
def T_laws_szResourceS : FSig := ⟨H_laws_szResourceS.ps, H_laws_szResourceS.cs, H_laws_szResourceS.io, H_laws_szResourceS.im, H_laws_szResourceS.R, H_laws_szResourceS.m, laws_szResourceS⟩
theorem E_laws_szResourceS : fnOf tys [(169, T_laws_szResource)] Try.f118 H_laws_szResourceS = T_laws_szResourceS := by kernel_rfl
theorem K_laws_szResourceS : SigOk Try.prog 118 T_laws_szResourceS := (congrArg (SigOk Try.prog 118) E_laws_szResourceS).mp (fnOf_ok rfl tysOk ⟨K_laws_szResource, trivial⟩ Try.func118 (by decide) rfl (fun _ h => by cases h))
def laws_szProject (x : ((Int × ((List ((List UInt8) × (Int × ((List (Int × ((List Int) × ((List Int) × Unit)))) × Unit)))) × ((List (Int × (Int × (Bool × (Int × Unit))))) × ((List ((List (Int × (Int × Unit))) × ((List (List Int)) × Unit))) × ((List Int) × Unit))))) × (Int × Unit))) (c : Unit) : (Option (Int × Unit)) :=
  (Option.bind ((Option.bind (laws_szActivityS (x.1.2.1, (x.2.1, ())) ()) fun v0 => (some v0.1)) : (Option Int)) fun v1 => (if (ltZ v1 0) = true then (some ((-1), ())) else (Option.bind ((Option.bind (laws_szLinkS (x.1.2.2.1, (v1, ())) ()) fun v2 => (some v2.1)) : (Option Int)) fun v3 => (if (ltZ v3 0) = true then (some ((-1), ())) else (Option.bind ((Option.bind (laws_szResourceS (x.1.2.2.2.1, (v3, ())) ()) fun v4 => (some v4.1)) : (Option Int)) fun v5 => (if (ltZ v5 0) = true then (some ((-1), ())) else (Option.bind ((Option.bind (laws_szIntS (x.1.2.2.2.2.1, (v5, ())) ()) fun v6 => (some v6.1)) : (Option Int)) fun v7 => (if (ltZ v7 0) = true then (some ((-1), ())) else (some (v7, ()))))))))))
def H_laws_szProject : Hd := ⟨[.st [.int .i64, .sl 194 (.st [.str, .int .i64, .sl 228 (.st [.int .i64, .sl 3 (.int .i64), .sl 3 (.int .i64)])]), .sl 201 (.st [.int .i64, .int .i64, .bool, .int .i64]), .sl 198 (.st [.sl 231 (.st [.int .i64, .int .i64]), .sl 26 (.sl 3 (.int .i64))]), .sl 3 (.int .i64)], .int .i64], [], none, .p, .int .i64, .p, []⟩
def T_laws_szProject : FSig := ⟨H_laws_szProject.ps, H_laws_szProject.cs, H_laws_szProject.io, H_laws_szProject.im, H_laws_szProject.R, H_laws_szProject.m, laws_szProject⟩
theorem E_laws_szProject : fnOf tys [(80, T_laws_szIntS), (116, T_laws_szActivityS), (117, T_laws_szLinkS), (118, T_laws_szResourceS)] Try.f45 H_laws_szProject = T_laws_szProject := by kernel_rfl
theorem K_laws_szProject : SigOk Try.prog 45 T_laws_szProject := (congrArg (SigOk Try.prog 45) E_laws_szProject).mp (fnOf_ok rfl tysOk ⟨K_laws_szIntS, K_laws_szActivityS, K_laws_szLinkS, K_laws_szResourceS, trivial⟩ Try.func45 (by decide) rfl (fun _ h => by cases h))
def spec_l04Nums_L0 : (Int × (Int × ((List Int) × ((List Int) × (Int × Unit))))) → Option (Out (Int × (Int × ((List Int) × ((List Int) × (Int × Unit))))) ((Bool × (Int × (Int × ((List Int) × ((List Int) × (Int × Unit)))))) ⊕ Empty) (Bool × Unit)) :=
  (fun v0 => (if (ltZ v0.1 v0.2.1) = true then (Option.bind (getI v0.2.2.1 v0.1) fun v1 => (Option.bind ((Option.bind (spec_l01In (v1, (0, (20, ()))) ()) fun v2 => (some v2.1)) : (Option Bool)) fun v3 => (if (notB v3) = true then (some (Out.ret (false, ()))) else (some (Out.norm ((addZ .i64 v0.1 1), (v0.2.1, (v0.2.2.1, (v0.2.2.2.1, (v0.2.2.2.2.1, ())))))))))) else (some (Out.exit (Sum.inl ((ltZ v0.1 v0.2.1), (v0.1, (v0.2.1, (v0.2.2.1, (v0.2.2.2.1, (v0.2.2.2.2.1, ())))))))))))
def spec_l04Nums (x : ((List Int) × (Int × Unit))) (c : Unit) : (Option (Bool × Unit)) :=
  (Option.bind (loopN (A := (Int × (Int × ((List Int) × ((List Int) × (Int × Unit)))))) big spec_l04Nums_L0 (0, ((lenI x.1), (x.1, (x.1, (x.2.1, ())))))) fun v4 => (match v4 with | Out.norm v5 => none | Out.exit v6 => (match ((match v6 with | Sum.inl v9 => (Sum.inl (v9.2.2.2.2.1, (v9.2.2.2.2.2.1, ()))) | Sum.inr v10 => (Empty.elim v10)) : (((List Int) × (Int × Unit)) ⊕ Empty)) with | Sum.inl v7 => (some ((eqZ (lenI v7.1) v7.2.1), ())) | Sum.inr v8 => none) | Out.ret v11 => (some v11)))
def H_spec_l04Nums : Hd := ⟨[.sl 3 (.int .i64), .int .i64], [], none, .p, .bool, .p, []⟩
def T_spec_l04Nums : FSig := ⟨H_spec_l04Nums.ps, H_spec_l04Nums.cs, H_spec_l04Nums.io, H_spec_l04Nums.im, H_spec_l04Nums.R, H_spec_l04Nums.m, spec_l04Nums⟩
theorem E_spec_l04Nums : fnOf tys [(120, T_spec_l01In)] Try.f212 H_spec_l04Nums = T_spec_l04Nums := by kernel_rfl
theorem K_spec_l04Nums : SigOk Try.prog 212 T_spec_l04Nums := (congrArg (SigOk Try.prog 212) E_spec_l04Nums).mp (fnOf_ok rfl tysOk ⟨K_spec_l01In, trivial⟩ Try.func212 (by decide) rfl (fun _ h => by cases h))
def spec_ModeOk (x : ((Int × ((List Int) × ((List Int) × Unit))) × (Int × (Int × Unit)))) (c : Unit) : (Option (Bool × Unit)) :=
  (Option.bind ((Option.bind (spec_l01In (x.1.1, (1, (12, ()))) ()) fun v0 => (some v0.1)) : (Option Bool)) fun v1 => (Option.bind ((if v1 = true then (Option.bind ((Option.bind (spec_l04Nums (x.1.2.1, (x.2.1, ())) ()) fun v2 => (some v2.1)) : (Option Bool)) fun v3 => (Option.bind ((if v3 = true then (Option.bind ((Option.bind (spec_l04Nums (x.1.2.2.1, (x.2.2.1, ())) ()) fun v4 => (some v4.1)) : (Option Bool)) fun v5 => (some (v5, ()))) else (some (false, ()))) : (Option (Bool × Unit))) fun v6 => (some (v6.1, ())))) else (some (false, ()))) : (Option (Bool × Unit))) fun v7 => (some (v7.1, ()))))
def H_spec_ModeOk : Hd := ⟨[.st [.int .i64, .sl 3 (.int .i64), .sl 3 (.int .i64)], .int .i64, .int .i64], [], none, .p, .bool, .p, []⟩
def T_spec_ModeOk : FSig := ⟨H_spec_ModeOk.ps, H_spec_ModeOk.cs, H_spec_ModeOk.io, H_spec_ModeOk.im, H_spec_ModeOk.R, H_spec_ModeOk.m, spec_ModeOk⟩
theorem E_spec_ModeOk : fnOf tys [(120, T_spec_l01In), (212, T_spec_l04Nums)] Try.f202 H_spec_ModeOk = T_spec_ModeOk := by kernel_rfl
theorem K_spec_ModeOk : SigOk Try.prog 202 T_spec_ModeOk := (congrArg (SigOk Try.prog 202) E_spec_ModeOk).mp (fnOf_ok rfl tysOk ⟨K_spec_l01In, K_spec_l04Nums, trivial⟩ Try.func202 (by decide) rfl (fun _ h => by cases h))
def spec_IsName_L0 : (Int × ((List UInt8) × Unit)) → Option (Out (Int × ((List UInt8) × Unit)) ((Bool × (Int × ((List UInt8) × Unit))) ⊕ Empty) (Bool × Unit)) :=
  (fun v0 => (if (ltZ v0.1 (lenI v0.2.1)) = true then (Option.bind (byteAt v0.2.1 v0.1) fun v1 => (Option.bind ((if (leZ 97 v1) = true then (Option.bind (byteAt v0.2.1 v0.1) fun v2 => (some ((leZ v2 122), (v0.1, (v0.2.1, ()))))) else (some (false, (v0.1, (v0.2.1, ()))))) : (Option (Bool × (Int × ((List UInt8) × Unit))))) fun v3 => (Option.bind ((if (notB v3.1) = true then (Option.bind ((if (eqZ v3.2.1 0) = true then (some (true, (v3.2.1, (v3.2.2.1, ())))) else (Option.bind (byteAt v3.2.2.1 v3.2.1) fun v4 => (Option.bind ((if (ltZ v4 48) = true then (some (true, (v3.2.1, (v3.2.2.1, ())))) else (Option.bind (byteAt v3.2.2.1 v3.2.1) fun v5 => (some ((ltZ 57 v5), (v3.2.1, (v3.2.2.1, ())))))) : (Option (Bool × (Int × ((List UInt8) × Unit))))) fun v6 => (some (v6.1, (v6.2.1, (v6.2.2.1, ()))))))) : (Option (Bool × (Int × ((List UInt8) × Unit))))) fun v7 => (some (v7.1, (v7.2.1, (v7.2.2.1, ()))))) else (some (false, (v3.2.1, (v3.2.2.1, ()))))) : (Option (Bool × (Int × ((List UInt8) × Unit))))) fun v8 => (if v8.1 = true then (some (Out.ret (false, ()))) else (some (Out.norm ((addZ .i64 v8.2.1 1), (v8.2.2.1, ())))))))) else (some (Out.exit (Sum.inl ((ltZ v0.1 (lenI v0.2.1)), (v0.1, (v0.2.1, ()))))))))
def spec_IsName (x : ((List UInt8) × Unit)) (c : Unit) : (Option (Bool × Unit)) :=
  (Option.bind (loopN (A := (Int × ((List UInt8) × Unit))) big spec_IsName_L0 (0, (x.1, ()))) fun v9 => (match v9 with | Out.norm v10 => none | Out.exit v11 => (match ((match v11 with | Sum.inl v16 => (Sum.inl (v16.2.2.1, ())) | Sum.inr v17 => (Empty.elim v17)) : (((List UInt8) × Unit) ⊕ Empty)) with | Sum.inl v12 => (Option.bind ((Option.bind (spec_l01In ((lenI v12.1), (1, (8, ()))) ()) fun v13 => (some v13.1)) : (Option Bool)) fun v14 => (some (v14, ()))) | Sum.inr v15 => none) | Out.ret v18 => (some v18)))
def H_spec_IsName : Hd := ⟨[.str], [], none, .p, .bool, .p, []⟩
def T_spec_IsName : FSig := ⟨H_spec_IsName.ps, H_spec_IsName.cs, H_spec_IsName.io, H_spec_IsName.im, H_spec_IsName.R, H_spec_IsName.m, spec_IsName⟩
theorem E_spec_IsName : fnOf tys [(120, T_spec_l01In)] Try.f203 H_spec_IsName = T_spec_IsName := by kernel_rfl
theorem K_spec_IsName : SigOk Try.prog 203 T_spec_IsName := (congrArg (SigOk Try.prog 203) E_spec_IsName).mp (fnOf_ok rfl tysOk ⟨K_spec_l01In, trivial⟩ Try.func203 (by decide) rfl (fun _ h => by cases h))
def spec_ActivityOk_L0 : (Int × (Int × ((List (Int × ((List Int) × ((List Int) × Unit)))) × (Int × (Int × (((List UInt8) × (Int × ((List (Int × ((List Int) × ((List Int) × Unit)))) × Unit))) × Unit)))))) → Option (Out (Int × (Int × ((List (Int × ((List Int) × ((List Int) × Unit)))) × (Int × (Int × (((List UInt8) × (Int × ((List (Int × ((List Int) × ((List Int) × Unit)))) × Unit))) × Unit)))))) ((Bool × (Int × (Int × ((List (Int × ((List Int) × ((List Int) × Unit)))) × (Int × (Int × (((List UInt8) × (Int × ((List (Int × ((List Int) × ((List Int) × Unit)))) × Unit))) × Unit))))))) ⊕ Empty) (Bool × Unit)) :=
  (fun v0 => (if (ltZ v0.1 v0.2.1) = true then (Option.bind (getI v0.2.2.1 v0.1) fun v1 => (Option.bind ((Option.bind (spec_ModeOk (v1, (v0.2.2.2.1, (v0.2.2.2.2.1, ()))) ()) fun v2 => (some v2.1)) : (Option Bool)) fun v3 => (if (notB v3) = true then (some (Out.ret (false, ()))) else (some (Out.norm ((addZ .i64 v0.1 1), (v0.2.1, (v0.2.2.1, (v0.2.2.2.1, (v0.2.2.2.2.1, (v0.2.2.2.2.2.1, ()))))))))))) else (some (Out.exit (Sum.inl ((ltZ v0.1 v0.2.1), (v0.1, (v0.2.1, (v0.2.2.1, (v0.2.2.2.1, (v0.2.2.2.2.1, (v0.2.2.2.2.2.1, ()))))))))))))
def spec_ActivityOk (x : (((List UInt8) × (Int × ((List (Int × ((List Int) × ((List Int) × Unit)))) × Unit))) × (Int × (Int × Unit)))) (c : Unit) : (Option (Bool × Unit)) :=
  (Option.bind (loopN (A := (Int × (Int × ((List (Int × ((List Int) × ((List Int) × Unit)))) × (Int × (Int × (((List UInt8) × (Int × ((List (Int × ((List Int) × ((List Int) × Unit)))) × Unit))) × Unit))))))) big spec_ActivityOk_L0 (0, ((lenI x.1.2.2.1), (x.1.2.2.1, (x.2.1, (x.2.2.1, (x.1, ()))))))) fun v4 => (match v4 with | Out.norm v5 => none | Out.exit v6 => (match ((match v6 with | Sum.inl v17 => (Sum.inl (v17.2.2.2.2.2.2.1, ())) | Sum.inr v18 => (Empty.elim v18)) : ((((List UInt8) × (Int × ((List (Int × ((List Int) × ((List Int) × Unit)))) × Unit))) × Unit) ⊕ Empty)) with | Sum.inl v7 => (Option.bind ((Option.bind (spec_IsName (v7.1.1, ()) ()) fun v8 => (some v8.1)) : (Option Bool)) fun v9 => (Option.bind ((if v9 = true then (Option.bind ((Option.bind (spec_l01In (v7.1.2.1, (0, (3, ()))) ()) fun v10 => (some v10.1)) : (Option Bool)) fun v11 => (Option.bind ((if v11 = true then (Option.bind ((Option.bind (spec_l01In ((lenI v7.1.2.2.1), (1, (3, ()))) ()) fun v12 => (some v12.1)) : (Option Bool)) fun v13 => (some (v13, ()))) else (some (false, ()))) : (Option (Bool × Unit))) fun v14 => (some (v14.1, ())))) else (some (false, ()))) : (Option (Bool × Unit))) fun v15 => (some (v15.1, ())))) | Sum.inr v16 => none) | Out.ret v19 => (some v19)))
def H_spec_ActivityOk : Hd := ⟨[.st [.str, .int .i64, .sl 37 (.st [.int .i64, .sl 3 (.int .i64), .sl 3 (.int .i64)])], .int .i64, .int .i64], [], none, .p, .bool, .p, []⟩
def T_spec_ActivityOk : FSig := ⟨H_spec_ActivityOk.ps, H_spec_ActivityOk.cs, H_spec_ActivityOk.io, H_spec_ActivityOk.im, H_spec_ActivityOk.R, H_spec_ActivityOk.m, spec_ActivityOk⟩
theorem E_spec_ActivityOk : fnOf tys [(120, T_spec_l01In), (202, T_spec_ModeOk), (203, T_spec_IsName)] Try.f170 H_spec_ActivityOk = T_spec_ActivityOk := by kernel_rfl
theorem K_spec_ActivityOk : SigOk Try.prog 170 T_spec_ActivityOk := (congrArg (SigOk Try.prog 170) E_spec_ActivityOk).mp (fnOf_ok rfl tysOk ⟨K_spec_l01In, K_spec_ModeOk, K_spec_IsName, trivial⟩ Try.func170 (by decide) rfl (fun _ h => by cases h))
def spec_ActivityIndex_L0 : (Int × (Int × ((List ((List UInt8) × (Int × ((List (Int × ((List Int) × ((List Int) × Unit)))) × Unit)))) × ((List UInt8) × Unit)))) → Option (Out (Int × (Int × ((List ((List UInt8) × (Int × ((List (Int × ((List Int) × ((List Int) × Unit)))) × Unit)))) × ((List UInt8) × Unit)))) ((Bool × (Int × (Int × ((List ((List UInt8) × (Int × ((List (Int × ((List Int) × ((List Int) × Unit)))) × Unit)))) × ((List UInt8) × Unit))))) ⊕ Empty) (Int × Unit)) :=
  (fun v0 => (if (ltZ v0.1 v0.2.1) = true then (Option.bind (getI v0.2.2.1 v0.1) fun v1 => (if (eqS v1.1 v0.2.2.2.1) = true then (some (Out.ret (v0.1, ()))) else (some (Out.norm ((addZ .i64 v0.1 1), (v0.2.1, (v0.2.2.1, (v0.2.2.2.1, ())))))))) else (some (Out.exit (Sum.inl ((ltZ v0.1 v0.2.1), (v0.1, (v0.2.1, (v0.2.2.1, (v0.2.2.2.1, ()))))))))))
def spec_ActivityIndex (x : ((Int × ((List ((List UInt8) × (Int × ((List (Int × ((List Int) × ((List Int) × Unit)))) × Unit)))) × ((List (Int × (Int × (Bool × (Int × Unit))))) × ((List ((List (Int × (Int × Unit))) × ((List (List Int)) × Unit))) × ((List Int) × Unit))))) × ((List UInt8) × Unit))) (c : Unit) : (Option (Int × Unit)) :=
  (Option.bind (loopN (A := (Int × (Int × ((List ((List UInt8) × (Int × ((List (Int × ((List Int) × ((List Int) × Unit)))) × Unit)))) × ((List UInt8) × Unit))))) big spec_ActivityIndex_L0 (0, ((lenI x.1.2.1), (x.1.2.1, (x.2.1, ()))))) fun v2 => (match v2 with | Out.norm v3 => none | Out.exit v4 => (match ((match v4 with | Sum.inl v7 => (Sum.inl ()) | Sum.inr v8 => (Empty.elim v8)) : (Unit ⊕ Empty)) with | Sum.inl v5 => (some ((-1), ())) | Sum.inr v6 => none) | Out.ret v9 => (some v9)))
def H_spec_ActivityIndex : Hd := ⟨[.st [.int .i64, .sl 35 (.st [.str, .int .i64, .sl 37 (.st [.int .i64, .sl 3 (.int .i64), .sl 3 (.int .i64)])]), .sl 115 (.st [.int .i64, .int .i64, .bool, .int .i64]), .sl 44 (.st [.sl 176 (.st [.int .i64, .int .i64]), .sl 26 (.sl 3 (.int .i64))]), .sl 3 (.int .i64)], .str], [], none, .p, .int .i64, .p, []⟩
def T_spec_ActivityIndex : FSig := ⟨H_spec_ActivityIndex.ps, H_spec_ActivityIndex.cs, H_spec_ActivityIndex.io, H_spec_ActivityIndex.im, H_spec_ActivityIndex.R, H_spec_ActivityIndex.m, spec_ActivityIndex⟩
theorem E_spec_ActivityIndex : fnOf tys [] Try.f171 H_spec_ActivityIndex = T_spec_ActivityIndex := by kernel_rfl
theorem K_spec_ActivityIndex : SigOk Try.prog 171 T_spec_ActivityIndex := (congrArg (SigOk Try.prog 171) E_spec_ActivityIndex).mp (fnOf_ok rfl tysOk trivial Try.func171 (by decide) rfl (fun _ h => by cases h))
def spec_StepsOk_L0 : (Int × (Int × ((List (Int × (Int × Unit))) × ((List (Int × (Int × Unit))) × Unit)))) → Option (Out (Int × (Int × ((List (Int × (Int × Unit))) × ((List (Int × (Int × Unit))) × Unit)))) ((Bool × (Int × (Int × ((List (Int × (Int × Unit))) × ((List (Int × (Int × Unit))) × Unit))))) ⊕ Empty) (Bool × Unit)) :=
  (fun v0 => (if (ltZ v0.1 v0.2.1) = true then (Option.bind (getI v0.2.2.1 v0.1) fun v1 => (Option.bind ((Option.bind (spec_l01In (v1.1, (0, (60, ()))) ()) fun v2 => (some v2.1)) : (Option Bool)) fun v3 => (Option.bind ((if (notB v3) = true then (some (true, (v0.1, (v0.2.1, (v0.2.2.1, (v0.2.2.2.1, ())))))) else (Option.bind ((Option.bind (spec_l01In (v1.2.1, (0, (20, ()))) ()) fun v4 => (some v4.1)) : (Option Bool)) fun v5 => (Option.bind ((if (notB v5) = true then (some (true, (v0.1, (v0.2.1, (v0.2.2.1, (v0.2.2.2.1, ())))))) else (Option.bind ((if (ltZ 0 v0.1) = true then (Option.bind (getI v0.2.2.2.1 (subZ .i64 v0.1 1)) fun v6 => (some ((leZ v1.1 v6.1), (v0.1, (v0.2.1, (v0.2.2.1, (v0.2.2.2.1, ()))))))) else (some (false, (v0.1, (v0.2.1, (v0.2.2.1, (v0.2.2.2.1, ()))))))) : (Option (Bool × (Int × (Int × ((List (Int × (Int × Unit))) × ((List (Int × (Int × Unit))) × Unit))))))) fun v7 => (some (v7.1, (v7.2.1, (v7.2.2.1, (v7.2.2.2.1, (v7.2.2.2.2.1, ())))))))) : (Option (Bool × (Int × (Int × ((List (Int × (Int × Unit))) × ((List (Int × (Int × Unit))) × Unit))))))) fun v8 => (some (v8.1, (v8.2.1, (v8.2.2.1, (v8.2.2.2.1, (v8.2.2.2.2.1, ()))))))))) : (Option (Bool × (Int × (Int × ((List (Int × (Int × Unit))) × ((List (Int × (Int × Unit))) × Unit))))))) fun v9 => (if v9.1 = true then (some (Out.ret (false, ()))) else (some (Out.norm ((addZ .i64 v9.2.1 1), (v9.2.2.1, (v9.2.2.2.1, (v9.2.2.2.2.1, ())))))))))) else (some (Out.exit (Sum.inl ((ltZ v0.1 v0.2.1), (v0.1, (v0.2.1, (v0.2.2.1, (v0.2.2.2.1, ()))))))))))
def spec_StepsOk (x : ((List (Int × (Int × Unit))) × Unit)) (c : Unit) : (Option (Bool × Unit)) :=
  (Option.bind (loopN (A := (Int × (Int × ((List (Int × (Int × Unit))) × ((List (Int × (Int × Unit))) × Unit))))) big spec_StepsOk_L0 (0, ((lenI x.1), (x.1, (x.1, ()))))) fun v10 => (match v10 with | Out.norm v11 => none | Out.exit v12 => (match ((match v12 with | Sum.inl v19 => (Sum.inl (v19.2.2.2.2.1, ())) | Sum.inr v20 => (Empty.elim v20)) : (((List (Int × (Int × Unit))) × Unit) ⊕ Empty)) with | Sum.inl v13 => (Option.bind ((Option.bind (spec_l01In ((lenI v13.1), (1, (8, ()))) ()) fun v14 => (some v14.1)) : (Option Bool)) fun v15 => (Option.bind ((if v15 = true then (Option.bind (getI v13.1 0) fun v16 => (some ((eqZ v16.1 0), ()))) else (some (false, ()))) : (Option (Bool × Unit))) fun v17 => (some (v17.1, ())))) | Sum.inr v18 => none) | Out.ret v21 => (some v21)))
def H_spec_StepsOk : Hd := ⟨[.sl 176 (.st [.int .i64, .int .i64])], [], none, .p, .bool, .p, []⟩
def T_spec_StepsOk : FSig := ⟨H_spec_StepsOk.ps, H_spec_StepsOk.cs, H_spec_StepsOk.io, H_spec_StepsOk.im, H_spec_StepsOk.R, H_spec_StepsOk.m, spec_StepsOk⟩
theorem E_spec_StepsOk : fnOf tys [(120, T_spec_l01In)] Try.f204 H_spec_StepsOk = T_spec_StepsOk := by kernel_rfl
theorem K_spec_StepsOk : SigOk Try.prog 204 T_spec_StepsOk := (congrArg (SigOk Try.prog 204) E_spec_StepsOk).mp (fnOf_ok rfl tysOk ⟨K_spec_l01In, trivial⟩ Try.func204 (by decide) rfl (fun _ h => by cases h))
def spec_ResourceOk_L0 : (Int × (Int × ((List Int) × (Int × (Int × ((List (List Int)) × (((List (Int × (Int × Unit))) × ((List (List Int)) × Unit)) × Unit))))))) → Option (Out (Int × (Int × ((List Int) × (Int × (Int × ((List (List Int)) × (((List (Int × (Int × Unit))) × ((List (List Int)) × Unit)) × Unit))))))) ((Bool × (Int × (Int × ((List Int) × (Int × (Int × ((List (List Int)) × (((List (Int × (Int × Unit))) × ((List (List Int)) × Unit)) × Unit)))))))) ⊕ Empty) (Bool × Unit)) :=
  (fun v2 => (if (ltZ v2.1 v2.2.1) = true then (Option.bind (getI v2.2.2.1 v2.1) fun v3 => (Option.bind ((Option.bind (spec_l01In (v3, (0, (12, ()))) ()) fun v4 => (some v4.1)) : (Option Bool)) fun v5 => (if (notB v5) = true then (some (Out.ret (false, ()))) else (some (Out.norm ((addZ .i64 v2.1 1), (v2.2.1, (v2.2.2.1, (v2.2.2.2.1, (v2.2.2.2.2.1, (v2.2.2.2.2.2.1, (v2.2.2.2.2.2.2.1, ())))))))))))) else (some (Out.exit (Sum.inl ((ltZ v2.1 v2.2.1), (v2.1, (v2.2.1, (v2.2.2.1, (v2.2.2.2.1, (v2.2.2.2.2.1, (v2.2.2.2.2.2.1, (v2.2.2.2.2.2.2.1, ())))))))))))))
def spec_ResourceOk_L1 : (Int × (Int × ((List (List Int)) × (((List (Int × (Int × Unit))) × ((List (List Int)) × Unit)) × Unit)))) → Option (Out (Int × (Int × ((List (List Int)) × (((List (Int × (Int × Unit))) × ((List (List Int)) × Unit)) × Unit)))) ((Bool × (Int × (Int × ((List (List Int)) × (((List (Int × (Int × Unit))) × ((List (List Int)) × Unit)) × Unit))))) ⊕ Empty) (Bool × Unit)) :=
  (fun v0 => (if (ltZ v0.1 v0.2.1) = true then (Option.bind (getI v0.2.2.1 v0.1) fun v1 => (if (notB (eqZ (lenI v1) 4)) = true then (some (Out.ret (false, ()))) else (Option.bind (loopN (A := (Int × (Int × ((List Int) × (Int × (Int × ((List (List Int)) × (((List (Int × (Int × Unit))) × ((List (List Int)) × Unit)) × Unit)))))))) big spec_ResourceOk_L0 (0, ((lenI v1), (v1, (v0.1, (v0.2.1, (v0.2.2.1, (v0.2.2.2.1, ())))))))) fun v6 => (match v6 with | Out.norm v7 => none | Out.exit v8 => (match ((match v8 with | Sum.inl v13 => (Sum.inl (v13.2.2.2.2.1, (v13.2.2.2.2.2.1, (v13.2.2.2.2.2.2.1, (v13.2.2.2.2.2.2.2.1, ()))))) | Sum.inr v14 => (Empty.elim v14)) : ((Int × (Int × ((List (List Int)) × (((List (Int × (Int × Unit))) × ((List (List Int)) × Unit)) × Unit)))) ⊕ Empty)) with | Sum.inl v9 => (some (Out.norm ((addZ .i64 v9.1 1), (v9.2.1, (v9.2.2.1, (v9.2.2.2.1, ())))))) | Sum.inr v10 => (match ((Empty.elim v10) : ((Int × (Int × ((List (List Int)) × (((List (Int × (Int × Unit))) × ((List (List Int)) × Unit)) × Unit)))) ⊕ Empty)) with | Sum.inl v11 => (some (Out.norm ((addZ .i64 v11.1 1), (v11.2.1, (v11.2.2.1, (v11.2.2.2.1, ())))))) | Sum.inr v12 => (some (Out.exit (Sum.inr (Empty.elim v12)))))) | Out.ret v15 => (some (Out.ret v15)))))) else (some (Out.exit (Sum.inl ((ltZ v0.1 v0.2.1), (v0.1, (v0.2.1, (v0.2.2.1, (v0.2.2.2.1, ()))))))))))
def spec_ResourceOk (x : (((List (Int × (Int × Unit))) × ((List (List Int)) × Unit)) × Unit)) (c : Unit) : (Option (Bool × Unit)) :=
  (Option.bind (loopN (A := (Int × (Int × ((List (List Int)) × (((List (Int × (Int × Unit))) × ((List (List Int)) × Unit)) × Unit))))) big spec_ResourceOk_L1 (0, ((lenI x.1.2.1), (x.1.2.1, (x.1, ()))))) fun v16 => (match v16 with | Out.norm v17 => none | Out.exit v18 => (match ((match v18 with | Sum.inl v25 => (Sum.inl (v25.2.2.2.2.1, ())) | Sum.inr v26 => (Empty.elim v26)) : ((((List (Int × (Int × Unit))) × ((List (List Int)) × Unit)) × Unit) ⊕ Empty)) with | Sum.inl v19 => (Option.bind ((Option.bind (spec_StepsOk (v19.1.1, ()) ()) fun v20 => (some v20.1)) : (Option Bool)) fun v21 => (Option.bind ((if v21 = true then (Option.bind ((if (eqZ (lenI v19.1.2.1) 0) = true then (some (true, ())) else (some ((eqZ (lenI v19.1.2.1) 4), ()))) : (Option (Bool × Unit))) fun v22 => (some (v22.1, ()))) else (some (false, ()))) : (Option (Bool × Unit))) fun v23 => (some (v23.1, ())))) | Sum.inr v24 => none) | Out.ret v27 => (some v27)))
def H_spec_ResourceOk : Hd := ⟨[.st [.sl 176 (.st [.int .i64, .int .i64]), .sl 26 (.sl 3 (.int .i64))]], [], none, .p, .bool, .p, []⟩
def T_spec_ResourceOk : FSig := ⟨H_spec_ResourceOk.ps, H_spec_ResourceOk.cs, H_spec_ResourceOk.io, H_spec_ResourceOk.im, H_spec_ResourceOk.R, H_spec_ResourceOk.m, spec_ResourceOk⟩
theorem E_spec_ResourceOk : fnOf tys [(120, T_spec_l01In), (204, T_spec_StepsOk)] Try.f172 H_spec_ResourceOk = T_spec_ResourceOk := by kernel_rfl
theorem K_spec_ResourceOk : SigOk Try.prog 172 T_spec_ResourceOk := (congrArg (SigOk Try.prog 172) E_spec_ResourceOk).mp (fnOf_ok rfl tysOk ⟨K_spec_l01In, K_spec_StepsOk, trivial⟩ Try.func172 (by decide) rfl (fun _ h => by cases h))
def spec_ProjectOk_L0 : (Int × (Int × ((List ((List UInt8) × (Int × ((List (Int × ((List Int) × ((List Int) × Unit)))) × Unit)))) × ((Int × ((List ((List UInt8) × (Int × ((List (Int × ((List Int) × ((List Int) × Unit)))) × Unit)))) × ((List (Int × (Int × (Bool × (Int × Unit))))) × ((List ((List (Int × (Int × Unit))) × ((List (List Int)) × Unit))) × ((List Int) × Unit))))) × (Int × Unit))))) → Option (Out (Int × (Int × ((List ((List UInt8) × (Int × ((List (Int × ((List Int) × ((List Int) × Unit)))) × Unit)))) × ((Int × ((List ((List UInt8) × (Int × ((List (Int × ((List Int) × ((List Int) × Unit)))) × Unit)))) × ((List (Int × (Int × (Bool × (Int × Unit))))) × ((List ((List (Int × (Int × Unit))) × ((List (List Int)) × Unit))) × ((List Int) × Unit))))) × (Int × Unit))))) ((Bool × (Int × (Int × ((List ((List UInt8) × (Int × ((List (Int × ((List Int) × ((List Int) × Unit)))) × Unit)))) × ((Int × ((List ((List UInt8) × (Int × ((List (Int × ((List Int) × ((List Int) × Unit)))) × Unit)))) × ((List (Int × (Int × (Bool × (Int × Unit))))) × ((List ((List (Int × (Int × Unit))) × ((List (List Int)) × Unit))) × ((List Int) × Unit))))) × (Int × Unit)))))) ⊕ Empty) (Bool × Unit)) :=
  (fun v8 => (if (ltZ v8.1 v8.2.1) = true then (Option.bind (getI v8.2.2.1 v8.1) fun v9 => (Option.bind ((Option.bind (spec_ActivityOk (v9, ((lenI v8.2.2.2.1.2.2.2.1), ((lenI v8.2.2.2.1.2.2.2.2.1), ()))) ()) fun v10 => (some v10.1)) : (Option Bool)) fun v11 => (Option.bind ((if (notB v11) = true then (some (true, (v8.1, (v8.2.1, (v8.2.2.1, (v8.2.2.2.1, (v8.2.2.2.2.1, ()))))))) else (Option.bind ((Option.bind (spec_ActivityIndex (v8.2.2.2.1, (v9.1, ())) ()) fun v12 => (some v12.1)) : (Option Int)) fun v13 => (some ((notB (eqZ v13 v8.1)), (v8.1, (v8.2.1, (v8.2.2.1, (v8.2.2.2.1, (v8.2.2.2.2.1, ()))))))))) : (Option (Bool × (Int × (Int × ((List ((List UInt8) × (Int × ((List (Int × ((List Int) × ((List Int) × Unit)))) × Unit)))) × ((Int × ((List ((List UInt8) × (Int × ((List (Int × ((List Int) × ((List Int) × Unit)))) × Unit)))) × ((List (Int × (Int × (Bool × (Int × Unit))))) × ((List ((List (Int × (Int × Unit))) × ((List (List Int)) × Unit))) × ((List Int) × Unit))))) × (Int × Unit)))))))) fun v14 => (if v14.1 = true then (some (Out.ret (false, ()))) else (some (Out.norm ((addZ .i64 v14.2.1 1), (v14.2.2.1, (v14.2.2.2.1, (v14.2.2.2.2.1, (v14.2.2.2.2.2.1, ()))))))))))) else (some (Out.exit (Sum.inl ((ltZ v8.1 v8.2.1), (v8.1, (v8.2.1, (v8.2.2.1, (v8.2.2.2.1, (v8.2.2.2.2.1, ())))))))))))
def spec_ProjectOk_L1 : (Int × (Int × ((List ((List (Int × (Int × Unit))) × ((List (List Int)) × Unit))) × ((Int × ((List ((List UInt8) × (Int × ((List (Int × ((List Int) × ((List Int) × Unit)))) × Unit)))) × ((List (Int × (Int × (Bool × (Int × Unit))))) × ((List ((List (Int × (Int × Unit))) × ((List (List Int)) × Unit))) × ((List Int) × Unit))))) × (Int × Unit))))) → Option (Out (Int × (Int × ((List ((List (Int × (Int × Unit))) × ((List (List Int)) × Unit))) × ((Int × ((List ((List UInt8) × (Int × ((List (Int × ((List Int) × ((List Int) × Unit)))) × Unit)))) × ((List (Int × (Int × (Bool × (Int × Unit))))) × ((List ((List (Int × (Int × Unit))) × ((List (List Int)) × Unit))) × ((List Int) × Unit))))) × (Int × Unit))))) ((Bool × (Int × (Int × ((List ((List (Int × (Int × Unit))) × ((List (List Int)) × Unit))) × ((Int × ((List ((List UInt8) × (Int × ((List (Int × ((List Int) × ((List Int) × Unit)))) × Unit)))) × ((List (Int × (Int × (Bool × (Int × Unit))))) × ((List ((List (Int × (Int × Unit))) × ((List (List Int)) × Unit))) × ((List Int) × Unit))))) × (Int × Unit)))))) ⊕ Empty) (Bool × Unit)) :=
  (fun v19 => (if (ltZ v19.1 v19.2.1) = true then (Option.bind (getI v19.2.2.1 v19.1) fun v20 => (Option.bind ((Option.bind (spec_ResourceOk (v20, ()) ()) fun v21 => (some v21.1)) : (Option Bool)) fun v22 => (if (notB v22) = true then (some (Out.ret (false, ()))) else (some (Out.norm ((addZ .i64 v19.1 1), (v19.2.1, (v19.2.2.1, (v19.2.2.2.1, (v19.2.2.2.2.1, ())))))))))) else (some (Out.exit (Sum.inl ((ltZ v19.1 v19.2.1), (v19.1, (v19.2.1, (v19.2.2.1, (v19.2.2.2.1, (v19.2.2.2.2.1, ())))))))))))
def spec_ProjectOk_L2 : (Int × (Int × ((List Int) × ((Int × ((List ((List UInt8) × (Int × ((List (Int × ((List Int) × ((List Int) × Unit)))) × Unit)))) × ((List (Int × (Int × (Bool × (Int × Unit))))) × ((List ((List (Int × (Int × Unit))) × ((List (List Int)) × Unit))) × ((List Int) × Unit))))) × (Int × Unit))))) → Option (Out (Int × (Int × ((List Int) × ((Int × ((List ((List UInt8) × (Int × ((List (Int × ((List Int) × ((List Int) × Unit)))) × Unit)))) × ((List (Int × (Int × (Bool × (Int × Unit))))) × ((List ((List (Int × (Int × Unit))) × ((List (List Int)) × Unit))) × ((List Int) × Unit))))) × (Int × Unit))))) ((Bool × (Int × (Int × ((List Int) × ((Int × ((List ((List UInt8) × (Int × ((List (Int × ((List Int) × ((List Int) × Unit)))) × Unit)))) × ((List (Int × (Int × (Bool × (Int × Unit))))) × ((List ((List (Int × (Int × Unit))) × ((List (List Int)) × Unit))) × ((List Int) × Unit))))) × (Int × Unit)))))) ⊕ Empty) (Bool × Unit)) :=
  (fun v27 => (if (ltZ v27.1 v27.2.1) = true then (Option.bind (getI v27.2.2.1 v27.1) fun v28 => (Option.bind ((Option.bind (spec_l01In (v28, (0, (100, ()))) ()) fun v29 => (some v29.1)) : (Option Bool)) fun v30 => (if (notB v30) = true then (some (Out.ret (false, ()))) else (some (Out.norm ((addZ .i64 v27.1 1), (v27.2.1, (v27.2.2.1, (v27.2.2.2.1, (v27.2.2.2.2.1, ())))))))))) else (some (Out.exit (Sum.inl ((ltZ v27.1 v27.2.1), (v27.1, (v27.2.1, (v27.2.2.1, (v27.2.2.2.1, (v27.2.2.2.2.1, ())))))))))))
def spec_ProjectOk_L3 : (Int × (Int × ((List (Int × (Int × (Bool × (Int × Unit))))) × (Int × Unit)))) → Option (Out (Int × (Int × ((List (Int × (Int × (Bool × (Int × Unit))))) × (Int × Unit)))) ((Bool × (Int × (Int × ((List (Int × (Int × (Bool × (Int × Unit))))) × (Int × Unit))))) ⊕ Empty) (Bool × Unit)) :=
  (fun v35 => (if (ltZ v35.1 v35.2.1) = true then (Option.bind (getI v35.2.2.1 v35.1) fun v36 => (Option.bind ((Option.bind (spec_l01In (v36.1, (0, ((subZ .i64 v35.2.2.2.1 1), ()))) ()) fun v37 => (some v37.1)) : (Option Bool)) fun v38 => (Option.bind ((if (notB v38) = true then (some (true, (v35.1, (v35.2.1, (v35.2.2.1, (v35.2.2.2.1, ())))))) else (Option.bind ((Option.bind (spec_l01In (v36.2.1, (0, ((subZ .i64 v35.2.2.2.1 1), ()))) ()) fun v39 => (some v39.1)) : (Option Bool)) fun v40 => (Option.bind ((if (notB v40) = true then (some (true, (v35.1, (v35.2.1, (v35.2.2.1, (v35.2.2.2.1, ())))))) else (Option.bind ((if (eqZ v36.1 v36.2.1) = true then (some (true, (v35.1, (v35.2.1, (v35.2.2.1, (v35.2.2.2.1, ())))))) else (Option.bind ((Option.bind (spec_l01In (v36.2.2.2.1, ((-60), (60, ()))) ()) fun v41 => (some v41.1)) : (Option Bool)) fun v42 => (some ((notB v42), (v35.1, (v35.2.1, (v35.2.2.1, (v35.2.2.2.1, ())))))))) : (Option (Bool × (Int × (Int × ((List (Int × (Int × (Bool × (Int × Unit))))) × (Int × Unit))))))) fun v43 => (some (v43.1, (v43.2.1, (v43.2.2.1, (v43.2.2.2.1, (v43.2.2.2.2.1, ())))))))) : (Option (Bool × (Int × (Int × ((List (Int × (Int × (Bool × (Int × Unit))))) × (Int × Unit))))))) fun v44 => (some (v44.1, (v44.2.1, (v44.2.2.1, (v44.2.2.2.1, (v44.2.2.2.2.1, ()))))))))) : (Option (Bool × (Int × (Int × ((List (Int × (Int × (Bool × (Int × Unit))))) × (Int × Unit))))))) fun v45 => (if v45.1 = true then (some (Out.ret (false, ()))) else (some (Out.norm ((addZ .i64 v45.2.1 1), (v45.2.2.1, (v45.2.2.2.1, (v45.2.2.2.2.1, ())))))))))) else (some (Out.exit (Sum.inl ((ltZ v35.1 v35.2.1), (v35.1, (v35.2.1, (v35.2.2.1, (v35.2.2.2.1, ()))))))))))
def spec_ProjectOk (x : ((Int × ((List ((List UInt8) × (Int × ((List (Int × ((List Int) × ((List Int) × Unit)))) × Unit)))) × ((List (Int × (Int × (Bool × (Int × Unit))))) × ((List ((List (Int × (Int × Unit))) × ((List (List Int)) × Unit))) × ((List Int) × Unit))))) × Unit)) (c : Unit) : (Option (Bool × Unit)) :=
  (Option.bind ((Option.bind (spec_l01In (x.1.1, (1, (60, ()))) ()) fun v0 => (some v0.1)) : (Option Bool)) fun v1 => (Option.bind ((if (notB v1) = true then (some (true, (x.1, ((lenI x.1.2.1), ())))) else (Option.bind ((Option.bind (spec_l01In ((lenI x.1.2.1), (1, (6, ()))) ()) fun v2 => (some v2.1)) : (Option Bool)) fun v3 => (Option.bind ((if (notB v3) = true then (some (true, (x.1, ((lenI x.1.2.1), ())))) else (Option.bind ((if (ltZ 3 (lenI x.1.2.2.2.1)) = true then (some (true, (x.1, ((lenI x.1.2.1), ())))) else (Option.bind ((if (ltZ 2 (lenI x.1.2.2.2.2.1)) = true then (some (true, (x.1, ((lenI x.1.2.1), ())))) else (some ((ltZ 12 (lenI x.1.2.2.1)), (x.1, ((lenI x.1.2.1), ()))))) : (Option (Bool × ((Int × ((List ((List UInt8) × (Int × ((List (Int × ((List Int) × ((List Int) × Unit)))) × Unit)))) × ((List (Int × (Int × (Bool × (Int × Unit))))) × ((List ((List (Int × (Int × Unit))) × ((List (List Int)) × Unit))) × ((List Int) × Unit))))) × (Int × Unit))))) fun v4 => (some (v4.1, (v4.2.1, (v4.2.2.1, ())))))) : (Option (Bool × ((Int × ((List ((List UInt8) × (Int × ((List (Int × ((List Int) × ((List Int) × Unit)))) × Unit)))) × ((List (Int × (Int × (Bool × (Int × Unit))))) × ((List ((List (Int × (Int × Unit))) × ((List (List Int)) × Unit))) × ((List Int) × Unit))))) × (Int × Unit))))) fun v5 => (some (v5.1, (v5.2.1, (v5.2.2.1, ())))))) : (Option (Bool × ((Int × ((List ((List UInt8) × (Int × ((List (Int × ((List Int) × ((List Int) × Unit)))) × Unit)))) × ((List (Int × (Int × (Bool × (Int × Unit))))) × ((List ((List (Int × (Int × Unit))) × ((List (List Int)) × Unit))) × ((List Int) × Unit))))) × (Int × Unit))))) fun v6 => (some (v6.1, (v6.2.1, (v6.2.2.1, ()))))))) : (Option (Bool × ((Int × ((List ((List UInt8) × (Int × ((List (Int × ((List Int) × ((List Int) × Unit)))) × Unit)))) × ((List (Int × (Int × (Bool × (Int × Unit))))) × ((List ((List (Int × (Int × Unit))) × ((List (List Int)) × Unit))) × ((List Int) × Unit))))) × (Int × Unit))))) fun v7 => (if v7.1 = true then (some (false, ())) else (Option.bind (loopN (A := (Int × (Int × ((List ((List UInt8) × (Int × ((List (Int × ((List Int) × ((List Int) × Unit)))) × Unit)))) × ((Int × ((List ((List UInt8) × (Int × ((List (Int × ((List Int) × ((List Int) × Unit)))) × Unit)))) × ((List (Int × (Int × (Bool × (Int × Unit))))) × ((List ((List (Int × (Int × Unit))) × ((List (List Int)) × Unit))) × ((List Int) × Unit))))) × (Int × Unit)))))) big spec_ProjectOk_L0 (0, ((lenI v7.2.1.2.1), (v7.2.1.2.1, (v7.2.1, (v7.2.2.1, ())))))) fun v15 => (match v15 with | Out.norm v16 => none | Out.exit v17 => (match ((match v17 with | Sum.inl v63 => (Sum.inl (v63.2.2.2.2.1, (v63.2.2.2.2.2.1, ()))) | Sum.inr v64 => (Empty.elim v64)) : (((Int × ((List ((List UInt8) × (Int × ((List (Int × ((List Int) × ((List Int) × Unit)))) × Unit)))) × ((List (Int × (Int × (Bool × (Int × Unit))))) × ((List ((List (Int × (Int × Unit))) × ((List (List Int)) × Unit))) × ((List Int) × Unit))))) × (Int × Unit)) ⊕ Empty)) with | Sum.inl v18 => (Option.bind (loopN (A := (Int × (Int × ((List ((List (Int × (Int × Unit))) × ((List (List Int)) × Unit))) × ((Int × ((List ((List UInt8) × (Int × ((List (Int × ((List Int) × ((List Int) × Unit)))) × Unit)))) × ((List (Int × (Int × (Bool × (Int × Unit))))) × ((List ((List (Int × (Int × Unit))) × ((List (List Int)) × Unit))) × ((List Int) × Unit))))) × (Int × Unit)))))) big spec_ProjectOk_L1 (0, ((lenI v18.1.2.2.2.1), (v18.1.2.2.2.1, (v18.1, (v18.2.1, ())))))) fun v23 => (match v23 with | Out.norm v24 => none | Out.exit v25 => (match ((match v25 with | Sum.inl v59 => (Sum.inl (v59.2.2.2.2.1, (v59.2.2.2.2.2.1, ()))) | Sum.inr v60 => (Empty.elim v60)) : (((Int × ((List ((List UInt8) × (Int × ((List (Int × ((List Int) × ((List Int) × Unit)))) × Unit)))) × ((List (Int × (Int × (Bool × (Int × Unit))))) × ((List ((List (Int × (Int × Unit))) × ((List (List Int)) × Unit))) × ((List Int) × Unit))))) × (Int × Unit)) ⊕ Empty)) with | Sum.inl v26 => (Option.bind (loopN (A := (Int × (Int × ((List Int) × ((Int × ((List ((List UInt8) × (Int × ((List (Int × ((List Int) × ((List Int) × Unit)))) × Unit)))) × ((List (Int × (Int × (Bool × (Int × Unit))))) × ((List ((List (Int × (Int × Unit))) × ((List (List Int)) × Unit))) × ((List Int) × Unit))))) × (Int × Unit)))))) big spec_ProjectOk_L2 (0, ((lenI v26.1.2.2.2.2.1), (v26.1.2.2.2.2.1, (v26.1, (v26.2.1, ())))))) fun v31 => (match v31 with | Out.norm v32 => none | Out.exit v33 => (match ((match v33 with | Sum.inl v55 => (Sum.inl (v55.2.2.2.2.1, (v55.2.2.2.2.2.1, ()))) | Sum.inr v56 => (Empty.elim v56)) : (((Int × ((List ((List UInt8) × (Int × ((List (Int × ((List Int) × ((List Int) × Unit)))) × Unit)))) × ((List (Int × (Int × (Bool × (Int × Unit))))) × ((List ((List (Int × (Int × Unit))) × ((List (List Int)) × Unit))) × ((List Int) × Unit))))) × (Int × Unit)) ⊕ Empty)) with | Sum.inl v34 => (Option.bind (loopN (A := (Int × (Int × ((List (Int × (Int × (Bool × (Int × Unit))))) × (Int × Unit))))) big spec_ProjectOk_L3 (0, ((lenI v34.1.2.2.1), (v34.1.2.2.1, (v34.2.1, ()))))) fun v46 => (match v46 with | Out.norm v47 => none | Out.exit v48 => (match ((match v48 with | Sum.inl v51 => (Sum.inl ()) | Sum.inr v52 => (Empty.elim v52)) : (Unit ⊕ Empty)) with | Sum.inl v49 => (some (true, ())) | Sum.inr v50 => none) | Out.ret v53 => (some v53))) | Sum.inr v54 => none) | Out.ret v57 => (some v57))) | Sum.inr v58 => none) | Out.ret v61 => (some v61))) | Sum.inr v62 => none) | Out.ret v65 => (some v65))))))
def H_spec_ProjectOk : Hd := ⟨[.st [.int .i64, .sl 35 (.st [.str, .int .i64, .sl 37 (.st [.int .i64, .sl 3 (.int .i64), .sl 3 (.int .i64)])]), .sl 115 (.st [.int .i64, .int .i64, .bool, .int .i64]), .sl 44 (.st [.sl 176 (.st [.int .i64, .int .i64]), .sl 26 (.sl 3 (.int .i64))]), .sl 3 (.int .i64)]], [], none, .p, .bool, .p, []⟩
def T_spec_ProjectOk : FSig := ⟨H_spec_ProjectOk.ps, H_spec_ProjectOk.cs, H_spec_ProjectOk.io, H_spec_ProjectOk.im, H_spec_ProjectOk.R, H_spec_ProjectOk.m, spec_ProjectOk⟩
theorem E_spec_ProjectOk : fnOf tys [(120, T_spec_l01In), (170, T_spec_ActivityOk), (171, T_spec_ActivityIndex), (172, T_spec_ResourceOk)] Try.f119 H_spec_ProjectOk = T_spec_ProjectOk := by kernel_rfl
theorem K_spec_ProjectOk : SigOk Try.prog 119 T_spec_ProjectOk := (congrArg (SigOk Try.prog 119) E_spec_ProjectOk).mp (fnOf_ok rfl tysOk ⟨K_spec_l01In, K_spec_ActivityOk, K_spec_ActivityIndex, K_spec_ResourceOk, trivial⟩ Try.func119 (by decide) rfl (fun _ h => by cases h))
def spec_DelayOk (x : ((Int × ((List ((List UInt8) × (Int × ((List (Int × ((List Int) × ((List Int) × Unit)))) × Unit)))) × ((List (Int × (Int × (Bool × (Int × Unit))))) × ((List ((List (Int × (Int × Unit))) × ((List (List Int)) × Unit))) × ((List Int) × Unit))))) × ((Int × (Int × (Int × (Int × Unit)))) × Unit))) (c : Unit) : (Option (Bool × Unit)) :=
  (Option.bind ((Option.bind (spec_ProjectOk (x.1, ()) ()) fun v0 => (some v0.1)) : (Option Bool)) fun v1 => (Option.bind ((if (notB v1) = true then (some (true, (x.1, (x.2.1, ())))) else (Option.bind ((Option.bind (spec_l01In (x.2.1.2.2.2.1, (0, (60, ()))) ()) fun v2 => (some v2.1)) : (Option Bool)) fun v3 => (some ((notB v3), (x.1, (x.2.1, ())))))) : (Option (Bool × ((Int × ((List ((List UInt8) × (Int × ((List (Int × ((List Int) × ((List Int) × Unit)))) × Unit)))) × ((List (Int × (Int × (Bool × (Int × Unit))))) × ((List ((List (Int × (Int × Unit))) × ((List (List Int)) × Unit))) × ((List Int) × Unit))))) × ((Int × (Int × (Int × (Int × Unit)))) × Unit))))) fun v4 => (if v4.1 = true then (some (false, ())) else (if (eqZ v4.2.2.1.1 1) = true then (Option.bind ((Option.bind (spec_l01In (v4.2.2.1.2.1, (0, ((subZ .i64 (lenI v4.2.1.2.1) 1), ()))) ()) fun v5 => (some v5.1)) : (Option Bool)) fun v6 => (Option.bind ((if v6 = true then (Option.bind ((Option.bind (spec_l01In (v4.2.2.1.2.2.1, (0, (60, ()))) ()) fun v7 => (some v7.1)) : (Option Bool)) fun v8 => (some (v8, ()))) else (some (false, ()))) : (Option (Bool × Unit))) fun v9 => (some (v9.1, ())))) else (if (eqZ v4.2.2.1.1 2) = true then (Option.bind ((Option.bind (spec_l01In (v4.2.2.1.2.1, (0, ((subZ .i64 (lenI v4.2.1.2.1) 1), ()))) ()) fun v10 => (some v10.1)) : (Option Bool)) fun v11 => (Option.bind ((if v11 = true then (Option.bind ((Option.bind (spec_l01In (v4.2.2.1.2.2.1, (1, (12, ()))) ()) fun v12 => (some v12.1)) : (Option Bool)) fun v13 => (some (v13, ()))) else (some (false, ()))) : (Option (Bool × Unit))) fun v14 => (some (v14.1, ())))) else (if (eqZ v4.2.2.1.1 3) = true then (Option.bind ((Option.bind (spec_l01In (v4.2.2.1.2.1, (0, ((subZ .i64 (lenI v4.2.1.2.2.2.1) 1), ()))) ()) fun v15 => (some v15.1)) : (Option Bool)) fun v16 => (Option.bind ((if v16 = true then (Option.bind ((Option.bind (spec_l01In (v4.2.2.1.2.2.1, (1, (20, ()))) ()) fun v17 => (some v17.1)) : (Option Bool)) fun v18 => (some (v18, ()))) else (some (false, ()))) : (Option (Bool × Unit))) fun v19 => (some (v19.1, ())))) else (some (false, ()))))))))
def H_spec_DelayOk : Hd := ⟨[.st [.int .i64, .sl 35 (.st [.str, .int .i64, .sl 37 (.st [.int .i64, .sl 3 (.int .i64), .sl 3 (.int .i64)])]), .sl 115 (.st [.int .i64, .int .i64, .bool, .int .i64]), .sl 44 (.st [.sl 176 (.st [.int .i64, .int .i64]), .sl 26 (.sl 3 (.int .i64))]), .sl 3 (.int .i64)], .st [.int .i64, .int .i64, .int .i64, .int .i64]], [], none, .p, .bool, .p, []⟩
def T_spec_DelayOk : FSig := ⟨H_spec_DelayOk.ps, H_spec_DelayOk.cs, H_spec_DelayOk.io, H_spec_DelayOk.im, H_spec_DelayOk.R, H_spec_DelayOk.m, spec_DelayOk⟩
theorem E_spec_DelayOk : fnOf tys [(119, T_spec_ProjectOk), (120, T_spec_l01In)] Try.f46 H_spec_DelayOk = T_spec_DelayOk := by kernel_rfl
theorem K_spec_DelayOk : SigOk Try.prog 46 T_spec_DelayOk := (congrArg (SigOk Try.prog 46) E_spec_DelayOk).mp (fnOf_ok rfl tysOk ⟨K_spec_ProjectOk, K_spec_l01In, trivial⟩ Try.func46 (by decide) rfl (fun _ h => by cases h))
def laws_toMode (x : ((Int × ((List Int) × ((List Int) × Unit))) × Unit)) (c : Unit) : (Option ((Int × ((List Int) × ((List Int) × Unit))) × Unit)) :=
  (Option.bind ((Option.bind (laws_toIntS (x.1.2.1, ()) ()) fun v0 => (some v0.1)) : (Option (List Int))) fun v1 => (Option.bind ((Option.bind (laws_toIntS (x.1.2.2.1, ()) ()) fun v2 => (some v2.1)) : (Option (List Int))) fun v3 => (some ((x.1.1, (v1, (v3, ()))), ()))))
def H_laws_toMode : Hd := ⟨[.st [.int .i64, .sl 3 (.int .i64), .sl 3 (.int .i64)]], [], none, .p, .st [.int .i64, .sl 3 (.int .i64), .sl 3 (.int .i64)], (Ty.all (.st [.int .i64, .sl 3 (.int .i64), .sl 3 (.int .i64)])), []⟩
def T_laws_toMode : FSig := ⟨H_laws_toMode.ps, H_laws_toMode.cs, H_laws_toMode.io, H_laws_toMode.im, H_laws_toMode.R, H_laws_toMode.m, laws_toMode⟩
theorem E_laws_toMode : fnOf tys [(89, T_laws_toIntS)] Try.f213 H_laws_toMode = T_laws_toMode := by kernel_rfl
theorem K_laws_toMode : SigOk Try.prog 213 T_laws_toMode := (congrArg (SigOk Try.prog 213) E_laws_toMode).mp (fnOf_ok rfl tysOk ⟨K_laws_toIntS, trivial⟩ Try.func213 (by decide) rfl (fun _ h => by cases h))
def laws_toModeS_L0 : (Int × ((List (Int × ((List Int) × ((List Int) × Unit)))) × ((List (Int × ((List Int) × ((List Int) × Unit)))) × Unit))) → Option (Out (Int × ((List (Int × ((List Int) × ((List Int) × Unit)))) × ((List (Int × ((List Int) × ((List Int) × Unit)))) × Unit))) ((Bool × (Int × ((List (Int × ((List Int) × ((List Int) × Unit)))) × ((List (Int × ((List Int) × ((List Int) × Unit)))) × Unit)))) ⊕ Empty) ((List (Int × ((List Int) × ((List Int) × Unit)))) × Unit)) :=
  (fun v1 => (if (ltZ v1.1 (lenI v1.2.1)) = true then (Option.bind (getI v1.2.1 v1.1) fun v2 => (Option.bind ((Option.bind (laws_toMode (v2, ()) ()) fun v3 => (some v3.1)) : (Option (Int × ((List Int) × ((List Int) × Unit))))) fun v4 => (Option.bind ((Option.bind (getI v1.2.2.1 v1.1) fun v5 => (some ())) : (Option Unit)) fun v6 => (Option.bind ((Option.bind ((Option.bind (getI v1.2.2.1 v1.1) fun v7 => (some v7)) : (Option (Int × ((List Int) × ((List Int) × Unit))))) fun v8 => (some v4)) : (Option (Int × ((List Int) × ((List Int) × Unit))))) fun v9 => (some (Out.norm ((addZ .i64 v1.1 1), (v1.2.1, ((setI v1.2.2.1 v1.1 (fun v10 => v9)), ()))))))))) else (some (Out.exit (Sum.inl ((ltZ v1.1 (lenI v1.2.1)), (v1.1, (v1.2.1, (v1.2.2.1, ())))))))))
def laws_toModeS (x : ((List (Int × ((List Int) × ((List Int) × Unit)))) × Unit)) (c : Unit) : (Option ((List (Int × ((List Int) × ((List Int) × Unit)))) × Unit)) :=
  (Option.bind ((if (eqZ (lenI x.1) (lenI x.1)) = true then (zerosI (lenI x.1) (0, ([], ([], ())))) else none) : (Option (List (Int × ((List Int) × ((List Int) × Unit)))))) fun v0 => (Option.bind (loopN (A := (Int × ((List (Int × ((List Int) × ((List Int) × Unit)))) × ((List (Int × ((List Int) × ((List Int) × Unit)))) × Unit)))) big laws_toModeS_L0 (0, (x.1, (v0, ())))) fun v11 => (match v11 with | Out.norm v12 => none | Out.exit v13 => (match ((match v13 with | Sum.inl v16 => (Sum.inl (v16.2.2.2.1, ())) | Sum.inr v17 => (Empty.elim v17)) : (((List (Int × ((List Int) × ((List Int) × Unit)))) × Unit) ⊕ Empty)) with | Sum.inl v14 => (some (v14.1, ())) | Sum.inr v15 => none) | Out.ret v18 => (some v18))))
def H_laws_toModeS : Hd := ⟨[.sl 228 (.st [.int .i64, .sl 3 (.int .i64), .sl 3 (.int .i64)])], [], none, .p, .sl 37 (.st [.int .i64, .sl 3 (.int .i64), .sl 3 (.int .i64)]), (Ty.all (.sl 37 (.st [.int .i64, .sl 3 (.int .i64), .sl 3 (.int .i64)]))), []⟩
def T_laws_toModeS : FSig := ⟨H_laws_toModeS.ps, H_laws_toModeS.cs, H_laws_toModeS.io, H_laws_toModeS.im, H_laws_toModeS.R, H_laws_toModeS.m, laws_toModeS⟩
theorem E_laws_toModeS : fnOf tys [(213, T_laws_toMode)] Try.f205 H_laws_toModeS = T_laws_toModeS := by kernel_rfl
theorem K_laws_toModeS : SigOk Try.prog 205 T_laws_toModeS := (congrArg (SigOk Try.prog 205) E_laws_toModeS).mp (fnOf_ok rfl tysOk ⟨K_laws_toMode, trivial⟩ Try.func205 (by decide) rfl (fun _ h => by cases h))
def laws_toActivity (x : (((List UInt8) × (Int × ((List (Int × ((List Int) × ((List Int) × Unit)))) × Unit))) × Unit)) (c : Unit) : (Option (((List UInt8) × (Int × ((List (Int × ((List Int) × ((List Int) × Unit)))) × Unit))) × Unit)) :=
  (Option.bind ((Option.bind (laws_toModeS (x.1.2.2.1, ()) ()) fun v0 => (some v0.1)) : (Option (List (Int × ((List Int) × ((List Int) × Unit)))))) fun v1 => (some ((x.1.1, (x.1.2.1, (v1, ()))), ())))
def H_laws_toActivity : Hd := ⟨[.st [.str, .int .i64, .sl 228 (.st [.int .i64, .sl 3 (.int .i64), .sl 3 (.int .i64)])]], [], none, .p, .st [.str, .int .i64, .sl 37 (.st [.int .i64, .sl 3 (.int .i64), .sl 3 (.int .i64)])], (Ty.all (.st [.str, .int .i64, .sl 37 (.st [.int .i64, .sl 3 (.int .i64), .sl 3 (.int .i64)])])), []⟩
def T_laws_toActivity : FSig := ⟨H_laws_toActivity.ps, H_laws_toActivity.cs, H_laws_toActivity.io, H_laws_toActivity.im, H_laws_toActivity.R, H_laws_toActivity.m, laws_toActivity⟩
theorem E_laws_toActivity : fnOf tys [(205, T_laws_toModeS)] Try.f173 H_laws_toActivity = T_laws_toActivity := by kernel_rfl
theorem K_laws_toActivity : SigOk Try.prog 173 T_laws_toActivity := (congrArg (SigOk Try.prog 173) E_laws_toActivity).mp (fnOf_ok rfl tysOk ⟨K_laws_toModeS, trivial⟩ Try.func173 (by decide) rfl (fun _ h => by cases h))
def laws_toActivityS_L0 : (Int × ((List ((List UInt8) × (Int × ((List (Int × ((List Int) × ((List Int) × Unit)))) × Unit)))) × ((List ((List UInt8) × (Int × ((List (Int × ((List Int) × ((List Int) × Unit)))) × Unit)))) × Unit))) → Option (Out (Int × ((List ((List UInt8) × (Int × ((List (Int × ((List Int) × ((List Int) × Unit)))) × Unit)))) × ((List ((List UInt8) × (Int × ((List (Int × ((List Int) × ((List Int) × Unit)))) × Unit)))) × Unit))) ((Bool × (Int × ((List ((List UInt8) × (Int × ((List (Int × ((List Int) × ((List Int) × Unit)))) × Unit)))) × ((List ((List UInt8) × (Int × ((List (Int × ((List Int) × ((List Int) × Unit)))) × Unit)))) × Unit)))) ⊕ Empty) ((List ((List UInt8) × (Int × ((List (Int × ((List Int) × ((List Int) × Unit)))) × Unit)))) × Unit)) :=
  (fun v1 => (if (ltZ v1.1 (lenI v1.2.1)) = true then (Option.bind (getI v1.2.1 v1.1) fun v2 => (Option.bind ((Option.bind (laws_toActivity (v2, ()) ()) fun v3 => (some v3.1)) : (Option ((List UInt8) × (Int × ((List (Int × ((List Int) × ((List Int) × Unit)))) × Unit))))) fun v4 => (Option.bind ((Option.bind (getI v1.2.2.1 v1.1) fun v5 => (some ())) : (Option Unit)) fun v6 => (Option.bind ((Option.bind ((Option.bind (getI v1.2.2.1 v1.1) fun v7 => (some v7)) : (Option ((List UInt8) × (Int × ((List (Int × ((List Int) × ((List Int) × Unit)))) × Unit))))) fun v8 => (some v4)) : (Option ((List UInt8) × (Int × ((List (Int × ((List Int) × ((List Int) × Unit)))) × Unit))))) fun v9 => (some (Out.norm ((addZ .i64 v1.1 1), (v1.2.1, ((setI v1.2.2.1 v1.1 (fun v10 => v9)), ()))))))))) else (some (Out.exit (Sum.inl ((ltZ v1.1 (lenI v1.2.1)), (v1.1, (v1.2.1, (v1.2.2.1, ())))))))))
def laws_toActivityS (x : ((List ((List UInt8) × (Int × ((List (Int × ((List Int) × ((List Int) × Unit)))) × Unit)))) × Unit)) (c : Unit) : (Option ((List ((List UInt8) × (Int × ((List (Int × ((List Int) × ((List Int) × Unit)))) × Unit)))) × Unit)) :=
  (Option.bind ((if (eqZ (lenI x.1) (lenI x.1)) = true then (zerosI (lenI x.1) ([], (0, ([], ())))) else none) : (Option (List ((List UInt8) × (Int × ((List (Int × ((List Int) × ((List Int) × Unit)))) × Unit)))))) fun v0 => (Option.bind (loopN (A := (Int × ((List ((List UInt8) × (Int × ((List (Int × ((List Int) × ((List Int) × Unit)))) × Unit)))) × ((List ((List UInt8) × (Int × ((List (Int × ((List Int) × ((List Int) × Unit)))) × Unit)))) × Unit)))) big laws_toActivityS_L0 (0, (x.1, (v0, ())))) fun v11 => (match v11 with | Out.norm v12 => none | Out.exit v13 => (match ((match v13 with | Sum.inl v16 => (Sum.inl (v16.2.2.2.1, ())) | Sum.inr v17 => (Empty.elim v17)) : (((List ((List UInt8) × (Int × ((List (Int × ((List Int) × ((List Int) × Unit)))) × Unit)))) × Unit) ⊕ Empty)) with | Sum.inl v14 => (some (v14.1, ())) | Sum.inr v15 => none) | Out.ret v18 => (some v18))))
def H_laws_toActivityS : Hd := ⟨[.sl 194 (.st [.str, .int .i64, .sl 228 (.st [.int .i64, .sl 3 (.int .i64), .sl 3 (.int .i64)])])], [], none, .p, .sl 35 (.st [.str, .int .i64, .sl 37 (.st [.int .i64, .sl 3 (.int .i64), .sl 3 (.int .i64)])]), (Ty.all (.sl 35 (.st [.str, .int .i64, .sl 37 (.st [.int .i64, .sl 3 (.int .i64), .sl 3 (.int .i64)])]))), []⟩
def T_laws_toActivityS : FSig := ⟨H_laws_toActivityS.ps, H_laws_toActivityS.cs, H_laws_toActivityS.io, H_laws_toActivityS.im, H_laws_toActivityS.R, H_laws_toActivityS.m, laws_toActivityS⟩
theorem E_laws_toActivityS : fnOf tys [(173, T_laws_toActivity)] Try.f121 H_laws_toActivityS = T_laws_toActivityS := by kernel_rfl
theorem K_laws_toActivityS : SigOk Try.prog 121 T_laws_toActivityS := (congrArg (SigOk Try.prog 121) E_laws_toActivityS).mp (fnOf_ok rfl tysOk ⟨K_laws_toActivity, trivial⟩ Try.func121 (by decide) rfl (fun _ h => by cases h))
def laws_toLink (x : ((Int × (Int × (Bool × (Int × Unit)))) × Unit)) (c : Unit) : (Option ((Int × (Int × (Bool × (Int × Unit)))) × Unit)) :=
  (some ((x.1.1, (x.1.2.1, (x.1.2.2.1, (x.1.2.2.2.1, ())))), ()))
def H_laws_toLink : Hd := ⟨[.st [.int .i64, .int .i64, .bool, .int .i64]], [], none, .p, .st [.int .i64, .int .i64, .bool, .int .i64], .p, []⟩
def T_laws_toLink : FSig := ⟨H_laws_toLink.ps, H_laws_toLink.cs, H_laws_toLink.io, H_laws_toLink.im, H_laws_toLink.R, H_laws_toLink.m, laws_toLink⟩
theorem E_laws_toLink : fnOf tys [] Try.f174 H_laws_toLink = T_laws_toLink := by kernel_rfl
theorem K_laws_toLink : SigOk Try.prog 174 T_laws_toLink := (congrArg (SigOk Try.prog 174) E_laws_toLink).mp (fnOf_ok rfl tysOk trivial Try.func174 (by decide) rfl (fun _ h => by cases h))
def laws_toLinkS_L0 : (Int × ((List (Int × (Int × (Bool × (Int × Unit))))) × ((List (Int × (Int × (Bool × (Int × Unit))))) × Unit))) → Option (Out (Int × ((List (Int × (Int × (Bool × (Int × Unit))))) × ((List (Int × (Int × (Bool × (Int × Unit))))) × Unit))) ((Bool × (Int × ((List (Int × (Int × (Bool × (Int × Unit))))) × ((List (Int × (Int × (Bool × (Int × Unit))))) × Unit)))) ⊕ Empty) ((List (Int × (Int × (Bool × (Int × Unit))))) × Unit)) :=
  (fun v1 => (if (ltZ v1.1 (lenI v1.2.1)) = true then (Option.bind (getI v1.2.1 v1.1) fun v2 => (Option.bind ((Option.bind (laws_toLink (v2, ()) ()) fun v3 => (some v3.1)) : (Option (Int × (Int × (Bool × (Int × Unit)))))) fun v4 => (Option.bind ((Option.bind (getI v1.2.2.1 v1.1) fun v5 => (some ())) : (Option Unit)) fun v6 => (Option.bind ((Option.bind ((Option.bind (getI v1.2.2.1 v1.1) fun v7 => (some v7)) : (Option (Int × (Int × (Bool × (Int × Unit)))))) fun v8 => (some v4)) : (Option (Int × (Int × (Bool × (Int × Unit)))))) fun v9 => (some (Out.norm ((addZ .i64 v1.1 1), (v1.2.1, ((setI v1.2.2.1 v1.1 (fun v10 => v9)), ()))))))))) else (some (Out.exit (Sum.inl ((ltZ v1.1 (lenI v1.2.1)), (v1.1, (v1.2.1, (v1.2.2.1, ())))))))))
def laws_toLinkS (x : ((List (Int × (Int × (Bool × (Int × Unit))))) × Unit)) (c : Unit) : (Option ((List (Int × (Int × (Bool × (Int × Unit))))) × Unit)) :=
  (Option.bind ((if (eqZ (lenI x.1) (lenI x.1)) = true then (zerosI (lenI x.1) (0, (0, (false, (0, ()))))) else none) : (Option (List (Int × (Int × (Bool × (Int × Unit))))))) fun v0 => (Option.bind (loopN (A := (Int × ((List (Int × (Int × (Bool × (Int × Unit))))) × ((List (Int × (Int × (Bool × (Int × Unit))))) × Unit)))) big laws_toLinkS_L0 (0, (x.1, (v0, ())))) fun v11 => (match v11 with | Out.norm v12 => none | Out.exit v13 => (match ((match v13 with | Sum.inl v16 => (Sum.inl (v16.2.2.2.1, ())) | Sum.inr v17 => (Empty.elim v17)) : (((List (Int × (Int × (Bool × (Int × Unit))))) × Unit) ⊕ Empty)) with | Sum.inl v14 => (some (v14.1, ())) | Sum.inr v15 => none) | Out.ret v18 => (some v18))))
def H_laws_toLinkS : Hd := ⟨[.sl 201 (.st [.int .i64, .int .i64, .bool, .int .i64])], [], none, .p, .sl 115 (.st [.int .i64, .int .i64, .bool, .int .i64]), (Ty.all (.sl 115 (.st [.int .i64, .int .i64, .bool, .int .i64]))), []⟩
def T_laws_toLinkS : FSig := ⟨H_laws_toLinkS.ps, H_laws_toLinkS.cs, H_laws_toLinkS.io, H_laws_toLinkS.im, H_laws_toLinkS.R, H_laws_toLinkS.m, laws_toLinkS⟩
theorem E_laws_toLinkS : fnOf tys [(174, T_laws_toLink)] Try.f122 H_laws_toLinkS = T_laws_toLinkS := by kernel_rfl
theorem K_laws_toLinkS : SigOk Try.prog 122 T_laws_toLinkS := (congrArg (SigOk Try.prog 122) E_laws_toLinkS).mp (fnOf_ok rfl tysOk ⟨K_laws_toLink, trivial⟩ Try.func122 (by decide) rfl (fun _ h => by cases h))
def laws_toStep (x : ((Int × (Int × Unit)) × Unit)) (c : Unit) : (Option ((Int × (Int × Unit)) × Unit)) :=
  (some ((x.1.1, (x.1.2.1, ())), ()))
def H_laws_toStep : Hd := ⟨[.st [.int .i64, .int .i64]], [], none, .p, .st [.int .i64, .int .i64], .p, []⟩
def T_laws_toStep : FSig := ⟨H_laws_toStep.ps, H_laws_toStep.cs, H_laws_toStep.io, H_laws_toStep.im, H_laws_toStep.R, H_laws_toStep.m, laws_toStep⟩
theorem E_laws_toStep : fnOf tys [] Try.f214 H_laws_toStep = T_laws_toStep := by kernel_rfl
theorem K_laws_toStep : SigOk Try.prog 214 T_laws_toStep := (congrArg (SigOk Try.prog 214) E_laws_toStep).mp (fnOf_ok rfl tysOk trivial Try.func214 (by decide) rfl (fun _ h => by cases h))
def laws_toStepS_L0 : (Int × ((List (Int × (Int × Unit))) × ((List (Int × (Int × Unit))) × Unit))) → Option (Out (Int × ((List (Int × (Int × Unit))) × ((List (Int × (Int × Unit))) × Unit))) ((Bool × (Int × ((List (Int × (Int × Unit))) × ((List (Int × (Int × Unit))) × Unit)))) ⊕ Empty) ((List (Int × (Int × Unit))) × Unit)) :=
  (fun v1 => (if (ltZ v1.1 (lenI v1.2.1)) = true then (Option.bind (getI v1.2.1 v1.1) fun v2 => (Option.bind ((Option.bind (laws_toStep (v2, ()) ()) fun v3 => (some v3.1)) : (Option (Int × (Int × Unit)))) fun v4 => (Option.bind ((Option.bind (getI v1.2.2.1 v1.1) fun v5 => (some ())) : (Option Unit)) fun v6 => (Option.bind ((Option.bind ((Option.bind (getI v1.2.2.1 v1.1) fun v7 => (some v7)) : (Option (Int × (Int × Unit)))) fun v8 => (some v4)) : (Option (Int × (Int × Unit)))) fun v9 => (some (Out.norm ((addZ .i64 v1.1 1), (v1.2.1, ((setI v1.2.2.1 v1.1 (fun v10 => v9)), ()))))))))) else (some (Out.exit (Sum.inl ((ltZ v1.1 (lenI v1.2.1)), (v1.1, (v1.2.1, (v1.2.2.1, ())))))))))
def laws_toStepS (x : ((List (Int × (Int × Unit))) × Unit)) (c : Unit) : (Option ((List (Int × (Int × Unit))) × Unit)) :=
  (Option.bind ((if (eqZ (lenI x.1) (lenI x.1)) = true then (zerosI (lenI x.1) (0, (0, ()))) else none) : (Option (List (Int × (Int × Unit))))) fun v0 => (Option.bind (loopN (A := (Int × ((List (Int × (Int × Unit))) × ((List (Int × (Int × Unit))) × Unit)))) big laws_toStepS_L0 (0, (x.1, (v0, ())))) fun v11 => (match v11 with | Out.norm v12 => none | Out.exit v13 => (match ((match v13 with | Sum.inl v16 => (Sum.inl (v16.2.2.2.1, ())) | Sum.inr v17 => (Empty.elim v17)) : (((List (Int × (Int × Unit))) × Unit) ⊕ Empty)) with | Sum.inl v14 => (some (v14.1, ())) | Sum.inr v15 => none) | Out.ret v18 => (some v18))))
def H_laws_toStepS : Hd := ⟨[.sl 231 (.st [.int .i64, .int .i64])], [], none, .p, .sl 176 (.st [.int .i64, .int .i64]), (Ty.all (.sl 176 (.st [.int .i64, .int .i64]))), []⟩
def T_laws_toStepS : FSig := ⟨H_laws_toStepS.ps, H_laws_toStepS.cs, H_laws_toStepS.io, H_laws_toStepS.im, H_laws_toStepS.R, H_laws_toStepS.m, laws_toStepS⟩
theorem E_laws_toStepS : fnOf tys [(214, T_laws_toStep)] Try.f206 H_laws_toStepS = T_laws_toStepS := by kernel_rfl
theorem K_laws_toStepS : SigOk Try.prog 206 T_laws_toStepS := (congrArg (SigOk Try.prog 206) E_laws_toStepS).mp (fnOf_ok rfl tysOk ⟨K_laws_toStep, trivial⟩ Try.func206 (by decide) rfl (fun _ h => by cases h))
def laws_toResource (x : (((List (Int × (Int × Unit))) × ((List (List Int)) × Unit)) × Unit)) (c : Unit) : (Option (((List (Int × (Int × Unit))) × ((List (List Int)) × Unit)) × Unit)) :=
  (Option.bind ((Option.bind (laws_toStepS (x.1.1, ()) ()) fun v0 => (some v0.1)) : (Option (List (Int × (Int × Unit))))) fun v1 => (Option.bind ((Option.bind (laws_toIntSS (x.1.2.1, ()) ()) fun v2 => (some v2.1)) : (Option (List (List Int)))) fun v3 => (some ((v1, (v3, ())), ()))))
def H_laws_toResource : Hd := ⟨[.st [.sl 231 (.st [.int .i64, .int .i64]), .sl 26 (.sl 3 (.int .i64))]], [], none, .p, .st [.sl 176 (.st [.int .i64, .int .i64]), .sl 26 (.sl 3 (.int .i64))], (Ty.all (.st [.sl 176 (.st [.int .i64, .int .i64]), .sl 26 (.sl 3 (.int .i64))])), []⟩
def T_laws_toResource : FSig := ⟨H_laws_toResource.ps, H_laws_toResource.cs, H_laws_toResource.io, H_laws_toResource.im, H_laws_toResource.R, H_laws_toResource.m, laws_toResource⟩
theorem E_laws_toResource : fnOf tys [(90, T_laws_toIntSS), (206, T_laws_toStepS)] Try.f175 H_laws_toResource = T_laws_toResource := by kernel_rfl
theorem K_laws_toResource : SigOk Try.prog 175 T_laws_toResource := (congrArg (SigOk Try.prog 175) E_laws_toResource).mp (fnOf_ok rfl tysOk ⟨K_laws_toIntSS, K_laws_toStepS, trivial⟩ Try.func175 (by decide) rfl (fun _ h => by cases h))
def laws_toResourceS_L0 : (Int × ((List ((List (Int × (Int × Unit))) × ((List (List Int)) × Unit))) × ((List ((List (Int × (Int × Unit))) × ((List (List Int)) × Unit))) × Unit))) → Option (Out (Int × ((List ((List (Int × (Int × Unit))) × ((List (List Int)) × Unit))) × ((List ((List (Int × (Int × Unit))) × ((List (List Int)) × Unit))) × Unit))) ((Bool × (Int × ((List ((List (Int × (Int × Unit))) × ((List (List Int)) × Unit))) × ((List ((List (Int × (Int × Unit))) × ((List (List Int)) × Unit))) × Unit)))) ⊕ Empty) ((List ((List (Int × (Int × Unit))) × ((List (List Int)) × Unit))) × Unit)) :=
  (fun v1 => (if (ltZ v1.1 (lenI v1.2.1)) = true then (Option.bind (getI v1.2.1 v1.1) fun v2 => (Option.bind ((Option.bind (laws_toResource (v2, ()) ()) fun v3 => (some v3.1)) : (Option ((List (Int × (Int × Unit))) × ((List (List Int)) × Unit)))) fun v4 => (Option.bind ((Option.bind (getI v1.2.2.1 v1.1) fun v5 => (some ())) : (Option Unit)) fun v6 => (Option.bind ((Option.bind ((Option.bind (getI v1.2.2.1 v1.1) fun v7 => (some v7)) : (Option ((List (Int × (Int × Unit))) × ((List (List Int)) × Unit)))) fun v8 => (some v4)) : (Option ((List (Int × (Int × Unit))) × ((List (List Int)) × Unit)))) fun v9 => (some (Out.norm ((addZ .i64 v1.1 1), (v1.2.1, ((setI v1.2.2.1 v1.1 (fun v10 => v9)), ()))))))))) else (some (Out.exit (Sum.inl ((ltZ v1.1 (lenI v1.2.1)), (v1.1, (v1.2.1, (v1.2.2.1, ())))))))))
def laws_toResourceS (x : ((List ((List (Int × (Int × Unit))) × ((List (List Int)) × Unit))) × Unit)) (c : Unit) : (Option ((List ((List (Int × (Int × Unit))) × ((List (List Int)) × Unit))) × Unit)) :=
  (Option.bind ((if (eqZ (lenI x.1) (lenI x.1)) = true then (zerosI (lenI x.1) ([], ([], ()))) else none) : (Option (List ((List (Int × (Int × Unit))) × ((List (List Int)) × Unit))))) fun v0 => (Option.bind (loopN (A := (Int × ((List ((List (Int × (Int × Unit))) × ((List (List Int)) × Unit))) × ((List ((List (Int × (Int × Unit))) × ((List (List Int)) × Unit))) × Unit)))) big laws_toResourceS_L0 (0, (x.1, (v0, ())))) fun v11 => (match v11 with | Out.norm v12 => none | Out.exit v13 => (match ((match v13 with | Sum.inl v16 => (Sum.inl (v16.2.2.2.1, ())) | Sum.inr v17 => (Empty.elim v17)) : (((List ((List (Int × (Int × Unit))) × ((List (List Int)) × Unit))) × Unit) ⊕ Empty)) with | Sum.inl v14 => (some (v14.1, ())) | Sum.inr v15 => none) | Out.ret v18 => (some v18))))
def H_laws_toResourceS : Hd := ⟨[.sl 198 (.st [.sl 231 (.st [.int .i64, .int .i64]), .sl 26 (.sl 3 (.int .i64))])], [], none, .p, .sl 44 (.st [.sl 176 (.st [.int .i64, .int .i64]), .sl 26 (.sl 3 (.int .i64))]), (Ty.all (.sl 44 (.st [.sl 176 (.st [.int .i64, .int .i64]), .sl 26 (.sl 3 (.int .i64))]))), []⟩
def T_laws_toResourceS : FSig := ⟨H_laws_toResourceS.ps, H_laws_toResourceS.cs, H_laws_toResourceS.io, H_laws_toResourceS.im, H_laws_toResourceS.R, H_laws_toResourceS.m, laws_toResourceS⟩
theorem E_laws_toResourceS : fnOf tys [(175, T_laws_toResource)] Try.f123 H_laws_toResourceS = T_laws_toResourceS := by kernel_rfl
theorem K_laws_toResourceS : SigOk Try.prog 123 T_laws_toResourceS := (congrArg (SigOk Try.prog 123) E_laws_toResourceS).mp (fnOf_ok rfl tysOk ⟨K_laws_toResource, trivial⟩ Try.func123 (by decide) rfl (fun _ h => by cases h))
def laws_toProject (x : ((Int × ((List ((List UInt8) × (Int × ((List (Int × ((List Int) × ((List Int) × Unit)))) × Unit)))) × ((List (Int × (Int × (Bool × (Int × Unit))))) × ((List ((List (Int × (Int × Unit))) × ((List (List Int)) × Unit))) × ((List Int) × Unit))))) × Unit)) (c : Unit) : (Option ((Int × ((List ((List UInt8) × (Int × ((List (Int × ((List Int) × ((List Int) × Unit)))) × Unit)))) × ((List (Int × (Int × (Bool × (Int × Unit))))) × ((List ((List (Int × (Int × Unit))) × ((List (List Int)) × Unit))) × ((List Int) × Unit))))) × Unit)) :=
  (Option.bind ((Option.bind (laws_toActivityS (x.1.2.1, ()) ()) fun v0 => (some v0.1)) : (Option (List ((List UInt8) × (Int × ((List (Int × ((List Int) × ((List Int) × Unit)))) × Unit)))))) fun v1 => (Option.bind ((Option.bind (laws_toLinkS (x.1.2.2.1, ()) ()) fun v2 => (some v2.1)) : (Option (List (Int × (Int × (Bool × (Int × Unit))))))) fun v3 => (Option.bind ((Option.bind (laws_toResourceS (x.1.2.2.2.1, ()) ()) fun v4 => (some v4.1)) : (Option (List ((List (Int × (Int × Unit))) × ((List (List Int)) × Unit))))) fun v5 => (Option.bind ((Option.bind (laws_toIntS (x.1.2.2.2.2.1, ()) ()) fun v6 => (some v6.1)) : (Option (List Int))) fun v7 => (some ((x.1.1, (v1, (v3, (v5, (v7, ()))))), ()))))))
def H_laws_toProject : Hd := ⟨[.st [.int .i64, .sl 194 (.st [.str, .int .i64, .sl 228 (.st [.int .i64, .sl 3 (.int .i64), .sl 3 (.int .i64)])]), .sl 201 (.st [.int .i64, .int .i64, .bool, .int .i64]), .sl 198 (.st [.sl 231 (.st [.int .i64, .int .i64]), .sl 26 (.sl 3 (.int .i64))]), .sl 3 (.int .i64)]], [], none, .p, .st [.int .i64, .sl 35 (.st [.str, .int .i64, .sl 37 (.st [.int .i64, .sl 3 (.int .i64), .sl 3 (.int .i64)])]), .sl 115 (.st [.int .i64, .int .i64, .bool, .int .i64]), .sl 44 (.st [.sl 176 (.st [.int .i64, .int .i64]), .sl 26 (.sl 3 (.int .i64))]), .sl 3 (.int .i64)], (Ty.all (.st [.int .i64, .sl 35 (.st [.str, .int .i64, .sl 37 (.st [.int .i64, .sl 3 (.int .i64), .sl 3 (.int .i64)])]), .sl 115 (.st [.int .i64, .int .i64, .bool, .int .i64]), .sl 44 (.st [.sl 176 (.st [.int .i64, .int .i64]), .sl 26 (.sl 3 (.int .i64))]), .sl 3 (.int .i64)])), []⟩
def T_laws_toProject : FSig := ⟨H_laws_toProject.ps, H_laws_toProject.cs, H_laws_toProject.io, H_laws_toProject.im, H_laws_toProject.R, H_laws_toProject.m, laws_toProject⟩
theorem E_laws_toProject : fnOf tys [(89, T_laws_toIntS), (121, T_laws_toActivityS), (122, T_laws_toLinkS), (123, T_laws_toResourceS)] Try.f47 H_laws_toProject = T_laws_toProject := by kernel_rfl
theorem K_laws_toProject : SigOk Try.prog 47 T_laws_toProject := (congrArg (SigOk Try.prog 47) E_laws_toProject).mp (fnOf_ok rfl tysOk ⟨K_laws_toIntS, K_laws_toActivityS, K_laws_toLinkS, K_laws_toResourceS, trivial⟩ Try.func47 (by decide) rfl (fun _ h => by cases h))
def laws_toDelay (x : ((Int × (Int × (Int × (Int × Unit)))) × Unit)) (c : Unit) : (Option ((Int × (Int × (Int × (Int × Unit)))) × Unit)) :=
  (some ((x.1.1, (x.1.2.1, (x.1.2.2.1, (x.1.2.2.2.1, ())))), ()))
def H_laws_toDelay : Hd := ⟨[.st [.int .i64, .int .i64, .int .i64, .int .i64]], [], none, .p, .st [.int .i64, .int .i64, .int .i64, .int .i64], .p, []⟩
def T_laws_toDelay : FSig := ⟨H_laws_toDelay.ps, H_laws_toDelay.cs, H_laws_toDelay.io, H_laws_toDelay.im, H_laws_toDelay.R, H_laws_toDelay.m, laws_toDelay⟩
theorem E_laws_toDelay : fnOf tys [] Try.f48 H_laws_toDelay = T_laws_toDelay := by kernel_rfl
theorem K_laws_toDelay : SigOk Try.prog 48 T_laws_toDelay := (congrArg (SigOk Try.prog 48) E_laws_toDelay).mp (fnOf_ok rfl tysOk trivial Try.func48 (by decide) rfl (fun _ h => by cases h))
def impl_DelayOk (x : ((Int × ((List ((List UInt8) × (Int × ((List (Int × ((List Int) × ((List Int) × Unit)))) × Unit)))) × ((List (Int × (Int × (Bool × (Int × Unit))))) × ((List ((List (Int × (Int × Unit))) × ((List (List Int)) × Unit))) × ((List Int) × Unit))))) × ((Int × (Int × (Int × (Int × Unit)))) × Unit))) (c : Unit) : (Option (Bool × Unit)) :=
  (Option.bind ((Option.bind (impl_ProjectOk (x.1, ()) ()) fun v0 => (some v0.1)) : (Option Bool)) fun v1 => (Option.bind ((if (notB v1) = true then (some (true, (x.1, (x.2.1, ())))) else (Option.bind ((Option.bind (impl_isTime (x.2.1.2.2.2.1, ()) ()) fun v2 => (some v2.1)) : (Option Bool)) fun v3 => (some ((notB v3), (x.1, (x.2.1, ())))))) : (Option (Bool × ((Int × ((List ((List UInt8) × (Int × ((List (Int × ((List Int) × ((List Int) × Unit)))) × Unit)))) × ((List (Int × (Int × (Bool × (Int × Unit))))) × ((List ((List (Int × (Int × Unit))) × ((List (List Int)) × Unit))) × ((List Int) × Unit))))) × ((Int × (Int × (Int × (Int × Unit)))) × Unit))))) fun v4 => (if v4.1 = true then (some (false, ())) else (if (eqZ v4.2.2.1.1 1) = true then (Option.bind ((Option.bind (impl_Project_hasActivity (v4.2.1, (v4.2.2.1.2.1, ())) ()) fun v5 => (some v5.1)) : (Option Bool)) fun v6 => (Option.bind ((if v6 = true then (Option.bind ((Option.bind (impl_isTime (v4.2.2.1.2.2.1, ()) ()) fun v7 => (some v7.1)) : (Option Bool)) fun v8 => (some (v8, ()))) else (some (false, ()))) : (Option (Bool × Unit))) fun v9 => (some (v9.1, ())))) else (if (eqZ v4.2.2.1.1 2) = true then (Option.bind ((Option.bind (impl_Project_hasActivity (v4.2.1, (v4.2.2.1.2.1, ())) ()) fun v10 => (some v10.1)) : (Option Bool)) fun v11 => (Option.bind ((if v11 = true then (Option.bind ((Option.bind (impl_within (v4.2.2.1.2.2.1, (1, (12, ()))) ()) fun v12 => (some v12.1)) : (Option Bool)) fun v13 => (some (v13, ()))) else (some (false, ()))) : (Option (Bool × Unit))) fun v14 => (some (v14.1, ())))) else (if (eqZ v4.2.2.1.1 3) = true then (Option.bind ((Option.bind (impl_Project_hasResource (v4.2.1, (v4.2.2.1.2.1, ())) ()) fun v15 => (some v15.1)) : (Option Bool)) fun v16 => (Option.bind ((if v16 = true then (Option.bind ((Option.bind (impl_within (v4.2.2.1.2.2.1, (1, (20, ()))) ()) fun v17 => (some v17.1)) : (Option Bool)) fun v18 => (some (v18, ()))) else (some (false, ()))) : (Option (Bool × Unit))) fun v19 => (some (v19.1, ())))) else (some (false, ()))))))))
def H_impl_DelayOk : Hd := ⟨[.st [.int .i64, .sl 35 (.st [.str, .int .i64, .sl 37 (.st [.int .i64, .sl 3 (.int .i64), .sl 3 (.int .i64)])]), .sl 115 (.st [.int .i64, .int .i64, .bool, .int .i64]), .sl 44 (.st [.sl 176 (.st [.int .i64, .int .i64]), .sl 26 (.sl 3 (.int .i64))]), .sl 3 (.int .i64)], .st [.int .i64, .int .i64, .int .i64, .int .i64]], [], none, .p, .bool, .p, []⟩
def T_impl_DelayOk : FSig := ⟨H_impl_DelayOk.ps, H_impl_DelayOk.cs, H_impl_DelayOk.io, H_impl_DelayOk.im, H_impl_DelayOk.R, H_impl_DelayOk.m, impl_DelayOk⟩
theorem E_impl_DelayOk : fnOf tys [(58, T_impl_ProjectOk), (59, T_impl_Project_hasResource), (69, T_impl_within), (104, T_impl_Project_hasActivity), (108, T_impl_isTime)] Try.f49 H_impl_DelayOk = T_impl_DelayOk := by kernel_rfl
theorem K_impl_DelayOk : SigOk Try.prog 49 T_impl_DelayOk := (congrArg (SigOk Try.prog 49) E_impl_DelayOk).mp (fnOf_ok rfl tysOk ⟨K_impl_ProjectOk, K_impl_Project_hasResource, K_impl_within, K_impl_Project_hasActivity, K_impl_isTime, trivial⟩ Try.func49 (by decide) rfl (fun _ h => by cases h))
def laws_FnExactDelayOk (x : ((Int × ((List ((List UInt8) × (Int × ((List (Int × ((List Int) × ((List Int) × Unit)))) × Unit)))) × ((List (Int × (Int × (Bool × (Int × Unit))))) × ((List ((List (Int × (Int × Unit))) × ((List (List Int)) × Unit))) × ((List Int) × Unit))))) × ((Int × (Int × (Int × (Int × Unit)))) × Unit))) (c : Unit) : (Option (Bool × Unit)) :=
  (Option.bind ((Option.bind (laws_szProject (x.1, (1048576, ())) ()) fun v0 => (some v0.1)) : (Option Int)) fun v1 => (if (ltZ v1 0) = true then (some (true, ())) else (Option.bind ((Option.bind (laws_toProject (x.1, ()) ()) fun v2 => (some v2.1)) : (Option (Int × ((List ((List UInt8) × (Int × ((List (Int × ((List Int) × ((List Int) × Unit)))) × Unit)))) × ((List (Int × (Int × (Bool × (Int × Unit))))) × ((List ((List (Int × (Int × Unit))) × ((List (List Int)) × Unit))) × ((List Int) × Unit))))))) fun v3 => (Option.bind ((Option.bind (laws_toDelay (x.2.1, ()) ()) fun v4 => (some v4.1)) : (Option (Int × (Int × (Int × (Int × Unit)))))) fun v5 => (Option.bind ((Option.bind (spec_DelayOk (v3, (v5, ())) ()) fun v6 => (some v6.1)) : (Option Bool)) fun v7 => (Option.bind ((Option.bind (laws_toProject (x.1, ()) ()) fun v8 => (some v8.1)) : (Option (Int × ((List ((List UInt8) × (Int × ((List (Int × ((List Int) × ((List Int) × Unit)))) × Unit)))) × ((List (Int × (Int × (Bool × (Int × Unit))))) × ((List ((List (Int × (Int × Unit))) × ((List (List Int)) × Unit))) × ((List Int) × Unit))))))) fun v9 => (Option.bind ((Option.bind (laws_toDelay (x.2.1, ()) ()) fun v10 => (some v10.1)) : (Option (Int × (Int × (Int × (Int × Unit)))))) fun v11 => (Option.bind ((Option.bind (impl_DelayOk (v9, (v11, ())) ()) fun v12 => (some v12.1)) : (Option Bool)) fun v13 => (if (notB (eqB v13 v7)) = true then (some (false, ())) else (Option.bind ((Option.bind (laws_toProject (x.1, ()) ()) fun v14 => (some v14.1)) : (Option (Int × ((List ((List UInt8) × (Int × ((List (Int × ((List Int) × ((List Int) × Unit)))) × Unit)))) × ((List (Int × (Int × (Bool × (Int × Unit))))) × ((List ((List (Int × (Int × Unit))) × ((List (List Int)) × Unit))) × ((List Int) × Unit))))))) fun v15 => (Option.bind ((Option.bind (laws_eqProject (v9, (v15, ())) ()) fun v16 => (some v16.1)) : (Option Bool)) fun v17 => (if (notB v17) = true then (some (false, ())) else (some (true, ()))))))))))))))
def H_laws_FnExactDelayOk : Hd := ⟨[.st [.int .i64, .sl 194 (.st [.str, .int .i64, .sl 228 (.st [.int .i64, .sl 3 (.int .i64), .sl 3 (.int .i64)])]), .sl 201 (.st [.int .i64, .int .i64, .bool, .int .i64]), .sl 198 (.st [.sl 231 (.st [.int .i64, .int .i64]), .sl 26 (.sl 3 (.int .i64))]), .sl 3 (.int .i64)], .st [.int .i64, .int .i64, .int .i64, .int .i64]], [], none, .p, .bool, .p, []⟩
def T_laws_FnExactDelayOk : FSig := ⟨H_laws_FnExactDelayOk.ps, H_laws_FnExactDelayOk.cs, H_laws_FnExactDelayOk.io, H_laws_FnExactDelayOk.im, H_laws_FnExactDelayOk.R, H_laws_FnExactDelayOk.m, laws_FnExactDelayOk⟩
theorem E_laws_FnExactDelayOk : fnOf tys [(45, T_laws_szProject), (46, T_spec_DelayOk), (47, T_laws_toProject), (48, T_laws_toDelay), (49, T_impl_DelayOk), (50, T_laws_eqProject)] Try.f8 H_laws_FnExactDelayOk = T_laws_FnExactDelayOk := by kernel_rfl
theorem K_laws_FnExactDelayOk : SigOk Try.prog 8 T_laws_FnExactDelayOk := (congrArg (SigOk Try.prog 8) E_laws_FnExactDelayOk).mp (fnOf_ok rfl tysOk ⟨K_laws_szProject, K_spec_DelayOk, K_laws_toProject, K_laws_toDelay, K_impl_DelayOk, K_laws_eqProject, trivial⟩ Try.func8 (by decide) rfl (fun _ h => by cases h))
end Go.Proofs.Ytemeabdacejkpaa
