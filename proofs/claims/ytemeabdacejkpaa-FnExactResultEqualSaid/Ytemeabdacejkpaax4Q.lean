/-
  The functions of this seat as plain Lean functions, and that the program computes them. No condition.
-/
import Derived.Test.YtemeabdacejkpaaN32
import Derived.Test.YtemeabdacejkpaaProg
import Derived.KernelRfl
namespace Go.Proofs.Ytemeabdacejkpaa
open Go.Abs
set_option linter.unusedVariables false
set_option maxRecDepth 100000
theorem tn3 : TnOk Try.prog 3 (.int .i64) := ⟨Try.underlying3, fun _ h => (by cases h), Try.t3, rfl, rfl, fun _ _ => rfl⟩
theorem tn4 : TnOk Try.prog 4 (.bool) := ⟨Try.underlying4, fun _ h => (by cases h), Try.t4, rfl, rfl, fun _ _ => rfl⟩
theorem tn26 : TnOk Try.prog 26 (.sl 3 (.int .i64)) := ⟨⟨Try.underlying26, Try.t3, _, rfl, rfl, rfl, rfl, by decide, by decide, fun _ _ => rfl, fun k h => by cases h; exact Try.underlying3⟩, fun _ h => (by cases h), Try.t26, rfl, rfl, fun _ _ => rfl⟩
theorem tn48 : TnOk Try.prog 48 (.st [.sl 3 (.int .i64), .sl 3 (.int .i64)]) := ⟨⟨_, Try.underlying48, Try.eqGuardType48, Try.stoodInHeld48, rfl, fun j τ h => by
    cases j with
    | zero => cases h; exact ⟨_, _, rfl, rfl, by decide, by decide, Try.underlying26, rfl, fun us h => by cases h⟩
    | succ j =>
     cases j with
     | zero => cases h; exact ⟨_, _, rfl, rfl, by decide, by decide, Try.underlying26, rfl, fun us h => by cases h⟩
     | succ j =>
      cases h⟩, (fun us hus fs hfs j τ h f hf => by
    cases hus
    rw [Try.underlying48] at hfs
    cases hfs
    cases j with
    | zero => cases h; cases hf; exact ⟨fun k e => (by cases e), fun e => (by cases e), fun e => (by cases e)⟩
    | succ j =>
     cases j with
     | zero => cases h; cases hf; exact ⟨fun k e => (by cases e), fun e => (by cases e), fun e => (by cases e)⟩
     | succ j =>
      cases h), Try.t48, rfl, rfl, fun _ _ => rfl⟩
theorem tn49 : TnOk Try.prog 49 (.st [.sl 3 (.int .i64), .sl 3 (.int .i64)]) := ⟨⟨_, Try.underlying49, Try.eqGuardType49, Try.stoodInHeld49, rfl, fun j τ h => by
    cases j with
    | zero => cases h; exact ⟨_, _, rfl, rfl, by decide, by decide, Try.underlying26, rfl, fun us h => by cases h⟩
    | succ j =>
     cases j with
     | zero => cases h; exact ⟨_, _, rfl, rfl, by decide, by decide, Try.underlying26, rfl, fun us h => by cases h⟩
     | succ j =>
      cases h⟩, (fun us hus fs hfs j τ h f hf => by
    cases hus
    rw [Try.underlying49] at hfs
    cases hfs
    cases j with
    | zero => cases h; cases hf; exact ⟨fun k e => (by cases e), fun e => (by cases e), fun e => (by cases e)⟩
    | succ j =>
     cases j with
     | zero => cases h; cases hf; exact ⟨fun k e => (by cases e), fun e => (by cases e), fun e => (by cases e)⟩
     | succ j =>
      cases h), Try.t49, rfl, rfl, fun _ _ => rfl⟩
theorem tn50 : TnOk Try.prog 50 (.sl 183 (.st [.int .i64, .st [.int .i64, .int .i64, .int .i64, .int .i64], .sl 64 (.st [.int .i64, .int .i64, .int .i64])])) := ⟨⟨Try.underlying50, Try.t183, _, rfl, rfl, rfl, rfl, by decide, by decide, fun _ _ => rfl, fun k h => by cases h⟩, fun _ h => (by cases h), Try.t50, rfl, rfl, fun _ _ => rfl⟩
theorem tn51 : TnOk Try.prog 51 (.st [.int .i64, .st [.sl 3 (.int .i64), .sl 3 (.int .i64)], .int .i64, .int .i64, .sl 183 (.st [.int .i64, .st [.int .i64, .int .i64, .int .i64, .int .i64], .sl 64 (.st [.int .i64, .int .i64, .int .i64])]), .int .i64]) := ⟨⟨_, Try.underlying51, Try.eqGuardType51, Try.stoodInHeld51, rfl, fun j τ h => by
    cases j with
    | zero => cases h; exact ⟨_, _, rfl, rfl, by decide, by decide, Try.underlying3, rfl, fun us h => by cases h⟩
    | succ j =>
     cases j with
     | zero => cases h; exact ⟨_, _, rfl, rfl, by decide, by decide, Try.underlying49, rfl, ⟨_, rfl⟩⟩
     | succ j =>
      cases j with
      | zero => cases h; exact ⟨_, _, rfl, rfl, by decide, by decide, Try.underlying3, rfl, fun us h => by cases h⟩
      | succ j =>
       cases j with
       | zero => cases h; exact ⟨_, _, rfl, rfl, by decide, by decide, Try.underlying3, rfl, fun us h => by cases h⟩
       | succ j =>
        cases j with
        | zero => cases h; exact ⟨_, _, rfl, rfl, by decide, by decide, Try.underlying50, rfl, fun us h => by cases h⟩
        | succ j =>
         cases j with
         | zero => cases h; exact ⟨_, _, rfl, rfl, by decide, by decide, Try.underlying3, rfl, fun us h => by cases h⟩
         | succ j =>
          cases h⟩, (fun us hus fs hfs j τ h f hf => by
    cases hus
    rw [Try.underlying51] at hfs
    cases hfs
    cases j with
    | zero => cases h; cases hf; exact ⟨fun k e => by cases e; exact Try.underlying3, fun e => (by cases e), fun e => (by cases e)⟩
    | succ j =>
     cases j with
     | zero => cases h; cases hf; exact ⟨fun k e => (by cases e), fun e => (by cases e), fun e => (by cases e)⟩
     | succ j =>
      cases j with
      | zero => cases h; cases hf; exact ⟨fun k e => by cases e; exact Try.underlying3, fun e => (by cases e), fun e => (by cases e)⟩
      | succ j =>
       cases j with
       | zero => cases h; cases hf; exact ⟨fun k e => by cases e; exact Try.underlying3, fun e => (by cases e), fun e => (by cases e)⟩
       | succ j =>
        cases j with
        | zero => cases h; cases hf; exact ⟨fun k e => (by cases e), fun e => (by cases e), fun e => (by cases e)⟩
        | succ j =>
         cases j with
         | zero => cases h; cases hf; exact ⟨fun k e => by cases e; exact Try.underlying3, fun e => (by cases e), fun e => (by cases e)⟩
         | succ j =>
          cases h), Try.t51, rfl, rfl, fun _ _ => rfl⟩
theorem tn52 : TnOk Try.prog 52 (.st [.int .i64, .st [.sl 3 (.int .i64), .sl 3 (.int .i64)], .int .i64, .int .i64, .sl 183 (.st [.int .i64, .st [.int .i64, .int .i64, .int .i64, .int .i64], .sl 64 (.st [.int .i64, .int .i64, .int .i64])]), .int .i64]) := ⟨⟨_, Try.underlying52, Try.eqGuardType52, Try.stoodInHeld52, rfl, fun j τ h => by
    cases j with
    | zero => cases h; exact ⟨_, _, rfl, rfl, by decide, by decide, Try.underlying3, rfl, fun us h => by cases h⟩
    | succ j =>
     cases j with
     | zero => cases h; exact ⟨_, _, rfl, rfl, by decide, by decide, Try.underlying49, rfl, ⟨_, rfl⟩⟩
     | succ j =>
      cases j with
      | zero => cases h; exact ⟨_, _, rfl, rfl, by decide, by decide, Try.underlying3, rfl, fun us h => by cases h⟩
      | succ j =>
       cases j with
       | zero => cases h; exact ⟨_, _, rfl, rfl, by decide, by decide, Try.underlying3, rfl, fun us h => by cases h⟩
       | succ j =>
        cases j with
        | zero => cases h; exact ⟨_, _, rfl, rfl, by decide, by decide, Try.underlying50, rfl, fun us h => by cases h⟩
        | succ j =>
         cases j with
         | zero => cases h; exact ⟨_, _, rfl, rfl, by decide, by decide, Try.underlying3, rfl, fun us h => by cases h⟩
         | succ j =>
          cases h⟩, (fun us hus fs hfs j τ h f hf => by
    cases hus
    rw [Try.underlying52] at hfs
    cases hfs
    cases j with
    | zero => cases h; cases hf; exact ⟨fun k e => by cases e; exact Try.underlying3, fun e => (by cases e), fun e => (by cases e)⟩
    | succ j =>
     cases j with
     | zero => cases h; cases hf; exact ⟨fun k e => (by cases e), fun e => (by cases e), fun e => (by cases e)⟩
     | succ j =>
      cases j with
      | zero => cases h; cases hf; exact ⟨fun k e => by cases e; exact Try.underlying3, fun e => (by cases e), fun e => (by cases e)⟩
      | succ j =>
       cases j with
       | zero => cases h; cases hf; exact ⟨fun k e => by cases e; exact Try.underlying3, fun e => (by cases e), fun e => (by cases e)⟩
       | succ j =>
        cases j with
        | zero => cases h; cases hf; exact ⟨fun k e => (by cases e), fun e => (by cases e), fun e => (by cases e)⟩
        | succ j =>
         cases j with
         | zero => cases h; cases hf; exact ⟨fun k e => by cases e; exact Try.underlying3, fun e => (by cases e), fun e => (by cases e)⟩
         | succ j =>
          cases h), Try.t52, rfl, rfl, fun _ _ => rfl⟩
theorem tn53 : TnOk Try.prog 53 (.fn [.st [.int .i64, .st [.sl 3 (.int .i64), .sl 3 (.int .i64)], .int .i64, .int .i64, .sl 183 (.st [.int .i64, .st [.int .i64, .int .i64, .int .i64, .int .i64], .sl 64 (.st [.int .i64, .int .i64, .int .i64])]), .int .i64], .int .i64] (.int .i64)) := ⟨⟨_, _, _, Try.underlying53⟩, fun _ h => (by cases h), Try.t53, rfl, rfl, fun _ h => by cases h⟩
theorem tn54 : TnOk Try.prog 54 (.fn [.st [.int .i64, .st [.sl 3 (.int .i64), .sl 3 (.int .i64)], .int .i64, .int .i64, .sl 128 (.st [.int .i64, .st [.int .i64, .int .i64, .int .i64, .int .i64], .sl 69 (.st [.int .i64, .int .i64, .int .i64])]), .int .i64], .st [.int .i64, .st [.sl 3 (.int .i64), .sl 3 (.int .i64)], .int .i64, .int .i64, .sl 128 (.st [.int .i64, .st [.int .i64, .int .i64, .int .i64, .int .i64], .sl 69 (.st [.int .i64, .int .i64, .int .i64])]), .int .i64]] (.bool)) := ⟨⟨_, _, _, Try.underlying54⟩, fun _ h => (by cases h), Try.t54, rfl, rfl, fun _ h => by cases h⟩
theorem tn55 : TnOk Try.prog 55 (.st [.sl 3 (.int .i64), .sl 3 (.int .i64)]) := ⟨⟨_, Try.underlying55, Try.eqGuardType55, Try.stoodInHeld55, rfl, fun j τ h => by
    cases j with
    | zero => cases h; exact ⟨_, _, rfl, rfl, by decide, by decide, Try.underlying26, rfl, fun us h => by cases h⟩
    | succ j =>
     cases j with
     | zero => cases h; exact ⟨_, _, rfl, rfl, by decide, by decide, Try.underlying26, rfl, fun us h => by cases h⟩
     | succ j =>
      cases h⟩, (fun us hus fs hfs j τ h f hf => by
    cases hus
    rw [Try.underlying55] at hfs
    cases hfs
    cases j with
    | zero => cases h; cases hf; exact ⟨fun k e => (by cases e), fun e => (by cases e), fun e => (by cases e)⟩
    | succ j =>
     cases j with
     | zero => cases h; cases hf; exact ⟨fun k e => (by cases e), fun e => (by cases e), fun e => (by cases e)⟩
     | succ j =>
      cases h), Try.t55, rfl, rfl, fun _ _ => rfl⟩
theorem tn56 : TnOk Try.prog 56 (.sl 128 (.st [.int .i64, .st [.int .i64, .int .i64, .int .i64, .int .i64], .sl 69 (.st [.int .i64, .int .i64, .int .i64])])) := ⟨⟨Try.underlying56, Try.t128, _, rfl, rfl, rfl, rfl, by decide, by decide, fun _ _ => rfl, fun k h => by cases h⟩, fun _ h => (by cases h), Try.t56, rfl, rfl, fun _ _ => rfl⟩
theorem tn57 : TnOk Try.prog 57 (.st [.int .i64, .st [.sl 3 (.int .i64), .sl 3 (.int .i64)], .int .i64, .int .i64, .sl 128 (.st [.int .i64, .st [.int .i64, .int .i64, .int .i64, .int .i64], .sl 69 (.st [.int .i64, .int .i64, .int .i64])]), .int .i64]) := ⟨⟨_, Try.underlying57, Try.eqGuardType57, Try.stoodInHeld57, rfl, fun j τ h => by
    cases j with
    | zero => cases h; exact ⟨_, _, rfl, rfl, by decide, by decide, Try.underlying3, rfl, fun us h => by cases h⟩
    | succ j =>
     cases j with
     | zero => cases h; exact ⟨_, _, rfl, rfl, by decide, by decide, Try.underlying55, rfl, ⟨_, rfl⟩⟩
     | succ j =>
      cases j with
      | zero => cases h; exact ⟨_, _, rfl, rfl, by decide, by decide, Try.underlying3, rfl, fun us h => by cases h⟩
      | succ j =>
       cases j with
       | zero => cases h; exact ⟨_, _, rfl, rfl, by decide, by decide, Try.underlying3, rfl, fun us h => by cases h⟩
       | succ j =>
        cases j with
        | zero => cases h; exact ⟨_, _, rfl, rfl, by decide, by decide, Try.underlying56, rfl, fun us h => by cases h⟩
        | succ j =>
         cases j with
         | zero => cases h; exact ⟨_, _, rfl, rfl, by decide, by decide, Try.underlying3, rfl, fun us h => by cases h⟩
         | succ j =>
          cases h⟩, (fun us hus fs hfs j τ h f hf => by
    cases hus
    rw [Try.underlying57] at hfs
    cases hfs
    cases j with
    | zero => cases h; cases hf; exact ⟨fun k e => by cases e; exact Try.underlying3, fun e => (by cases e), fun e => (by cases e)⟩
    | succ j =>
     cases j with
     | zero => cases h; cases hf; exact ⟨fun k e => (by cases e), fun e => (by cases e), fun e => (by cases e)⟩
     | succ j =>
      cases j with
      | zero => cases h; cases hf; exact ⟨fun k e => by cases e; exact Try.underlying3, fun e => (by cases e), fun e => (by cases e)⟩
      | succ j =>
       cases j with
       | zero => cases h; cases hf; exact ⟨fun k e => by cases e; exact Try.underlying3, fun e => (by cases e), fun e => (by cases e)⟩
       | succ j =>
        cases j with
        | zero => cases h; cases hf; exact ⟨fun k e => (by cases e), fun e => (by cases e), fun e => (by cases e)⟩
        | succ j =>
         cases j with
         | zero => cases h; cases hf; exact ⟨fun k e => by cases e; exact Try.underlying3, fun e => (by cases e), fun e => (by cases e)⟩
         | succ j =>
          cases h), Try.t57, rfl, rfl, fun _ _ => rfl⟩
theorem tn58 : TnOk Try.prog 58 (.st [.int .i64, .st [.sl 3 (.int .i64), .sl 3 (.int .i64)], .int .i64, .int .i64, .sl 128 (.st [.int .i64, .st [.int .i64, .int .i64, .int .i64, .int .i64], .sl 69 (.st [.int .i64, .int .i64, .int .i64])]), .int .i64]) := ⟨⟨_, Try.underlying58, Try.eqGuardType58, Try.stoodInHeld58, rfl, fun j τ h => by
    cases j with
    | zero => cases h; exact ⟨_, _, rfl, rfl, by decide, by decide, Try.underlying3, rfl, fun us h => by cases h⟩
    | succ j =>
     cases j with
     | zero => cases h; exact ⟨_, _, rfl, rfl, by decide, by decide, Try.underlying55, rfl, ⟨_, rfl⟩⟩
     | succ j =>
      cases j with
      | zero => cases h; exact ⟨_, _, rfl, rfl, by decide, by decide, Try.underlying3, rfl, fun us h => by cases h⟩
      | succ j =>
       cases j with
       | zero => cases h; exact ⟨_, _, rfl, rfl, by decide, by decide, Try.underlying3, rfl, fun us h => by cases h⟩
       | succ j =>
        cases j with
        | zero => cases h; exact ⟨_, _, rfl, rfl, by decide, by decide, Try.underlying56, rfl, fun us h => by cases h⟩
        | succ j =>
         cases j with
         | zero => cases h; exact ⟨_, _, rfl, rfl, by decide, by decide, Try.underlying3, rfl, fun us h => by cases h⟩
         | succ j =>
          cases h⟩, (fun us hus fs hfs j τ h f hf => by
    cases hus
    rw [Try.underlying58] at hfs
    cases hfs
    cases j with
    | zero => cases h; cases hf; exact ⟨fun k e => by cases e; exact Try.underlying3, fun e => (by cases e), fun e => (by cases e)⟩
    | succ j =>
     cases j with
     | zero => cases h; cases hf; exact ⟨fun k e => (by cases e), fun e => (by cases e), fun e => (by cases e)⟩
     | succ j =>
      cases j with
      | zero => cases h; cases hf; exact ⟨fun k e => by cases e; exact Try.underlying3, fun e => (by cases e), fun e => (by cases e)⟩
      | succ j =>
       cases j with
       | zero => cases h; cases hf; exact ⟨fun k e => by cases e; exact Try.underlying3, fun e => (by cases e), fun e => (by cases e)⟩
       | succ j =>
        cases j with
        | zero => cases h; cases hf; exact ⟨fun k e => (by cases e), fun e => (by cases e), fun e => (by cases e)⟩
        | succ j =>
         cases j with
         | zero => cases h; cases hf; exact ⟨fun k e => by cases e; exact Try.underlying3, fun e => (by cases e), fun e => (by cases e)⟩
         | succ j =>
          cases h), Try.t58, rfl, rfl, fun _ _ => rfl⟩
theorem tn59 : TnOk Try.prog 59 (.fn [.st [.int .i64, .st [.sl 3 (.int .i64), .sl 3 (.int .i64)], .int .i64, .int .i64, .sl 183 (.st [.int .i64, .st [.int .i64, .int .i64, .int .i64, .int .i64], .sl 64 (.st [.int .i64, .int .i64, .int .i64])]), .int .i64]] (.st [.int .i64, .st [.sl 3 (.int .i64), .sl 3 (.int .i64)], .int .i64, .int .i64, .sl 128 (.st [.int .i64, .st [.int .i64, .int .i64, .int .i64, .int .i64], .sl 69 (.st [.int .i64, .int .i64, .int .i64])]), .int .i64])) := ⟨⟨_, _, _, Try.underlying59⟩, fun _ h => (by cases h), Try.t59, rfl, rfl, fun _ h => by cases h⟩
theorem tn60 : TnOk Try.prog 60 (.fn [.st [.int .i64, .st [.sl 3 (.int .i64), .sl 3 (.int .i64)], .int .i64, .int .i64, .sl 183 (.st [.int .i64, .st [.int .i64, .int .i64, .int .i64, .int .i64], .sl 64 (.st [.int .i64, .int .i64, .int .i64])]), .int .i64], .st [.int .i64, .st [.sl 3 (.int .i64), .sl 3 (.int .i64)], .int .i64, .int .i64, .sl 183 (.st [.int .i64, .st [.int .i64, .int .i64, .int .i64, .int .i64], .sl 64 (.st [.int .i64, .int .i64, .int .i64])]), .int .i64]] (.bool)) := ⟨⟨_, _, _, Try.underlying60⟩, fun _ h => (by cases h), Try.t60, rfl, rfl, fun _ h => by cases h⟩
theorem tn63 : TnOk Try.prog 63 (.st [.int .i64, .int .i64, .int .i64]) := ⟨⟨_, Try.underlying63, Try.eqGuardType63, Try.stoodInHeld63, rfl, fun j τ h => by
    cases j with
    | zero => cases h; exact ⟨_, _, rfl, rfl, by decide, by decide, Try.underlying3, rfl, fun us h => by cases h⟩
    | succ j =>
     cases j with
     | zero => cases h; exact ⟨_, _, rfl, rfl, by decide, by decide, Try.underlying3, rfl, fun us h => by cases h⟩
     | succ j =>
      cases j with
      | zero => cases h; exact ⟨_, _, rfl, rfl, by decide, by decide, Try.underlying3, rfl, fun us h => by cases h⟩
      | succ j =>
       cases h⟩, (fun us hus fs hfs j τ h f hf => by
    cases hus
    rw [Try.underlying63] at hfs
    cases hfs
    cases j with
    | zero => cases h; cases hf; exact ⟨fun k e => by cases e; exact Try.underlying3, fun e => (by cases e), fun e => (by cases e)⟩
    | succ j =>
     cases j with
     | zero => cases h; cases hf; exact ⟨fun k e => by cases e; exact Try.underlying3, fun e => (by cases e), fun e => (by cases e)⟩
     | succ j =>
      cases j with
      | zero => cases h; cases hf; exact ⟨fun k e => by cases e; exact Try.underlying3, fun e => (by cases e), fun e => (by cases e)⟩
      | succ j =>
       cases h), Try.t63, rfl, rfl, fun _ _ => rfl⟩
theorem tn64 : TnOk Try.prog 64 (.st [.int .i64, .int .i64, .int .i64]) := ⟨⟨_, Try.underlying64, Try.eqGuardType64, Try.stoodInHeld64, rfl, fun j τ h => by
    cases j with
    | zero => cases h; exact ⟨_, _, rfl, rfl, by decide, by decide, Try.underlying3, rfl, fun us h => by cases h⟩
    | succ j =>
     cases j with
     | zero => cases h; exact ⟨_, _, rfl, rfl, by decide, by decide, Try.underlying3, rfl, fun us h => by cases h⟩
     | succ j =>
      cases j with
      | zero => cases h; exact ⟨_, _, rfl, rfl, by decide, by decide, Try.underlying3, rfl, fun us h => by cases h⟩
      | succ j =>
       cases h⟩, (fun us hus fs hfs j τ h f hf => by
    cases hus
    rw [Try.underlying64] at hfs
    cases hfs
    cases j with
    | zero => cases h; cases hf; exact ⟨fun k e => by cases e; exact Try.underlying3, fun e => (by cases e), fun e => (by cases e)⟩
    | succ j =>
     cases j with
     | zero => cases h; cases hf; exact ⟨fun k e => by cases e; exact Try.underlying3, fun e => (by cases e), fun e => (by cases e)⟩
     | succ j =>
      cases j with
      | zero => cases h; cases hf; exact ⟨fun k e => by cases e; exact Try.underlying3, fun e => (by cases e), fun e => (by cases e)⟩
      | succ j =>
       cases h), Try.t64, rfl, rfl, fun _ _ => rfl⟩
theorem tn69 : TnOk Try.prog 69 (.st [.int .i64, .int .i64, .int .i64]) := ⟨⟨_, Try.underlying69, Try.eqGuardType69, Try.stoodInHeld69, rfl, fun j τ h => by
    cases j with
    | zero => cases h; exact ⟨_, _, rfl, rfl, by decide, by decide, Try.underlying3, rfl, fun us h => by cases h⟩
    | succ j =>
     cases j with
     | zero => cases h; exact ⟨_, _, rfl, rfl, by decide, by decide, Try.underlying3, rfl, fun us h => by cases h⟩
     | succ j =>
      cases j with
      | zero => cases h; exact ⟨_, _, rfl, rfl, by decide, by decide, Try.underlying3, rfl, fun us h => by cases h⟩
      | succ j =>
       cases h⟩, (fun us hus fs hfs j τ h f hf => by
    cases hus
    rw [Try.underlying69] at hfs
    cases hfs
    cases j with
    | zero => cases h; cases hf; exact ⟨fun k e => by cases e; exact Try.underlying3, fun e => (by cases e), fun e => (by cases e)⟩
    | succ j =>
     cases j with
     | zero => cases h; cases hf; exact ⟨fun k e => by cases e; exact Try.underlying3, fun e => (by cases e), fun e => (by cases e)⟩
     | succ j =>
      cases j with
      | zero => cases h; cases hf; exact ⟨fun k e => by cases e; exact Try.underlying3, fun e => (by cases e), fun e => (by cases e)⟩
      | succ j =>
       cases h), Try.t69, rfl, rfl, fun _ _ => rfl⟩
theorem tn70 : TnOk Try.prog 70 (.fn [.st [.int .i64, .int .i64, .int .i64]] (.st [.int .i64, .int .i64, .int .i64])) := ⟨⟨_, _, _, Try.underlying70⟩, fun _ h => (by cases h), Try.t70, rfl, rfl, fun _ h => by cases h⟩
theorem tn99 : TnOk Try.prog 99 (.fn [.st [.sl 3 (.int .i64), .sl 3 (.int .i64)], .int .i64] (.int .i64)) := ⟨⟨_, _, _, Try.underlying99⟩, fun _ h => (by cases h), Try.t99, rfl, rfl, fun _ h => by cases h⟩
theorem tn101 : TnOk Try.prog 101 (.fn [.st [.sl 3 (.int .i64), .sl 3 (.int .i64)]] (.st [.sl 3 (.int .i64), .sl 3 (.int .i64)])) := ⟨⟨_, _, _, Try.underlying101⟩, fun _ h => (by cases h), Try.t101, rfl, rfl, fun _ h => by cases h⟩
theorem tn102 : TnOk Try.prog 102 (.fn [.st [.sl 3 (.int .i64), .sl 3 (.int .i64)], .st [.sl 3 (.int .i64), .sl 3 (.int .i64)]] (.bool)) := ⟨⟨_, _, _, Try.underlying102⟩, fun _ h => (by cases h), Try.t102, rfl, rfl, fun _ h => by cases h⟩
theorem tn118 : TnOk Try.prog 118 (.fn [.sl 3 (.int .i64), .sl 3 (.int .i64)] (.bool)) := ⟨⟨_, _, _, Try.underlying118⟩, fun _ h => (by cases h), Try.t118, rfl, rfl, fun _ h => by cases h⟩
theorem tn123 : TnOk Try.prog 123 (.fn [.sl 183 (.st [.int .i64, .st [.int .i64, .int .i64, .int .i64, .int .i64], .sl 64 (.st [.int .i64, .int .i64, .int .i64])]), .int .i64] (.int .i64)) := ⟨⟨_, _, _, Try.underlying123⟩, fun _ h => (by cases h), Try.t123, rfl, rfl, fun _ h => by cases h⟩
theorem tn124 : TnOk Try.prog 124 (.st [.int .i64, .int .i64, .int .i64, .int .i64]) := ⟨⟨_, Try.underlying124, Try.eqGuardType124, Try.stoodInHeld124, rfl, fun j τ h => by
    cases j with
    | zero => cases h; exact ⟨_, _, rfl, rfl, by decide, by decide, Try.underlying3, rfl, fun us h => by cases h⟩
    | succ j =>
     cases j with
     | zero => cases h; exact ⟨_, _, rfl, rfl, by decide, by decide, Try.underlying3, rfl, fun us h => by cases h⟩
     | succ j =>
      cases j with
      | zero => cases h; exact ⟨_, _, rfl, rfl, by decide, by decide, Try.underlying3, rfl, fun us h => by cases h⟩
      | succ j =>
       cases j with
       | zero => cases h; exact ⟨_, _, rfl, rfl, by decide, by decide, Try.underlying3, rfl, fun us h => by cases h⟩
       | succ j =>
        cases h⟩, (fun us hus fs hfs j τ h f hf => by
    cases hus
    rw [Try.underlying124] at hfs
    cases hfs
    cases j with
    | zero => cases h; cases hf; exact ⟨fun k e => by cases e; exact Try.underlying3, fun e => (by cases e), fun e => (by cases e)⟩
    | succ j =>
     cases j with
     | zero => cases h; cases hf; exact ⟨fun k e => by cases e; exact Try.underlying3, fun e => (by cases e), fun e => (by cases e)⟩
     | succ j =>
      cases j with
      | zero => cases h; cases hf; exact ⟨fun k e => by cases e; exact Try.underlying3, fun e => (by cases e), fun e => (by cases e)⟩
      | succ j =>
       cases j with
       | zero => cases h; cases hf; exact ⟨fun k e => by cases e; exact Try.underlying3, fun e => (by cases e), fun e => (by cases e)⟩
       | succ j =>
        cases h), Try.t124, rfl, rfl, fun _ _ => rfl⟩
theorem tn125 : TnOk Try.prog 125 (.st [.int .i64, .int .i64, .int .i64, .int .i64]) := ⟨⟨_, Try.underlying125, Try.eqGuardType125, Try.stoodInHeld125, rfl, fun j τ h => by
    cases j with
    | zero => cases h; exact ⟨_, _, rfl, rfl, by decide, by decide, Try.underlying3, rfl, fun us h => by cases h⟩
    | succ j =>
     cases j with
     | zero => cases h; exact ⟨_, _, rfl, rfl, by decide, by decide, Try.underlying3, rfl, fun us h => by cases h⟩
     | succ j =>
      cases j with
      | zero => cases h; exact ⟨_, _, rfl, rfl, by decide, by decide, Try.underlying3, rfl, fun us h => by cases h⟩
      | succ j =>
       cases j with
       | zero => cases h; exact ⟨_, _, rfl, rfl, by decide, by decide, Try.underlying3, rfl, fun us h => by cases h⟩
       | succ j =>
        cases h⟩, (fun us hus fs hfs j τ h f hf => by
    cases hus
    rw [Try.underlying125] at hfs
    cases hfs
    cases j with
    | zero => cases h; cases hf; exact ⟨fun k e => by cases e; exact Try.underlying3, fun e => (by cases e), fun e => (by cases e)⟩
    | succ j =>
     cases j with
     | zero => cases h; cases hf; exact ⟨fun k e => by cases e; exact Try.underlying3, fun e => (by cases e), fun e => (by cases e)⟩
     | succ j =>
      cases j with
      | zero => cases h; cases hf; exact ⟨fun k e => by cases e; exact Try.underlying3, fun e => (by cases e), fun e => (by cases e)⟩
      | succ j =>
       cases j with
       | zero => cases h; cases hf; exact ⟨fun k e => by cases e; exact Try.underlying3, fun e => (by cases e), fun e => (by cases e)⟩
       | succ j =>
        cases h), Try.t125, rfl, rfl, fun _ _ => rfl⟩
theorem tn126 : TnOk Try.prog 126 (.sl 69 (.st [.int .i64, .int .i64, .int .i64])) := ⟨⟨Try.underlying126, Try.t69, _, rfl, rfl, rfl, rfl, by decide, by decide, fun _ _ => rfl, fun k h => by cases h⟩, fun _ h => (by cases h), Try.t126, rfl, rfl, fun _ _ => rfl⟩
theorem tn127 : TnOk Try.prog 127 (.st [.int .i64, .st [.int .i64, .int .i64, .int .i64, .int .i64], .sl 69 (.st [.int .i64, .int .i64, .int .i64])]) := ⟨⟨_, Try.underlying127, Try.eqGuardType127, Try.stoodInHeld127, rfl, fun j τ h => by
    cases j with
    | zero => cases h; exact ⟨_, _, rfl, rfl, by decide, by decide, Try.underlying3, rfl, fun us h => by cases h⟩
    | succ j =>
     cases j with
     | zero => cases h; exact ⟨_, _, rfl, rfl, by decide, by decide, Try.underlying125, rfl, ⟨_, rfl⟩⟩
     | succ j =>
      cases j with
      | zero => cases h; exact ⟨_, _, rfl, rfl, by decide, by decide, Try.underlying126, rfl, fun us h => by cases h⟩
      | succ j =>
       cases h⟩, (fun us hus fs hfs j τ h f hf => by
    cases hus
    rw [Try.underlying127] at hfs
    cases hfs
    cases j with
    | zero => cases h; cases hf; exact ⟨fun k e => by cases e; exact Try.underlying3, fun e => (by cases e), fun e => (by cases e)⟩
    | succ j =>
     cases j with
     | zero => cases h; cases hf; exact ⟨fun k e => (by cases e), fun e => (by cases e), fun e => (by cases e)⟩
     | succ j =>
      cases j with
      | zero => cases h; cases hf; exact ⟨fun k e => (by cases e), fun e => (by cases e), fun e => (by cases e)⟩
      | succ j =>
       cases h), Try.t127, rfl, rfl, fun _ _ => rfl⟩
theorem tn128 : TnOk Try.prog 128 (.st [.int .i64, .st [.int .i64, .int .i64, .int .i64, .int .i64], .sl 69 (.st [.int .i64, .int .i64, .int .i64])]) := ⟨⟨_, Try.underlying128, Try.eqGuardType128, Try.stoodInHeld128, rfl, fun j τ h => by
    cases j with
    | zero => cases h; exact ⟨_, _, rfl, rfl, by decide, by decide, Try.underlying3, rfl, fun us h => by cases h⟩
    | succ j =>
     cases j with
     | zero => cases h; exact ⟨_, _, rfl, rfl, by decide, by decide, Try.underlying125, rfl, ⟨_, rfl⟩⟩
     | succ j =>
      cases j with
      | zero => cases h; exact ⟨_, _, rfl, rfl, by decide, by decide, Try.underlying126, rfl, fun us h => by cases h⟩
      | succ j =>
       cases h⟩, (fun us hus fs hfs j τ h f hf => by
    cases hus
    rw [Try.underlying128] at hfs
    cases hfs
    cases j with
    | zero => cases h; cases hf; exact ⟨fun k e => by cases e; exact Try.underlying3, fun e => (by cases e), fun e => (by cases e)⟩
    | succ j =>
     cases j with
     | zero => cases h; cases hf; exact ⟨fun k e => (by cases e), fun e => (by cases e), fun e => (by cases e)⟩
     | succ j =>
      cases j with
      | zero => cases h; cases hf; exact ⟨fun k e => (by cases e), fun e => (by cases e), fun e => (by cases e)⟩
      | succ j =>
       cases h), Try.t128, rfl, rfl, fun _ _ => rfl⟩
theorem tn129 : TnOk Try.prog 129 (.fn [.st [.int .i64, .st [.int .i64, .int .i64, .int .i64, .int .i64], .sl 69 (.st [.int .i64, .int .i64, .int .i64])], .st [.int .i64, .st [.int .i64, .int .i64, .int .i64, .int .i64], .sl 69 (.st [.int .i64, .int .i64, .int .i64])]] (.bool)) := ⟨⟨_, _, _, Try.underlying129⟩, fun _ h => (by cases h), Try.t129, rfl, rfl, fun _ h => by cases h⟩
theorem tn130 : TnOk Try.prog 130 (.fn [.sl 183 (.st [.int .i64, .st [.int .i64, .int .i64, .int .i64, .int .i64], .sl 64 (.st [.int .i64, .int .i64, .int .i64])])] (.sl 128 (.st [.int .i64, .st [.int .i64, .int .i64, .int .i64, .int .i64], .sl 69 (.st [.int .i64, .int .i64, .int .i64])]))) := ⟨⟨_, _, _, Try.underlying130⟩, fun _ h => (by cases h), Try.t130, rfl, rfl, fun _ h => by cases h⟩
theorem tn131 : TnOk Try.prog 131 (.fn [.sl 128 (.st [.int .i64, .st [.int .i64, .int .i64, .int .i64, .int .i64], .sl 69 (.st [.int .i64, .int .i64, .int .i64])]), .sl 128 (.st [.int .i64, .st [.int .i64, .int .i64, .int .i64, .int .i64], .sl 69 (.st [.int .i64, .int .i64, .int .i64])])] (.bool)) := ⟨⟨_, _, _, Try.underlying131⟩, fun _ h => (by cases h), Try.t131, rfl, rfl, fun _ h => by cases h⟩
theorem tn132 : TnOk Try.prog 132 (.fn [.sl 3 (.int .i64), .int .i64] (.int .i64)) := ⟨⟨_, _, _, Try.underlying132⟩, fun _ h => (by cases h), Try.t132, rfl, rfl, fun _ h => by cases h⟩
theorem tn140 : TnOk Try.prog 140 (.fn [.sl 3 (.int .i64)] (.sl 3 (.int .i64))) := ⟨⟨_, _, _, Try.underlying140⟩, fun _ h => (by cases h), Try.t140, rfl, rfl, fun _ h => by cases h⟩
theorem tn179 : TnOk Try.prog 179 (.fn [.st [.int .i64, .st [.int .i64, .int .i64, .int .i64, .int .i64], .sl 64 (.st [.int .i64, .int .i64, .int .i64])], .int .i64] (.int .i64)) := ⟨⟨_, _, _, Try.underlying179⟩, fun _ h => (by cases h), Try.t179, rfl, rfl, fun _ h => by cases h⟩
theorem tn180 : TnOk Try.prog 180 (.st [.int .i64, .int .i64, .int .i64, .int .i64]) := ⟨⟨_, Try.underlying180, Try.eqGuardType180, Try.stoodInHeld180, rfl, fun j τ h => by
    cases j with
    | zero => cases h; exact ⟨_, _, rfl, rfl, by decide, by decide, Try.underlying3, rfl, fun us h => by cases h⟩
    | succ j =>
     cases j with
     | zero => cases h; exact ⟨_, _, rfl, rfl, by decide, by decide, Try.underlying3, rfl, fun us h => by cases h⟩
     | succ j =>
      cases j with
      | zero => cases h; exact ⟨_, _, rfl, rfl, by decide, by decide, Try.underlying3, rfl, fun us h => by cases h⟩
      | succ j =>
       cases j with
       | zero => cases h; exact ⟨_, _, rfl, rfl, by decide, by decide, Try.underlying3, rfl, fun us h => by cases h⟩
       | succ j =>
        cases h⟩, (fun us hus fs hfs j τ h f hf => by
    cases hus
    rw [Try.underlying180] at hfs
    cases hfs
    cases j with
    | zero => cases h; cases hf; exact ⟨fun k e => by cases e; exact Try.underlying3, fun e => (by cases e), fun e => (by cases e)⟩
    | succ j =>
     cases j with
     | zero => cases h; cases hf; exact ⟨fun k e => by cases e; exact Try.underlying3, fun e => (by cases e), fun e => (by cases e)⟩
     | succ j =>
      cases j with
      | zero => cases h; cases hf; exact ⟨fun k e => by cases e; exact Try.underlying3, fun e => (by cases e), fun e => (by cases e)⟩
      | succ j =>
       cases j with
       | zero => cases h; cases hf; exact ⟨fun k e => by cases e; exact Try.underlying3, fun e => (by cases e), fun e => (by cases e)⟩
       | succ j =>
        cases h), Try.t180, rfl, rfl, fun _ _ => rfl⟩
theorem tn181 : TnOk Try.prog 181 (.sl 64 (.st [.int .i64, .int .i64, .int .i64])) := ⟨⟨Try.underlying181, Try.t64, _, rfl, rfl, rfl, rfl, by decide, by decide, fun _ _ => rfl, fun k h => by cases h⟩, fun _ h => (by cases h), Try.t181, rfl, rfl, fun _ _ => rfl⟩
theorem tn182 : TnOk Try.prog 182 (.st [.int .i64, .st [.int .i64, .int .i64, .int .i64, .int .i64], .sl 64 (.st [.int .i64, .int .i64, .int .i64])]) := ⟨⟨_, Try.underlying182, Try.eqGuardType182, Try.stoodInHeld182, rfl, fun j τ h => by
    cases j with
    | zero => cases h; exact ⟨_, _, rfl, rfl, by decide, by decide, Try.underlying3, rfl, fun us h => by cases h⟩
    | succ j =>
     cases j with
     | zero => cases h; exact ⟨_, _, rfl, rfl, by decide, by decide, Try.underlying180, rfl, ⟨_, rfl⟩⟩
     | succ j =>
      cases j with
      | zero => cases h; exact ⟨_, _, rfl, rfl, by decide, by decide, Try.underlying181, rfl, fun us h => by cases h⟩
      | succ j =>
       cases h⟩, (fun us hus fs hfs j τ h f hf => by
    cases hus
    rw [Try.underlying182] at hfs
    cases hfs
    cases j with
    | zero => cases h; cases hf; exact ⟨fun k e => by cases e; exact Try.underlying3, fun e => (by cases e), fun e => (by cases e)⟩
    | succ j =>
     cases j with
     | zero => cases h; cases hf; exact ⟨fun k e => (by cases e), fun e => (by cases e), fun e => (by cases e)⟩
     | succ j =>
      cases j with
      | zero => cases h; cases hf; exact ⟨fun k e => (by cases e), fun e => (by cases e), fun e => (by cases e)⟩
      | succ j =>
       cases h), Try.t182, rfl, rfl, fun _ _ => rfl⟩
theorem tn183 : TnOk Try.prog 183 (.st [.int .i64, .st [.int .i64, .int .i64, .int .i64, .int .i64], .sl 64 (.st [.int .i64, .int .i64, .int .i64])]) := ⟨⟨_, Try.underlying183, Try.eqGuardType183, Try.stoodInHeld183, rfl, fun j τ h => by
    cases j with
    | zero => cases h; exact ⟨_, _, rfl, rfl, by decide, by decide, Try.underlying3, rfl, fun us h => by cases h⟩
    | succ j =>
     cases j with
     | zero => cases h; exact ⟨_, _, rfl, rfl, by decide, by decide, Try.underlying180, rfl, ⟨_, rfl⟩⟩
     | succ j =>
      cases j with
      | zero => cases h; exact ⟨_, _, rfl, rfl, by decide, by decide, Try.underlying181, rfl, fun us h => by cases h⟩
      | succ j =>
       cases h⟩, (fun us hus fs hfs j τ h f hf => by
    cases hus
    rw [Try.underlying183] at hfs
    cases hfs
    cases j with
    | zero => cases h; cases hf; exact ⟨fun k e => by cases e; exact Try.underlying3, fun e => (by cases e), fun e => (by cases e)⟩
    | succ j =>
     cases j with
     | zero => cases h; cases hf; exact ⟨fun k e => (by cases e), fun e => (by cases e), fun e => (by cases e)⟩
     | succ j =>
      cases j with
      | zero => cases h; cases hf; exact ⟨fun k e => (by cases e), fun e => (by cases e), fun e => (by cases e)⟩
      | succ j =>
       cases h), Try.t183, rfl, rfl, fun _ _ => rfl⟩
theorem tn184 : TnOk Try.prog 184 (.fn [.sl 69 (.st [.int .i64, .int .i64, .int .i64]), .sl 69 (.st [.int .i64, .int .i64, .int .i64])] (.bool)) := ⟨⟨_, _, _, Try.underlying184⟩, fun _ h => (by cases h), Try.t184, rfl, rfl, fun _ h => by cases h⟩
theorem tn185 : TnOk Try.prog 185 (.fn [.st [.int .i64, .st [.int .i64, .int .i64, .int .i64, .int .i64], .sl 64 (.st [.int .i64, .int .i64, .int .i64])]] (.st [.int .i64, .st [.int .i64, .int .i64, .int .i64, .int .i64], .sl 69 (.st [.int .i64, .int .i64, .int .i64])])) := ⟨⟨_, _, _, Try.underlying185⟩, fun _ h => (by cases h), Try.t185, rfl, rfl, fun _ h => by cases h⟩
theorem tn212 : TnOk Try.prog 212 (.fn [.sl 64 (.st [.int .i64, .int .i64, .int .i64]), .int .i64] (.int .i64)) := ⟨⟨_, _, _, Try.underlying212⟩, fun _ h => (by cases h), Try.t212, rfl, rfl, fun _ h => by cases h⟩
theorem tn213 : TnOk Try.prog 213 (.fn [.st [.int .i64, .int .i64, .int .i64, .int .i64]] (.st [.int .i64, .int .i64, .int .i64, .int .i64])) := ⟨⟨_, _, _, Try.underlying213⟩, fun _ h => (by cases h), Try.t213, rfl, rfl, fun _ h => by cases h⟩
theorem tn214 : TnOk Try.prog 214 (.fn [.sl 64 (.st [.int .i64, .int .i64, .int .i64])] (.sl 69 (.st [.int .i64, .int .i64, .int .i64]))) := ⟨⟨_, _, _, Try.underlying214⟩, fun _ h => (by cases h), Try.t214, rfl, rfl, fun _ h => by cases h⟩
theorem tn215 : TnOk Try.prog 215 (.fn [.st [.int .i64, .int .i64, .int .i64, .int .i64], .st [.int .i64, .int .i64, .int .i64, .int .i64]] (.bool)) := ⟨⟨_, _, _, Try.underlying215⟩, fun _ h => (by cases h), Try.t215, rfl, rfl, fun _ h => by cases h⟩
theorem tn226 : TnOk Try.prog 226 (.fn [.st [.int .i64, .int .i64, .int .i64], .st [.int .i64, .int .i64, .int .i64]] (.bool)) := ⟨⟨_, _, _, Try.underlying226⟩, fun _ h => (by cases h), Try.t226, rfl, rfl, fun _ h => by cases h⟩
def tys : List (Nat × Ty) := [(3, .int .i64), (4, .bool), (26, .sl 3 (.int .i64)), (48, .st [.sl 3 (.int .i64), .sl 3 (.int .i64)]), (49, .st [.sl 3 (.int .i64), .sl 3 (.int .i64)]), (50, .sl 183 (.st [.int .i64, .st [.int .i64, .int .i64, .int .i64, .int .i64], .sl 64 (.st [.int .i64, .int .i64, .int .i64])])), (51, .st [.int .i64, .st [.sl 3 (.int .i64), .sl 3 (.int .i64)], .int .i64, .int .i64, .sl 183 (.st [.int .i64, .st [.int .i64, .int .i64, .int .i64, .int .i64], .sl 64 (.st [.int .i64, .int .i64, .int .i64])]), .int .i64]), (52, .st [.int .i64, .st [.sl 3 (.int .i64), .sl 3 (.int .i64)], .int .i64, .int .i64, .sl 183 (.st [.int .i64, .st [.int .i64, .int .i64, .int .i64, .int .i64], .sl 64 (.st [.int .i64, .int .i64, .int .i64])]), .int .i64]), (53, .fn [.st [.int .i64, .st [.sl 3 (.int .i64), .sl 3 (.int .i64)], .int .i64, .int .i64, .sl 183 (.st [.int .i64, .st [.int .i64, .int .i64, .int .i64, .int .i64], .sl 64 (.st [.int .i64, .int .i64, .int .i64])]), .int .i64], .int .i64] (.int .i64)), (54, .fn [.st [.int .i64, .st [.sl 3 (.int .i64), .sl 3 (.int .i64)], .int .i64, .int .i64, .sl 128 (.st [.int .i64, .st [.int .i64, .int .i64, .int .i64, .int .i64], .sl 69 (.st [.int .i64, .int .i64, .int .i64])]), .int .i64], .st [.int .i64, .st [.sl 3 (.int .i64), .sl 3 (.int .i64)], .int .i64, .int .i64, .sl 128 (.st [.int .i64, .st [.int .i64, .int .i64, .int .i64, .int .i64], .sl 69 (.st [.int .i64, .int .i64, .int .i64])]), .int .i64]] (.bool)), (55, .st [.sl 3 (.int .i64), .sl 3 (.int .i64)]), (56, .sl 128 (.st [.int .i64, .st [.int .i64, .int .i64, .int .i64, .int .i64], .sl 69 (.st [.int .i64, .int .i64, .int .i64])])), (57, .st [.int .i64, .st [.sl 3 (.int .i64), .sl 3 (.int .i64)], .int .i64, .int .i64, .sl 128 (.st [.int .i64, .st [.int .i64, .int .i64, .int .i64, .int .i64], .sl 69 (.st [.int .i64, .int .i64, .int .i64])]), .int .i64]), (58, .st [.int .i64, .st [.sl 3 (.int .i64), .sl 3 (.int .i64)], .int .i64, .int .i64, .sl 128 (.st [.int .i64, .st [.int .i64, .int .i64, .int .i64, .int .i64], .sl 69 (.st [.int .i64, .int .i64, .int .i64])]), .int .i64]), (59, .fn [.st [.int .i64, .st [.sl 3 (.int .i64), .sl 3 (.int .i64)], .int .i64, .int .i64, .sl 183 (.st [.int .i64, .st [.int .i64, .int .i64, .int .i64, .int .i64], .sl 64 (.st [.int .i64, .int .i64, .int .i64])]), .int .i64]] (.st [.int .i64, .st [.sl 3 (.int .i64), .sl 3 (.int .i64)], .int .i64, .int .i64, .sl 128 (.st [.int .i64, .st [.int .i64, .int .i64, .int .i64, .int .i64], .sl 69 (.st [.int .i64, .int .i64, .int .i64])]), .int .i64])), (60, .fn [.st [.int .i64, .st [.sl 3 (.int .i64), .sl 3 (.int .i64)], .int .i64, .int .i64, .sl 183 (.st [.int .i64, .st [.int .i64, .int .i64, .int .i64, .int .i64], .sl 64 (.st [.int .i64, .int .i64, .int .i64])]), .int .i64], .st [.int .i64, .st [.sl 3 (.int .i64), .sl 3 (.int .i64)], .int .i64, .int .i64, .sl 183 (.st [.int .i64, .st [.int .i64, .int .i64, .int .i64, .int .i64], .sl 64 (.st [.int .i64, .int .i64, .int .i64])]), .int .i64]] (.bool)), (63, .st [.int .i64, .int .i64, .int .i64]), (64, .st [.int .i64, .int .i64, .int .i64]), (69, .st [.int .i64, .int .i64, .int .i64]), (70, .fn [.st [.int .i64, .int .i64, .int .i64]] (.st [.int .i64, .int .i64, .int .i64])), (99, .fn [.st [.sl 3 (.int .i64), .sl 3 (.int .i64)], .int .i64] (.int .i64)), (101, .fn [.st [.sl 3 (.int .i64), .sl 3 (.int .i64)]] (.st [.sl 3 (.int .i64), .sl 3 (.int .i64)])), (102, .fn [.st [.sl 3 (.int .i64), .sl 3 (.int .i64)], .st [.sl 3 (.int .i64), .sl 3 (.int .i64)]] (.bool)), (118, .fn [.sl 3 (.int .i64), .sl 3 (.int .i64)] (.bool)), (123, .fn [.sl 183 (.st [.int .i64, .st [.int .i64, .int .i64, .int .i64, .int .i64], .sl 64 (.st [.int .i64, .int .i64, .int .i64])]), .int .i64] (.int .i64)), (124, .st [.int .i64, .int .i64, .int .i64, .int .i64]), (125, .st [.int .i64, .int .i64, .int .i64, .int .i64]), (126, .sl 69 (.st [.int .i64, .int .i64, .int .i64])), (127, .st [.int .i64, .st [.int .i64, .int .i64, .int .i64, .int .i64], .sl 69 (.st [.int .i64, .int .i64, .int .i64])]), (128, .st [.int .i64, .st [.int .i64, .int .i64, .int .i64, .int .i64], .sl 69 (.st [.int .i64, .int .i64, .int .i64])]), (129, .fn [.st [.int .i64, .st [.int .i64, .int .i64, .int .i64, .int .i64], .sl 69 (.st [.int .i64, .int .i64, .int .i64])], .st [.int .i64, .st [.int .i64, .int .i64, .int .i64, .int .i64], .sl 69 (.st [.int .i64, .int .i64, .int .i64])]] (.bool)), (130, .fn [.sl 183 (.st [.int .i64, .st [.int .i64, .int .i64, .int .i64, .int .i64], .sl 64 (.st [.int .i64, .int .i64, .int .i64])])] (.sl 128 (.st [.int .i64, .st [.int .i64, .int .i64, .int .i64, .int .i64], .sl 69 (.st [.int .i64, .int .i64, .int .i64])]))), (131, .fn [.sl 128 (.st [.int .i64, .st [.int .i64, .int .i64, .int .i64, .int .i64], .sl 69 (.st [.int .i64, .int .i64, .int .i64])]), .sl 128 (.st [.int .i64, .st [.int .i64, .int .i64, .int .i64, .int .i64], .sl 69 (.st [.int .i64, .int .i64, .int .i64])])] (.bool)), (132, .fn [.sl 3 (.int .i64), .int .i64] (.int .i64)), (140, .fn [.sl 3 (.int .i64)] (.sl 3 (.int .i64))), (179, .fn [.st [.int .i64, .st [.int .i64, .int .i64, .int .i64, .int .i64], .sl 64 (.st [.int .i64, .int .i64, .int .i64])], .int .i64] (.int .i64)), (180, .st [.int .i64, .int .i64, .int .i64, .int .i64]), (181, .sl 64 (.st [.int .i64, .int .i64, .int .i64])), (182, .st [.int .i64, .st [.int .i64, .int .i64, .int .i64, .int .i64], .sl 64 (.st [.int .i64, .int .i64, .int .i64])]), (183, .st [.int .i64, .st [.int .i64, .int .i64, .int .i64, .int .i64], .sl 64 (.st [.int .i64, .int .i64, .int .i64])]), (184, .fn [.sl 69 (.st [.int .i64, .int .i64, .int .i64]), .sl 69 (.st [.int .i64, .int .i64, .int .i64])] (.bool)), (185, .fn [.st [.int .i64, .st [.int .i64, .int .i64, .int .i64, .int .i64], .sl 64 (.st [.int .i64, .int .i64, .int .i64])]] (.st [.int .i64, .st [.int .i64, .int .i64, .int .i64, .int .i64], .sl 69 (.st [.int .i64, .int .i64, .int .i64])])), (212, .fn [.sl 64 (.st [.int .i64, .int .i64, .int .i64]), .int .i64] (.int .i64)), (213, .fn [.st [.int .i64, .int .i64, .int .i64, .int .i64]] (.st [.int .i64, .int .i64, .int .i64, .int .i64])), (214, .fn [.sl 64 (.st [.int .i64, .int .i64, .int .i64])] (.sl 69 (.st [.int .i64, .int .i64, .int .i64]))), (215, .fn [.st [.int .i64, .int .i64, .int .i64, .int .i64], .st [.int .i64, .int .i64, .int .i64, .int .i64]] (.bool)), (226, .fn [.st [.int .i64, .int .i64, .int .i64], .st [.int .i64, .int .i64, .int .i64]] (.bool))]
theorem tysOk : LkAll (TnOk Try.prog) tys := ⟨tn3, tn4, tn26, tn48, tn49, tn50, tn51, tn52, tn53, tn54, tn55, tn56, tn57, tn58, tn59, tn60, tn63, tn64, tn69, tn70, tn99, tn101, tn102, tn118, tn123, tn124, tn125, tn126, tn127, tn128, tn129, tn130, tn131, tn132, tn140, tn179, tn180, tn181, tn182, tn183, tn184, tn185, tn212, tn213, tn214, tn215, tn226, trivial⟩
def slices_Equal_int_int_L0 : (Int × (Int × ((List Int) × ((List Int) × Unit)))) → Option (Out (Int × (Int × ((List Int) × ((List Int) × Unit)))) ((Bool × (Int × (Int × ((List Int) × ((List Int) × Unit))))) ⊕ Empty) (Bool × Unit)) :=
  (fun v0 => (if (ltZ v0.1 v0.2.1) = true then (Option.bind (getI v0.2.2.1 v0.1) fun v1 => (Option.bind (getI v0.2.2.2.1 v0.1) fun v2 => (if (notB (eqZ v1 v2)) = true then (some (Out.ret (false, ()))) else (some (Out.norm ((addZ .i64 v0.1 1), (v0.2.1, (v0.2.2.1, (v0.2.2.2.1, ()))))))))) else (some (Out.exit (Sum.inl ((ltZ v0.1 v0.2.1), (v0.1, (v0.2.1, (v0.2.2.1, (v0.2.2.2.1, ()))))))))))
def slices_Equal_int_int (x : ((List Int) × ((List Int) × Unit))) (c : Unit) : (Option (Bool × Unit)) :=
  (if (notB (eqZ (lenI x.1) (lenI x.2.1))) = true then (some (false, ())) else (Option.bind (loopN (A := (Int × (Int × ((List Int) × ((List Int) × Unit))))) big slices_Equal_int_int_L0 (0, ((lenI x.1), (x.1, (x.2.1, ()))))) fun v3 => (match v3 with | Out.norm v4 => none | Out.exit v5 => (match ((match v5 with | Sum.inl v8 => (Sum.inl ()) | Sum.inr v9 => (Empty.elim v9)) : (Unit ⊕ Empty)) with | Sum.inl v6 => (some (true, ())) | Sum.inr v7 => none) | Out.ret v10 => (some v10))))
def H_slices_Equal_int_int : Hd := ⟨[.sl 3 (.int .i64), .sl 3 (.int .i64)], [], none, .p, .bool, .p, []⟩
def T_slices_Equal_int_int : FSig := ⟨H_slices_Equal_int_int.ps, H_slices_Equal_int_int.cs, H_slices_Equal_int_int.io, H_slices_Equal_int_int.im, H_slices_Equal_int_int.R, H_slices_Equal_int_int.m, slices_Equal_int_int⟩
theorem E_slices_Equal_int_int : fnOf tys [] Try.f68 H_slices_Equal_int_int = T_slices_Equal_int_int := by kernel_rfl
theorem K_slices_Equal_int_int : SigOk Try.prog 68 T_slices_Equal_int_int := (congrArg (SigOk Try.prog 68) E_slices_Equal_int_int).mp (fnOf_ok rfl tysOk trivial Try.func68 (by decide) rfl (fun _ h => by cases h))
def laws_szIntS (x : ((List Int) × (Int × Unit))) (c : Unit) : (Option (Int × Unit)) :=
  (if (ltZ (subZ .i64 x.2.1 (lenI x.1)) 0) = true then (some ((-1), ())) else (some ((subZ .i64 x.2.1 (lenI x.1)), ())))
def H_laws_szIntS : Hd := ⟨[.sl 3 (.int .i64), .int .i64], [], none, .p, .int .i64, .p, []⟩
def T_laws_szIntS : FSig := ⟨H_laws_szIntS.ps, H_laws_szIntS.cs, H_laws_szIntS.io, H_laws_szIntS.im, H_laws_szIntS.R, H_laws_szIntS.m, laws_szIntS⟩
theorem E_laws_szIntS : fnOf tys [] Try.f80 H_laws_szIntS = T_laws_szIntS := by kernel_rfl
theorem K_laws_szIntS : SigOk Try.prog 80 T_laws_szIntS := (congrArg (SigOk Try.prog 80) E_laws_szIntS).mp (fnOf_ok rfl tysOk trivial Try.func80 (by decide) rfl (fun _ h => by cases h))
def laws_szSchedule (x : (((List Int) × ((List Int) × Unit)) × (Int × Unit))) (c : Unit) : (Option (Int × Unit)) :=
  (Option.bind ((Option.bind (laws_szIntS (x.1.1, (x.2.1, ())) ()) fun v0 => (some v0.1)) : (Option Int)) fun v1 => (if (ltZ v1 0) = true then (some ((-1), ())) else (Option.bind ((Option.bind (laws_szIntS (x.1.2.1, (v1, ())) ()) fun v2 => (some v2.1)) : (Option Int)) fun v3 => (if (ltZ v3 0) = true then (some ((-1), ())) else (some (v3, ()))))))
def H_laws_szSchedule : Hd := ⟨[.st [.sl 3 (.int .i64), .sl 3 (.int .i64)], .int .i64], [], none, .p, .int .i64, .p, []⟩
def T_laws_szSchedule : FSig := ⟨H_laws_szSchedule.ps, H_laws_szSchedule.cs, H_laws_szSchedule.io, H_laws_szSchedule.im, H_laws_szSchedule.R, H_laws_szSchedule.m, laws_szSchedule⟩
theorem E_laws_szSchedule : fnOf tys [(80, T_laws_szIntS)] Try.f51 H_laws_szSchedule = T_laws_szSchedule := by kernel_rfl
theorem K_laws_szSchedule : SigOk Try.prog 51 T_laws_szSchedule := (congrArg (SigOk Try.prog 51) E_laws_szSchedule).mp (fnOf_ok rfl tysOk ⟨K_laws_szIntS, trivial⟩ Try.func51 (by decide) rfl (fun _ h => by cases h))
def laws_szLiteralS (x : ((List (Int × (Int × (Int × Unit)))) × (Int × Unit))) (c : Unit) : (Option (Int × Unit)) :=
  (if (ltZ (subZ .i64 x.2.1 (lenI x.1)) 0) = true then (some ((-1), ())) else (some ((subZ .i64 x.2.1 (lenI x.1)), ())))
def H_laws_szLiteralS : Hd := ⟨[.sl 64 (.st [.int .i64, .int .i64, .int .i64]), .int .i64], [], none, .p, .int .i64, .p, []⟩
def T_laws_szLiteralS : FSig := ⟨H_laws_szLiteralS.ps, H_laws_szLiteralS.cs, H_laws_szLiteralS.io, H_laws_szLiteralS.im, H_laws_szLiteralS.R, H_laws_szLiteralS.m, laws_szLiteralS⟩
theorem E_laws_szLiteralS : fnOf tys [] Try.f187 H_laws_szLiteralS = T_laws_szLiteralS := by kernel_rfl
theorem K_laws_szLiteralS : SigOk Try.prog 187 T_laws_szLiteralS := (congrArg (SigOk Try.prog 187) E_laws_szLiteralS).mp (fnOf_ok rfl tysOk trivial Try.func187 (by decide) rfl (fun _ h => by cases h))
def laws_szLine (x : ((Int × ((Int × (Int × (Int × (Int × Unit)))) × ((List (Int × (Int × (Int × Unit)))) × Unit))) × (Int × Unit))) (c : Unit) : (Option (Int × Unit)) :=
  (Option.bind ((Option.bind (laws_szLiteralS (x.1.2.2.1, (x.2.1, ())) ()) fun v0 => (some v0.1)) : (Option Int)) fun v1 => (if (ltZ v1 0) = true then (some ((-1), ())) else (some (v1, ()))))
def H_laws_szLine : Hd := ⟨[.st [.int .i64, .st [.int .i64, .int .i64, .int .i64, .int .i64], .sl 64 (.st [.int .i64, .int .i64, .int .i64])], .int .i64], [], none, .p, .int .i64, .p, []⟩
def T_laws_szLine : FSig := ⟨H_laws_szLine.ps, H_laws_szLine.cs, H_laws_szLine.io, H_laws_szLine.im, H_laws_szLine.R, H_laws_szLine.m, laws_szLine⟩
theorem E_laws_szLine : fnOf tys [(187, T_laws_szLiteralS)] Try.f147 H_laws_szLine = T_laws_szLine := by kernel_rfl
theorem K_laws_szLine : SigOk Try.prog 147 T_laws_szLine := (congrArg (SigOk Try.prog 147) E_laws_szLine).mp (fnOf_ok rfl tysOk ⟨K_laws_szLiteralS, trivial⟩ Try.func147 (by decide) rfl (fun _ h => by cases h))
def laws_szLineS_L0 : (Int × ((List (Int × ((Int × (Int × (Int × (Int × Unit)))) × ((List (Int × (Int × (Int × Unit)))) × Unit)))) × (Int × Unit))) → Option (Out (Int × ((List (Int × ((Int × (Int × (Int × (Int × Unit)))) × ((List (Int × (Int × (Int × Unit)))) × Unit)))) × (Int × Unit))) ((Bool × (Int × ((List (Int × ((Int × (Int × (Int × (Int × Unit)))) × ((List (Int × (Int × (Int × Unit)))) × Unit)))) × (Int × Unit)))) ⊕ Empty) (Int × Unit)) :=
  (fun v0 => (if (ltZ v0.1 (lenI v0.2.1)) = true then (Option.bind (getI v0.2.1 v0.1) fun v1 => (Option.bind ((Option.bind (laws_szLine (v1, (v0.2.2.1, ())) ()) fun v2 => (some v2.1)) : (Option Int)) fun v3 => (if (ltZ v3 0) = true then (some (Out.ret ((-1), ()))) else (some (Out.norm ((addZ .i64 v0.1 1), (v0.2.1, (v3, ())))))))) else (some (Out.exit (Sum.inl ((ltZ v0.1 (lenI v0.2.1)), (v0.1, (v0.2.1, (v0.2.2.1, ())))))))))
def laws_szLineS (x : ((List (Int × ((Int × (Int × (Int × (Int × Unit)))) × ((List (Int × (Int × (Int × Unit)))) × Unit)))) × (Int × Unit))) (c : Unit) : (Option (Int × Unit)) :=
  (if (ltZ (subZ .i64 x.2.1 (lenI x.1)) 0) = true then (some ((-1), ())) else (Option.bind (loopN (A := (Int × ((List (Int × ((Int × (Int × (Int × (Int × Unit)))) × ((List (Int × (Int × (Int × Unit)))) × Unit)))) × (Int × Unit)))) big laws_szLineS_L0 (0, (x.1, ((subZ .i64 x.2.1 (lenI x.1)), ())))) fun v4 => (match v4 with | Out.norm v5 => none | Out.exit v6 => (match ((match v6 with | Sum.inl v9 => (Sum.inl (v9.2.2.2.1, ())) | Sum.inr v10 => (Empty.elim v10)) : ((Int × Unit) ⊕ Empty)) with | Sum.inl v7 => (some (v7.1, ())) | Sum.inr v8 => none) | Out.ret v11 => (some v11))))
def H_laws_szLineS : Hd := ⟨[.sl 183 (.st [.int .i64, .st [.int .i64, .int .i64, .int .i64, .int .i64], .sl 64 (.st [.int .i64, .int .i64, .int .i64])]), .int .i64], [], none, .p, .int .i64, .p, []⟩
def T_laws_szLineS : FSig := ⟨H_laws_szLineS.ps, H_laws_szLineS.cs, H_laws_szLineS.io, H_laws_szLineS.im, H_laws_szLineS.R, H_laws_szLineS.m, laws_szLineS⟩
theorem E_laws_szLineS : fnOf tys [(147, T_laws_szLine)] Try.f73 H_laws_szLineS = T_laws_szLineS := by kernel_rfl
theorem K_laws_szLineS : SigOk Try.prog 73 T_laws_szLineS := (congrArg (SigOk Try.prog 73) E_laws_szLineS).mp (fnOf_ok rfl tysOk ⟨K_laws_szLine, trivial⟩ Try.func73 (by decide) rfl (fun _ h => by cases h))
def laws_szResult (x : ((Int × (((List Int) × ((List Int) × Unit)) × (Int × (Int × ((List (Int × ((Int × (Int × (Int × (Int × Unit)))) × ((List (Int × (Int × (Int × Unit)))) × Unit)))) × (Int × Unit)))))) × (Int × Unit))) (c : Unit) : (Option (Int × Unit)) :=
  (Option.bind ((Option.bind (laws_szSchedule (x.1.2.1, (x.2.1, ())) ()) fun v0 => (some v0.1)) : (Option Int)) fun v1 => (if (ltZ v1 0) = true then (some ((-1), ())) else (Option.bind ((Option.bind (laws_szLineS (x.1.2.2.2.2.1, (v1, ())) ()) fun v2 => (some v2.1)) : (Option Int)) fun v3 => (if (ltZ v3 0) = true then (some ((-1), ())) else (some (v3, ()))))))
def H_laws_szResult : Hd := ⟨[.st [.int .i64, .st [.sl 3 (.int .i64), .sl 3 (.int .i64)], .int .i64, .int .i64, .sl 183 (.st [.int .i64, .st [.int .i64, .int .i64, .int .i64, .int .i64], .sl 64 (.st [.int .i64, .int .i64, .int .i64])]), .int .i64], .int .i64], [], none, .p, .int .i64, .p, []⟩
def T_laws_szResult : FSig := ⟨H_laws_szResult.ps, H_laws_szResult.cs, H_laws_szResult.io, H_laws_szResult.im, H_laws_szResult.R, H_laws_szResult.m, laws_szResult⟩
theorem E_laws_szResult : fnOf tys [(51, T_laws_szSchedule), (73, T_laws_szLineS)] Try.f18 H_laws_szResult = T_laws_szResult := by kernel_rfl
theorem K_laws_szResult : SigOk Try.prog 18 T_laws_szResult := (congrArg (SigOk Try.prog 18) E_laws_szResult).mp (fnOf_ok rfl tysOk ⟨K_laws_szSchedule, K_laws_szLineS, trivial⟩ Try.func18 (by decide) rfl (fun _ h => by cases h))
def spec_SetEqual_L0 : (Int × (Int × ((List Int) × ((List Int) × Unit)))) → Option (Out (Int × (Int × ((List Int) × ((List Int) × Unit)))) ((Bool × (Int × (Int × ((List Int) × ((List Int) × Unit))))) ⊕ Empty) (Bool × Unit)) :=
  (fun v0 => (if (ltZ v0.1 v0.2.1) = true then (Option.bind (getI v0.2.2.1 v0.1) fun v1 => (Option.bind (getI v0.2.2.2.1 v0.1) fun v2 => (if (notB (eqZ v1 v2)) = true then (some (Out.ret (false, ()))) else (some (Out.norm ((addZ .i64 v0.1 1), (v0.2.1, (v0.2.2.1, (v0.2.2.2.1, ()))))))))) else (some (Out.exit (Sum.inl ((ltZ v0.1 v0.2.1), (v0.1, (v0.2.1, (v0.2.2.1, (v0.2.2.2.1, ()))))))))))
def spec_SetEqual (x : ((List Int) × ((List Int) × Unit))) (c : Unit) : (Option (Bool × Unit)) :=
  (if (notB (eqZ (lenI x.1) (lenI x.2.1))) = true then (some (false, ())) else (Option.bind (loopN (A := (Int × (Int × ((List Int) × ((List Int) × Unit))))) big spec_SetEqual_L0 (0, ((lenI x.1), (x.1, (x.2.1, ()))))) fun v3 => (match v3 with | Out.norm v4 => none | Out.exit v5 => (match ((match v5 with | Sum.inl v8 => (Sum.inl ()) | Sum.inr v9 => (Empty.elim v9)) : (Unit ⊕ Empty)) with | Sum.inl v6 => (some (true, ())) | Sum.inr v7 => none) | Out.ret v10 => (some v10))))
def H_spec_SetEqual : Hd := ⟨[.sl 3 (.int .i64), .sl 3 (.int .i64)], [], none, .p, .bool, .p, []⟩
def T_spec_SetEqual : FSig := ⟨H_spec_SetEqual.ps, H_spec_SetEqual.cs, H_spec_SetEqual.io, H_spec_SetEqual.im, H_spec_SetEqual.R, H_spec_SetEqual.m, spec_SetEqual⟩
theorem E_spec_SetEqual : fnOf tys [] Try.f148 H_spec_SetEqual = T_spec_SetEqual := by kernel_rfl
theorem K_spec_SetEqual : SigOk Try.prog 148 T_spec_SetEqual := (congrArg (SigOk Try.prog 148) E_spec_SetEqual).mp (fnOf_ok rfl tysOk trivial Try.func148 (by decide) rfl (fun _ h => by cases h))
def spec_ScheduleEqual (x : (((List Int) × ((List Int) × Unit)) × (((List Int) × ((List Int) × Unit)) × Unit))) (c : Unit) : (Option (Bool × Unit)) :=
  (Option.bind ((Option.bind (spec_SetEqual (x.1.1, (x.2.1.1, ())) ()) fun v0 => (some v0.1)) : (Option Bool)) fun v1 => (Option.bind ((if v1 = true then (Option.bind ((Option.bind (spec_SetEqual (x.1.2.1, (x.2.1.2.1, ())) ()) fun v2 => (some v2.1)) : (Option Bool)) fun v3 => (some (v3, ()))) else (some (false, ()))) : (Option (Bool × Unit))) fun v4 => (some (v4.1, ()))))
def H_spec_ScheduleEqual : Hd := ⟨[.st [.sl 3 (.int .i64), .sl 3 (.int .i64)], .st [.sl 3 (.int .i64), .sl 3 (.int .i64)]], [], none, .p, .bool, .p, []⟩
def T_spec_ScheduleEqual : FSig := ⟨H_spec_ScheduleEqual.ps, H_spec_ScheduleEqual.cs, H_spec_ScheduleEqual.io, H_spec_ScheduleEqual.im, H_spec_ScheduleEqual.R, H_spec_ScheduleEqual.m, spec_ScheduleEqual⟩
theorem E_spec_ScheduleEqual : fnOf tys [(148, T_spec_SetEqual)] Try.f74 H_spec_ScheduleEqual = T_spec_ScheduleEqual := by kernel_rfl
theorem K_spec_ScheduleEqual : SigOk Try.prog 74 T_spec_ScheduleEqual := (congrArg (SigOk Try.prog 74) E_spec_ScheduleEqual).mp (fnOf_ok rfl tysOk ⟨K_spec_SetEqual, trivial⟩ Try.func74 (by decide) rfl (fun _ h => by cases h))
def spec_ClauseEqual_L0 : (Int × (Int × ((List (Int × (Int × (Int × Unit)))) × ((List (Int × (Int × (Int × Unit)))) × Unit)))) → Option (Out (Int × (Int × ((List (Int × (Int × (Int × Unit)))) × ((List (Int × (Int × (Int × Unit)))) × Unit)))) ((Bool × (Int × (Int × ((List (Int × (Int × (Int × Unit)))) × ((List (Int × (Int × (Int × Unit)))) × Unit))))) ⊕ Empty) (Bool × Unit)) :=
  (fun v0 => (if (ltZ v0.1 v0.2.1) = true then (Option.bind (getI v0.2.2.1 v0.1) fun v1 => (Option.bind (getI v0.2.2.2.1 v0.1) fun v2 => (if (notB (iteB (eqZ v1.1 v2.1) (iteB (eqZ v1.2.1 v2.2.1) (eqZ v1.2.2.1 v2.2.2.1) false) false)) = true then (some (Out.ret (false, ()))) else (some (Out.norm ((addZ .i64 v0.1 1), (v0.2.1, (v0.2.2.1, (v0.2.2.2.1, ()))))))))) else (some (Out.exit (Sum.inl ((ltZ v0.1 v0.2.1), (v0.1, (v0.2.1, (v0.2.2.1, (v0.2.2.2.1, ()))))))))))
def spec_ClauseEqual (x : ((List (Int × (Int × (Int × Unit)))) × ((List (Int × (Int × (Int × Unit)))) × Unit))) (c : Unit) : (Option (Bool × Unit)) :=
  (if (notB (eqZ (lenI x.1) (lenI x.2.1))) = true then (some (false, ())) else (Option.bind (loopN (A := (Int × (Int × ((List (Int × (Int × (Int × Unit)))) × ((List (Int × (Int × (Int × Unit)))) × Unit))))) big spec_ClauseEqual_L0 (0, ((lenI x.1), (x.1, (x.2.1, ()))))) fun v3 => (match v3 with | Out.norm v4 => none | Out.exit v5 => (match ((match v5 with | Sum.inl v8 => (Sum.inl ()) | Sum.inr v9 => (Empty.elim v9)) : (Unit ⊕ Empty)) with | Sum.inl v6 => (some (true, ())) | Sum.inr v7 => none) | Out.ret v10 => (some v10))))
def H_spec_ClauseEqual : Hd := ⟨[.sl 69 (.st [.int .i64, .int .i64, .int .i64]), .sl 69 (.st [.int .i64, .int .i64, .int .i64])], [], none, .p, .bool, .p, []⟩
def T_spec_ClauseEqual : FSig := ⟨H_spec_ClauseEqual.ps, H_spec_ClauseEqual.cs, H_spec_ClauseEqual.io, H_spec_ClauseEqual.im, H_spec_ClauseEqual.R, H_spec_ClauseEqual.m, spec_ClauseEqual⟩
theorem E_spec_ClauseEqual : fnOf tys [] Try.f149 H_spec_ClauseEqual = T_spec_ClauseEqual := by kernel_rfl
theorem K_spec_ClauseEqual : SigOk Try.prog 149 T_spec_ClauseEqual := (congrArg (SigOk Try.prog 149) E_spec_ClauseEqual).mp (fnOf_ok rfl tysOk trivial Try.func149 (by decide) rfl (fun _ h => by cases h))
def spec_LineEqual (x : ((Int × ((Int × (Int × (Int × (Int × Unit)))) × ((List (Int × (Int × (Int × Unit)))) × Unit))) × ((Int × ((Int × (Int × (Int × (Int × Unit)))) × ((List (Int × (Int × (Int × Unit)))) × Unit))) × Unit))) (c : Unit) : (Option (Bool × Unit)) :=
  (Option.bind ((if (eqZ x.1.1 x.2.1.1) = true then (Option.bind ((if (iteB (eqZ x.1.2.1.1 x.2.1.2.1.1) (iteB (eqZ x.1.2.1.2.1 x.2.1.2.1.2.1) (iteB (eqZ x.1.2.1.2.2.1 x.2.1.2.1.2.2.1) (eqZ x.1.2.1.2.2.2.1 x.2.1.2.1.2.2.2.1) false) false) false) = true then (Option.bind ((Option.bind (spec_ClauseEqual (x.1.2.2.1, (x.2.1.2.2.1, ())) ()) fun v0 => (some v0.1)) : (Option Bool)) fun v1 => (some (v1, ()))) else (some (false, ()))) : (Option (Bool × Unit))) fun v2 => (some (v2.1, ()))) else (some (false, ()))) : (Option (Bool × Unit))) fun v3 => (some (v3.1, ())))
def H_spec_LineEqual : Hd := ⟨[.st [.int .i64, .st [.int .i64, .int .i64, .int .i64, .int .i64], .sl 69 (.st [.int .i64, .int .i64, .int .i64])], .st [.int .i64, .st [.int .i64, .int .i64, .int .i64, .int .i64], .sl 69 (.st [.int .i64, .int .i64, .int .i64])]], [], none, .p, .bool, .p, []⟩
def T_spec_LineEqual : FSig := ⟨H_spec_LineEqual.ps, H_spec_LineEqual.cs, H_spec_LineEqual.io, H_spec_LineEqual.im, H_spec_LineEqual.R, H_spec_LineEqual.m, spec_LineEqual⟩
theorem E_spec_LineEqual : fnOf tys [(149, T_spec_ClauseEqual)] Try.f75 H_spec_LineEqual = T_spec_LineEqual := by kernel_rfl
theorem K_spec_LineEqual : SigOk Try.prog 75 T_spec_LineEqual := (congrArg (SigOk Try.prog 75) E_spec_LineEqual).mp (fnOf_ok rfl tysOk ⟨K_spec_ClauseEqual, trivial⟩ Try.func75 (by decide) rfl (fun _ h => by cases h))
def spec_ResultEqual_L0 : (Int × (Int × ((List (Int × ((Int × (Int × (Int × (Int × Unit)))) × ((List (Int × (Int × (Int × Unit)))) × Unit)))) × ((Int × (((List Int) × ((List Int) × Unit)) × (Int × (Int × ((List (Int × ((Int × (Int × (Int × (Int × Unit)))) × ((List (Int × (Int × (Int × Unit)))) × Unit)))) × (Int × Unit)))))) × Unit)))) → Option (Out (Int × (Int × ((List (Int × ((Int × (Int × (Int × (Int × Unit)))) × ((List (Int × (Int × (Int × Unit)))) × Unit)))) × ((Int × (((List Int) × ((List Int) × Unit)) × (Int × (Int × ((List (Int × ((Int × (Int × (Int × (Int × Unit)))) × ((List (Int × (Int × (Int × Unit)))) × Unit)))) × (Int × Unit)))))) × Unit)))) ((Bool × (Int × (Int × ((List (Int × ((Int × (Int × (Int × (Int × Unit)))) × ((List (Int × (Int × (Int × Unit)))) × Unit)))) × ((Int × (((List Int) × ((List Int) × Unit)) × (Int × (Int × ((List (Int × ((Int × (Int × (Int × (Int × Unit)))) × ((List (Int × (Int × (Int × Unit)))) × Unit)))) × (Int × Unit)))))) × Unit))))) ⊕ Empty) (Bool × Unit)) :=
  (fun v7 => (if (ltZ v7.1 v7.2.1) = true then (Option.bind (getI v7.2.2.1 v7.1) fun v8 => (Option.bind (getI v7.2.2.2.1.2.2.2.2.1 v7.1) fun v9 => (Option.bind ((Option.bind (spec_LineEqual (v8, (v9, ())) ()) fun v10 => (some v10.1)) : (Option Bool)) fun v11 => (if (notB v11) = true then (some (Out.ret (false, ()))) else (some (Out.norm ((addZ .i64 v7.1 1), (v7.2.1, (v7.2.2.1, (v7.2.2.2.1, ())))))))))) else (some (Out.exit (Sum.inl ((ltZ v7.1 v7.2.1), (v7.1, (v7.2.1, (v7.2.2.1, (v7.2.2.2.1, ()))))))))))
def spec_ResultEqual (x : ((Int × (((List Int) × ((List Int) × Unit)) × (Int × (Int × ((List (Int × ((Int × (Int × (Int × (Int × Unit)))) × ((List (Int × (Int × (Int × Unit)))) × Unit)))) × (Int × Unit)))))) × ((Int × (((List Int) × ((List Int) × Unit)) × (Int × (Int × ((List (Int × ((Int × (Int × (Int × (Int × Unit)))) × ((List (Int × (Int × (Int × Unit)))) × Unit)))) × (Int × Unit)))))) × Unit))) (c : Unit) : (Option (Bool × Unit)) :=
  (Option.bind ((if (notB (eqZ x.1.1 x.2.1.1)) = true then (some (true, (x.1, (x.2.1, ())))) else (Option.bind ((Option.bind (spec_ScheduleEqual (x.1.2.1, (x.2.1.2.1, ())) ()) fun v0 => (some v0.1)) : (Option Bool)) fun v1 => (Option.bind ((if (notB v1) = true then (some (true, (x.1, (x.2.1, ())))) else (Option.bind ((if (notB (eqZ x.1.2.2.1 x.2.1.2.2.1)) = true then (some (true, (x.1, (x.2.1, ())))) else (Option.bind ((if (notB (eqZ x.1.2.2.2.1 x.2.1.2.2.2.1)) = true then (some (true, (x.1, (x.2.1, ())))) else (Option.bind ((if (notB (eqZ x.1.2.2.2.2.2.1 x.2.1.2.2.2.2.2.1)) = true then (some (true, (x.1, (x.2.1, ())))) else (some ((notB (eqZ (lenI x.1.2.2.2.2.1) (lenI x.2.1.2.2.2.2.1))), (x.1, (x.2.1, ()))))) : (Option (Bool × ((Int × (((List Int) × ((List Int) × Unit)) × (Int × (Int × ((List (Int × ((Int × (Int × (Int × (Int × Unit)))) × ((List (Int × (Int × (Int × Unit)))) × Unit)))) × (Int × Unit)))))) × ((Int × (((List Int) × ((List Int) × Unit)) × (Int × (Int × ((List (Int × ((Int × (Int × (Int × (Int × Unit)))) × ((List (Int × (Int × (Int × Unit)))) × Unit)))) × (Int × Unit)))))) × Unit))))) fun v2 => (some (v2.1, (v2.2.1, (v2.2.2.1, ())))))) : (Option (Bool × ((Int × (((List Int) × ((List Int) × Unit)) × (Int × (Int × ((List (Int × ((Int × (Int × (Int × (Int × Unit)))) × ((List (Int × (Int × (Int × Unit)))) × Unit)))) × (Int × Unit)))))) × ((Int × (((List Int) × ((List Int) × Unit)) × (Int × (Int × ((List (Int × ((Int × (Int × (Int × (Int × Unit)))) × ((List (Int × (Int × (Int × Unit)))) × Unit)))) × (Int × Unit)))))) × Unit))))) fun v3 => (some (v3.1, (v3.2.1, (v3.2.2.1, ())))))) : (Option (Bool × ((Int × (((List Int) × ((List Int) × Unit)) × (Int × (Int × ((List (Int × ((Int × (Int × (Int × (Int × Unit)))) × ((List (Int × (Int × (Int × Unit)))) × Unit)))) × (Int × Unit)))))) × ((Int × (((List Int) × ((List Int) × Unit)) × (Int × (Int × ((List (Int × ((Int × (Int × (Int × (Int × Unit)))) × ((List (Int × (Int × (Int × Unit)))) × Unit)))) × (Int × Unit)))))) × Unit))))) fun v4 => (some (v4.1, (v4.2.1, (v4.2.2.1, ())))))) : (Option (Bool × ((Int × (((List Int) × ((List Int) × Unit)) × (Int × (Int × ((List (Int × ((Int × (Int × (Int × (Int × Unit)))) × ((List (Int × (Int × (Int × Unit)))) × Unit)))) × (Int × Unit)))))) × ((Int × (((List Int) × ((List Int) × Unit)) × (Int × (Int × ((List (Int × ((Int × (Int × (Int × (Int × Unit)))) × ((List (Int × (Int × (Int × Unit)))) × Unit)))) × (Int × Unit)))))) × Unit))))) fun v5 => (some (v5.1, (v5.2.1, (v5.2.2.1, ()))))))) : (Option (Bool × ((Int × (((List Int) × ((List Int) × Unit)) × (Int × (Int × ((List (Int × ((Int × (Int × (Int × (Int × Unit)))) × ((List (Int × (Int × (Int × Unit)))) × Unit)))) × (Int × Unit)))))) × ((Int × (((List Int) × ((List Int) × Unit)) × (Int × (Int × ((List (Int × ((Int × (Int × (Int × (Int × Unit)))) × ((List (Int × (Int × (Int × Unit)))) × Unit)))) × (Int × Unit)))))) × Unit))))) fun v6 => (if v6.1 = true then (some (false, ())) else (Option.bind (loopN (A := (Int × (Int × ((List (Int × ((Int × (Int × (Int × (Int × Unit)))) × ((List (Int × (Int × (Int × Unit)))) × Unit)))) × ((Int × (((List Int) × ((List Int) × Unit)) × (Int × (Int × ((List (Int × ((Int × (Int × (Int × (Int × Unit)))) × ((List (Int × (Int × (Int × Unit)))) × Unit)))) × (Int × Unit)))))) × Unit))))) big spec_ResultEqual_L0 (0, ((lenI v6.2.1.2.2.2.2.1), (v6.2.1.2.2.2.2.1, (v6.2.2.1, ()))))) fun v12 => (match v12 with | Out.norm v13 => none | Out.exit v14 => (match ((match v14 with | Sum.inl v17 => (Sum.inl ()) | Sum.inr v18 => (Empty.elim v18)) : (Unit ⊕ Empty)) with | Sum.inl v15 => (some (true, ())) | Sum.inr v16 => none) | Out.ret v19 => (some v19)))))
def H_spec_ResultEqual : Hd := ⟨[.st [.int .i64, .st [.sl 3 (.int .i64), .sl 3 (.int .i64)], .int .i64, .int .i64, .sl 128 (.st [.int .i64, .st [.int .i64, .int .i64, .int .i64, .int .i64], .sl 69 (.st [.int .i64, .int .i64, .int .i64])]), .int .i64], .st [.int .i64, .st [.sl 3 (.int .i64), .sl 3 (.int .i64)], .int .i64, .int .i64, .sl 128 (.st [.int .i64, .st [.int .i64, .int .i64, .int .i64, .int .i64], .sl 69 (.st [.int .i64, .int .i64, .int .i64])]), .int .i64]], [], none, .p, .bool, .p, []⟩
def T_spec_ResultEqual : FSig := ⟨H_spec_ResultEqual.ps, H_spec_ResultEqual.cs, H_spec_ResultEqual.io, H_spec_ResultEqual.im, H_spec_ResultEqual.R, H_spec_ResultEqual.m, spec_ResultEqual⟩
theorem E_spec_ResultEqual : fnOf tys [(74, T_spec_ScheduleEqual), (75, T_spec_LineEqual)] Try.f19 H_spec_ResultEqual = T_spec_ResultEqual := by kernel_rfl
theorem K_spec_ResultEqual : SigOk Try.prog 19 T_spec_ResultEqual := (congrArg (SigOk Try.prog 19) E_spec_ResultEqual).mp (fnOf_ok rfl tysOk ⟨K_spec_ScheduleEqual, K_spec_LineEqual, trivial⟩ Try.func19 (by decide) rfl (fun _ h => by cases h))
def laws_toIntS_L0 : (Int × ((List Int) × ((List Int) × Unit))) → Option (Out (Int × ((List Int) × ((List Int) × Unit))) ((Bool × (Int × ((List Int) × ((List Int) × Unit)))) ⊕ Empty) ((List Int) × Unit)) :=
  (fun v1 => (if (ltZ v1.1 (lenI v1.2.1)) = true then (Option.bind (getI v1.2.1 v1.1) fun v2 => (Option.bind ((Option.bind (getI v1.2.2.1 v1.1) fun v3 => (some ())) : (Option Unit)) fun v4 => (Option.bind ((Option.bind ((Option.bind (getI v1.2.2.1 v1.1) fun v5 => (some v5)) : (Option Int)) fun v6 => (some v2)) : (Option Int)) fun v7 => (some (Out.norm ((addZ .i64 v1.1 1), (v1.2.1, ((setI v1.2.2.1 v1.1 (fun v8 => v7)), ())))))))) else (some (Out.exit (Sum.inl ((ltZ v1.1 (lenI v1.2.1)), (v1.1, (v1.2.1, (v1.2.2.1, ())))))))))
def laws_toIntS (x : ((List Int) × Unit)) (c : Unit) : (Option ((List Int) × Unit)) :=
  (Option.bind ((if (eqZ (lenI x.1) (lenI x.1)) = true then (zerosI (lenI x.1) 0) else none) : (Option (List Int))) fun v0 => (Option.bind (loopN (A := (Int × ((List Int) × ((List Int) × Unit)))) big laws_toIntS_L0 (0, (x.1, (v0, ())))) fun v9 => (match v9 with | Out.norm v10 => none | Out.exit v11 => (match ((match v11 with | Sum.inl v14 => (Sum.inl (v14.2.2.2.1, ())) | Sum.inr v15 => (Empty.elim v15)) : (((List Int) × Unit) ⊕ Empty)) with | Sum.inl v12 => (some (v12.1, ())) | Sum.inr v13 => none) | Out.ret v16 => (some v16))))
def H_laws_toIntS : Hd := ⟨[.sl 3 (.int .i64)], [], none, .p, .sl 3 (.int .i64), (Ty.all (.sl 3 (.int .i64))), []⟩
def T_laws_toIntS : FSig := ⟨H_laws_toIntS.ps, H_laws_toIntS.cs, H_laws_toIntS.io, H_laws_toIntS.im, H_laws_toIntS.R, H_laws_toIntS.m, laws_toIntS⟩
theorem E_laws_toIntS : fnOf tys [] Try.f89 H_laws_toIntS = T_laws_toIntS := by kernel_rfl
theorem K_laws_toIntS : SigOk Try.prog 89 T_laws_toIntS := (congrArg (SigOk Try.prog 89) E_laws_toIntS).mp (fnOf_ok rfl tysOk trivial Try.func89 (by decide) rfl (fun _ h => by cases h))
def laws_toSchedule (x : (((List Int) × ((List Int) × Unit)) × Unit)) (c : Unit) : (Option (((List Int) × ((List Int) × Unit)) × Unit)) :=
  (Option.bind ((Option.bind (laws_toIntS (x.1.1, ()) ()) fun v0 => (some v0.1)) : (Option (List Int))) fun v1 => (Option.bind ((Option.bind (laws_toIntS (x.1.2.1, ()) ()) fun v2 => (some v2.1)) : (Option (List Int))) fun v3 => (some ((v1, (v3, ())), ()))))
def H_laws_toSchedule : Hd := ⟨[.st [.sl 3 (.int .i64), .sl 3 (.int .i64)]], [], none, .p, .st [.sl 3 (.int .i64), .sl 3 (.int .i64)], (Ty.all (.st [.sl 3 (.int .i64), .sl 3 (.int .i64)])), []⟩
def T_laws_toSchedule : FSig := ⟨H_laws_toSchedule.ps, H_laws_toSchedule.cs, H_laws_toSchedule.io, H_laws_toSchedule.im, H_laws_toSchedule.R, H_laws_toSchedule.m, laws_toSchedule⟩
theorem E_laws_toSchedule : fnOf tys [(89, T_laws_toIntS)] Try.f53 H_laws_toSchedule = T_laws_toSchedule := by kernel_rfl
theorem K_laws_toSchedule : SigOk Try.prog 53 T_laws_toSchedule := (congrArg (SigOk Try.prog 53) E_laws_toSchedule).mp (fnOf_ok rfl tysOk ⟨K_laws_toIntS, trivial⟩ Try.func53 (by decide) rfl (fun _ h => by cases h))
def laws_toRule (x : ((Int × (Int × (Int × (Int × Unit)))) × Unit)) (c : Unit) : (Option ((Int × (Int × (Int × (Int × Unit)))) × Unit)) :=
  (some ((x.1.1, (x.1.2.1, (x.1.2.2.1, (x.1.2.2.2.1, ())))), ()))
def H_laws_toRule : Hd := ⟨[.st [.int .i64, .int .i64, .int .i64, .int .i64]], [], none, .p, .st [.int .i64, .int .i64, .int .i64, .int .i64], .p, []⟩
def T_laws_toRule : FSig := ⟨H_laws_toRule.ps, H_laws_toRule.cs, H_laws_toRule.io, H_laws_toRule.im, H_laws_toRule.R, H_laws_toRule.m, laws_toRule⟩
theorem E_laws_toRule : fnOf tys [] Try.f188 H_laws_toRule = T_laws_toRule := by kernel_rfl
theorem K_laws_toRule : SigOk Try.prog 188 T_laws_toRule := (congrArg (SigOk Try.prog 188) E_laws_toRule).mp (fnOf_ok rfl tysOk trivial Try.func188 (by decide) rfl (fun _ h => by cases h))
def laws_toLiteral (x : ((Int × (Int × (Int × Unit))) × Unit)) (c : Unit) : (Option ((Int × (Int × (Int × Unit))) × Unit)) :=
  (some ((x.1.1, (x.1.2.1, (x.1.2.2.1, ()))), ()))
def H_laws_toLiteral : Hd := ⟨[.st [.int .i64, .int .i64, .int .i64]], [], none, .p, .st [.int .i64, .int .i64, .int .i64], .p, []⟩
def T_laws_toLiteral : FSig := ⟨H_laws_toLiteral.ps, H_laws_toLiteral.cs, H_laws_toLiteral.io, H_laws_toLiteral.im, H_laws_toLiteral.R, H_laws_toLiteral.m, laws_toLiteral⟩
theorem E_laws_toLiteral : fnOf tys [] Try.f26 H_laws_toLiteral = T_laws_toLiteral := by kernel_rfl
theorem K_laws_toLiteral : SigOk Try.prog 26 T_laws_toLiteral := (congrArg (SigOk Try.prog 26) E_laws_toLiteral).mp (fnOf_ok rfl tysOk trivial Try.func26 (by decide) rfl (fun _ h => by cases h))
def laws_toLiteralS_L0 : (Int × ((List (Int × (Int × (Int × Unit)))) × ((List (Int × (Int × (Int × Unit)))) × Unit))) → Option (Out (Int × ((List (Int × (Int × (Int × Unit)))) × ((List (Int × (Int × (Int × Unit)))) × Unit))) ((Bool × (Int × ((List (Int × (Int × (Int × Unit)))) × ((List (Int × (Int × (Int × Unit)))) × Unit)))) ⊕ Empty) ((List (Int × (Int × (Int × Unit)))) × Unit)) :=
  (fun v1 => (if (ltZ v1.1 (lenI v1.2.1)) = true then (Option.bind (getI v1.2.1 v1.1) fun v2 => (Option.bind ((Option.bind (laws_toLiteral (v2, ()) ()) fun v3 => (some v3.1)) : (Option (Int × (Int × (Int × Unit))))) fun v4 => (Option.bind ((Option.bind (getI v1.2.2.1 v1.1) fun v5 => (some ())) : (Option Unit)) fun v6 => (Option.bind ((Option.bind ((Option.bind (getI v1.2.2.1 v1.1) fun v7 => (some v7)) : (Option (Int × (Int × (Int × Unit))))) fun v8 => (some v4)) : (Option (Int × (Int × (Int × Unit))))) fun v9 => (some (Out.norm ((addZ .i64 v1.1 1), (v1.2.1, ((setI v1.2.2.1 v1.1 (fun v10 => v9)), ()))))))))) else (some (Out.exit (Sum.inl ((ltZ v1.1 (lenI v1.2.1)), (v1.1, (v1.2.1, (v1.2.2.1, ())))))))))
def laws_toLiteralS (x : ((List (Int × (Int × (Int × Unit)))) × Unit)) (c : Unit) : (Option ((List (Int × (Int × (Int × Unit)))) × Unit)) :=
  (Option.bind ((if (eqZ (lenI x.1) (lenI x.1)) = true then (zerosI (lenI x.1) (0, (0, (0, ())))) else none) : (Option (List (Int × (Int × (Int × Unit)))))) fun v0 => (Option.bind (loopN (A := (Int × ((List (Int × (Int × (Int × Unit)))) × ((List (Int × (Int × (Int × Unit)))) × Unit)))) big laws_toLiteralS_L0 (0, (x.1, (v0, ())))) fun v11 => (match v11 with | Out.norm v12 => none | Out.exit v13 => (match ((match v13 with | Sum.inl v16 => (Sum.inl (v16.2.2.2.1, ())) | Sum.inr v17 => (Empty.elim v17)) : (((List (Int × (Int × (Int × Unit)))) × Unit) ⊕ Empty)) with | Sum.inl v14 => (some (v14.1, ())) | Sum.inr v15 => none) | Out.ret v18 => (some v18))))
def H_laws_toLiteralS : Hd := ⟨[.sl 64 (.st [.int .i64, .int .i64, .int .i64])], [], none, .p, .sl 69 (.st [.int .i64, .int .i64, .int .i64]), (Ty.all (.sl 69 (.st [.int .i64, .int .i64, .int .i64]))), []⟩
def T_laws_toLiteralS : FSig := ⟨H_laws_toLiteralS.ps, H_laws_toLiteralS.cs, H_laws_toLiteralS.io, H_laws_toLiteralS.im, H_laws_toLiteralS.R, H_laws_toLiteralS.m, laws_toLiteralS⟩
theorem E_laws_toLiteralS : fnOf tys [(26, T_laws_toLiteral)] Try.f189 H_laws_toLiteralS = T_laws_toLiteralS := by kernel_rfl
theorem K_laws_toLiteralS : SigOk Try.prog 189 T_laws_toLiteralS := (congrArg (SigOk Try.prog 189) E_laws_toLiteralS).mp (fnOf_ok rfl tysOk ⟨K_laws_toLiteral, trivial⟩ Try.func189 (by decide) rfl (fun _ h => by cases h))
def laws_toLine (x : ((Int × ((Int × (Int × (Int × (Int × Unit)))) × ((List (Int × (Int × (Int × Unit)))) × Unit))) × Unit)) (c : Unit) : (Option ((Int × ((Int × (Int × (Int × (Int × Unit)))) × ((List (Int × (Int × (Int × Unit)))) × Unit))) × Unit)) :=
  (Option.bind ((Option.bind (laws_toRule (x.1.2.1, ()) ()) fun v0 => (some v0.1)) : (Option (Int × (Int × (Int × (Int × Unit)))))) fun v1 => (Option.bind ((Option.bind (laws_toLiteralS (x.1.2.2.1, ()) ()) fun v2 => (some v2.1)) : (Option (List (Int × (Int × (Int × Unit)))))) fun v3 => (some ((x.1.1, (v1, (v3, ()))), ()))))
def H_laws_toLine : Hd := ⟨[.st [.int .i64, .st [.int .i64, .int .i64, .int .i64, .int .i64], .sl 64 (.st [.int .i64, .int .i64, .int .i64])]], [], none, .p, .st [.int .i64, .st [.int .i64, .int .i64, .int .i64, .int .i64], .sl 69 (.st [.int .i64, .int .i64, .int .i64])], (Ty.all (.st [.int .i64, .st [.int .i64, .int .i64, .int .i64, .int .i64], .sl 69 (.st [.int .i64, .int .i64, .int .i64])])), []⟩
def T_laws_toLine : FSig := ⟨H_laws_toLine.ps, H_laws_toLine.cs, H_laws_toLine.io, H_laws_toLine.im, H_laws_toLine.R, H_laws_toLine.m, laws_toLine⟩
theorem E_laws_toLine : fnOf tys [(188, T_laws_toRule), (189, T_laws_toLiteralS)] Try.f150 H_laws_toLine = T_laws_toLine := by kernel_rfl
theorem K_laws_toLine : SigOk Try.prog 150 T_laws_toLine := (congrArg (SigOk Try.prog 150) E_laws_toLine).mp (fnOf_ok rfl tysOk ⟨K_laws_toRule, K_laws_toLiteralS, trivial⟩ Try.func150 (by decide) rfl (fun _ h => by cases h))
def laws_toLineS_L0 : (Int × ((List (Int × ((Int × (Int × (Int × (Int × Unit)))) × ((List (Int × (Int × (Int × Unit)))) × Unit)))) × ((List (Int × ((Int × (Int × (Int × (Int × Unit)))) × ((List (Int × (Int × (Int × Unit)))) × Unit)))) × Unit))) → Option (Out (Int × ((List (Int × ((Int × (Int × (Int × (Int × Unit)))) × ((List (Int × (Int × (Int × Unit)))) × Unit)))) × ((List (Int × ((Int × (Int × (Int × (Int × Unit)))) × ((List (Int × (Int × (Int × Unit)))) × Unit)))) × Unit))) ((Bool × (Int × ((List (Int × ((Int × (Int × (Int × (Int × Unit)))) × ((List (Int × (Int × (Int × Unit)))) × Unit)))) × ((List (Int × ((Int × (Int × (Int × (Int × Unit)))) × ((List (Int × (Int × (Int × Unit)))) × Unit)))) × Unit)))) ⊕ Empty) ((List (Int × ((Int × (Int × (Int × (Int × Unit)))) × ((List (Int × (Int × (Int × Unit)))) × Unit)))) × Unit)) :=
  (fun v1 => (if (ltZ v1.1 (lenI v1.2.1)) = true then (Option.bind (getI v1.2.1 v1.1) fun v2 => (Option.bind ((Option.bind (laws_toLine (v2, ()) ()) fun v3 => (some v3.1)) : (Option (Int × ((Int × (Int × (Int × (Int × Unit)))) × ((List (Int × (Int × (Int × Unit)))) × Unit))))) fun v4 => (Option.bind ((Option.bind (getI v1.2.2.1 v1.1) fun v5 => (some ())) : (Option Unit)) fun v6 => (Option.bind ((Option.bind ((Option.bind (getI v1.2.2.1 v1.1) fun v7 => (some v7)) : (Option (Int × ((Int × (Int × (Int × (Int × Unit)))) × ((List (Int × (Int × (Int × Unit)))) × Unit))))) fun v8 => (some v4)) : (Option (Int × ((Int × (Int × (Int × (Int × Unit)))) × ((List (Int × (Int × (Int × Unit)))) × Unit))))) fun v9 => (some (Out.norm ((addZ .i64 v1.1 1), (v1.2.1, ((setI v1.2.2.1 v1.1 (fun v10 => v9)), ()))))))))) else (some (Out.exit (Sum.inl ((ltZ v1.1 (lenI v1.2.1)), (v1.1, (v1.2.1, (v1.2.2.1, ())))))))))
def laws_toLineS (x : ((List (Int × ((Int × (Int × (Int × (Int × Unit)))) × ((List (Int × (Int × (Int × Unit)))) × Unit)))) × Unit)) (c : Unit) : (Option ((List (Int × ((Int × (Int × (Int × (Int × Unit)))) × ((List (Int × (Int × (Int × Unit)))) × Unit)))) × Unit)) :=
  (Option.bind ((if (eqZ (lenI x.1) (lenI x.1)) = true then (zerosI (lenI x.1) (0, ((0, (0, (0, (0, ())))), ([], ())))) else none) : (Option (List (Int × ((Int × (Int × (Int × (Int × Unit)))) × ((List (Int × (Int × (Int × Unit)))) × Unit)))))) fun v0 => (Option.bind (loopN (A := (Int × ((List (Int × ((Int × (Int × (Int × (Int × Unit)))) × ((List (Int × (Int × (Int × Unit)))) × Unit)))) × ((List (Int × ((Int × (Int × (Int × (Int × Unit)))) × ((List (Int × (Int × (Int × Unit)))) × Unit)))) × Unit)))) big laws_toLineS_L0 (0, (x.1, (v0, ())))) fun v11 => (match v11 with | Out.norm v12 => none | Out.exit v13 => (match ((match v13 with | Sum.inl v16 => (Sum.inl (v16.2.2.2.1, ())) | Sum.inr v17 => (Empty.elim v17)) : (((List (Int × ((Int × (Int × (Int × (Int × Unit)))) × ((List (Int × (Int × (Int × Unit)))) × Unit)))) × Unit) ⊕ Empty)) with | Sum.inl v14 => (some (v14.1, ())) | Sum.inr v15 => none) | Out.ret v18 => (some v18))))
def H_laws_toLineS : Hd := ⟨[.sl 183 (.st [.int .i64, .st [.int .i64, .int .i64, .int .i64, .int .i64], .sl 64 (.st [.int .i64, .int .i64, .int .i64])])], [], none, .p, .sl 128 (.st [.int .i64, .st [.int .i64, .int .i64, .int .i64, .int .i64], .sl 69 (.st [.int .i64, .int .i64, .int .i64])]), (Ty.all (.sl 128 (.st [.int .i64, .st [.int .i64, .int .i64, .int .i64, .int .i64], .sl 69 (.st [.int .i64, .int .i64, .int .i64])]))), []⟩
def T_laws_toLineS : FSig := ⟨H_laws_toLineS.ps, H_laws_toLineS.cs, H_laws_toLineS.io, H_laws_toLineS.im, H_laws_toLineS.R, H_laws_toLineS.m, laws_toLineS⟩
theorem E_laws_toLineS : fnOf tys [(150, T_laws_toLine)] Try.f76 H_laws_toLineS = T_laws_toLineS := by kernel_rfl
theorem K_laws_toLineS : SigOk Try.prog 76 T_laws_toLineS := (congrArg (SigOk Try.prog 76) E_laws_toLineS).mp (fnOf_ok rfl tysOk ⟨K_laws_toLine, trivial⟩ Try.func76 (by decide) rfl (fun _ h => by cases h))
def laws_toResult (x : ((Int × (((List Int) × ((List Int) × Unit)) × (Int × (Int × ((List (Int × ((Int × (Int × (Int × (Int × Unit)))) × ((List (Int × (Int × (Int × Unit)))) × Unit)))) × (Int × Unit)))))) × Unit)) (c : Unit) : (Option ((Int × (((List Int) × ((List Int) × Unit)) × (Int × (Int × ((List (Int × ((Int × (Int × (Int × (Int × Unit)))) × ((List (Int × (Int × (Int × Unit)))) × Unit)))) × (Int × Unit)))))) × Unit)) :=
  (Option.bind ((Option.bind (laws_toSchedule (x.1.2.1, ()) ()) fun v0 => (some v0.1)) : (Option ((List Int) × ((List Int) × Unit)))) fun v1 => (Option.bind ((Option.bind (laws_toLineS (x.1.2.2.2.2.1, ()) ()) fun v2 => (some v2.1)) : (Option (List (Int × ((Int × (Int × (Int × (Int × Unit)))) × ((List (Int × (Int × (Int × Unit)))) × Unit)))))) fun v3 => (some ((x.1.1, (v1, (x.1.2.2.1, (x.1.2.2.2.1, (v3, (x.1.2.2.2.2.2.1, ())))))), ()))))
def H_laws_toResult : Hd := ⟨[.st [.int .i64, .st [.sl 3 (.int .i64), .sl 3 (.int .i64)], .int .i64, .int .i64, .sl 183 (.st [.int .i64, .st [.int .i64, .int .i64, .int .i64, .int .i64], .sl 64 (.st [.int .i64, .int .i64, .int .i64])]), .int .i64]], [], none, .p, .st [.int .i64, .st [.sl 3 (.int .i64), .sl 3 (.int .i64)], .int .i64, .int .i64, .sl 128 (.st [.int .i64, .st [.int .i64, .int .i64, .int .i64, .int .i64], .sl 69 (.st [.int .i64, .int .i64, .int .i64])]), .int .i64], (Ty.all (.st [.int .i64, .st [.sl 3 (.int .i64), .sl 3 (.int .i64)], .int .i64, .int .i64, .sl 128 (.st [.int .i64, .st [.int .i64, .int .i64, .int .i64, .int .i64], .sl 69 (.st [.int .i64, .int .i64, .int .i64])]), .int .i64])), []⟩
def T_laws_toResult : FSig := ⟨H_laws_toResult.ps, H_laws_toResult.cs, H_laws_toResult.io, H_laws_toResult.im, H_laws_toResult.R, H_laws_toResult.m, laws_toResult⟩
theorem E_laws_toResult : fnOf tys [(53, T_laws_toSchedule), (76, T_laws_toLineS)] Try.f20 H_laws_toResult = T_laws_toResult := by kernel_rfl
theorem K_laws_toResult : SigOk Try.prog 20 T_laws_toResult := (congrArg (SigOk Try.prog 20) E_laws_toResult).mp (fnOf_ok rfl tysOk ⟨K_laws_toSchedule, K_laws_toLineS, trivial⟩ Try.func20 (by decide) rfl (fun _ h => by cases h))
def slices_Equal_impl_Literal_impl_Literal_L0 : (Int × (Int × ((List (Int × (Int × (Int × Unit)))) × ((List (Int × (Int × (Int × Unit)))) × Unit)))) → Option (Out (Int × (Int × ((List (Int × (Int × (Int × Unit)))) × ((List (Int × (Int × (Int × Unit)))) × Unit)))) ((Bool × (Int × (Int × ((List (Int × (Int × (Int × Unit)))) × ((List (Int × (Int × (Int × Unit)))) × Unit))))) ⊕ Empty) (Bool × Unit)) :=
  (fun v0 => (if (ltZ v0.1 v0.2.1) = true then (Option.bind (getI v0.2.2.1 v0.1) fun v1 => (Option.bind (getI v0.2.2.2.1 v0.1) fun v2 => (if (notB (iteB (eqZ v1.1 v2.1) (iteB (eqZ v1.2.1 v2.2.1) (eqZ v1.2.2.1 v2.2.2.1) false) false)) = true then (some (Out.ret (false, ()))) else (some (Out.norm ((addZ .i64 v0.1 1), (v0.2.1, (v0.2.2.1, (v0.2.2.2.1, ()))))))))) else (some (Out.exit (Sum.inl ((ltZ v0.1 v0.2.1), (v0.1, (v0.2.1, (v0.2.2.1, (v0.2.2.2.1, ()))))))))))
def slices_Equal_impl_Literal_impl_Literal (x : ((List (Int × (Int × (Int × Unit)))) × ((List (Int × (Int × (Int × Unit)))) × Unit))) (c : Unit) : (Option (Bool × Unit)) :=
  (if (notB (eqZ (lenI x.1) (lenI x.2.1))) = true then (some (false, ())) else (Option.bind (loopN (A := (Int × (Int × ((List (Int × (Int × (Int × Unit)))) × ((List (Int × (Int × (Int × Unit)))) × Unit))))) big slices_Equal_impl_Literal_impl_Literal_L0 (0, ((lenI x.1), (x.1, (x.2.1, ()))))) fun v3 => (match v3 with | Out.norm v4 => none | Out.exit v5 => (match ((match v5 with | Sum.inl v8 => (Sum.inl ()) | Sum.inr v9 => (Empty.elim v9)) : (Unit ⊕ Empty)) with | Sum.inl v6 => (some (true, ())) | Sum.inr v7 => none) | Out.ret v10 => (some v10))))
def H_slices_Equal_impl_Literal_impl_Literal : Hd := ⟨[.sl 69 (.st [.int .i64, .int .i64, .int .i64]), .sl 69 (.st [.int .i64, .int .i64, .int .i64])], [], none, .p, .bool, .p, []⟩
def T_slices_Equal_impl_Literal_impl_Literal : FSig := ⟨H_slices_Equal_impl_Literal_impl_Literal.ps, H_slices_Equal_impl_Literal_impl_Literal.cs, H_slices_Equal_impl_Literal_impl_Literal.io, H_slices_Equal_impl_Literal_impl_Literal.im, H_slices_Equal_impl_Literal_impl_Literal.R, H_slices_Equal_impl_Literal_impl_Literal.m, slices_Equal_impl_Literal_impl_Literal⟩
theorem E_slices_Equal_impl_Literal_impl_Literal : fnOf tys [] Try.f151 H_slices_Equal_impl_Literal_impl_Literal = T_slices_Equal_impl_Literal_impl_Literal := by kernel_rfl
theorem K_slices_Equal_impl_Literal_impl_Literal : SigOk Try.prog 151 T_slices_Equal_impl_Literal_impl_Literal := (congrArg (SigOk Try.prog 151) E_slices_Equal_impl_Literal_impl_Literal).mp (fnOf_ok rfl tysOk trivial Try.func151 (by decide) rfl (fun _ h => by cases h))
def impl_LineEqual (x : ((Int × ((Int × (Int × (Int × (Int × Unit)))) × ((List (Int × (Int × (Int × Unit)))) × Unit))) × ((Int × ((Int × (Int × (Int × (Int × Unit)))) × ((List (Int × (Int × (Int × Unit)))) × Unit))) × Unit))) (c : Unit) : (Option (Bool × Unit)) :=
  (Option.bind ((if (eqZ x.1.1 x.2.1.1) = true then (Option.bind ((if (iteB (eqZ x.1.2.1.1 x.2.1.2.1.1) (iteB (eqZ x.1.2.1.2.1 x.2.1.2.1.2.1) (iteB (eqZ x.1.2.1.2.2.1 x.2.1.2.1.2.2.1) (eqZ x.1.2.1.2.2.2.1 x.2.1.2.1.2.2.2.1) false) false) false) = true then (Option.bind ((Option.bind (slices_Equal_impl_Literal_impl_Literal (x.1.2.2.1, (x.2.1.2.2.1, ())) ()) fun v0 => (some v0.1)) : (Option Bool)) fun v1 => (some (v1, ()))) else (some (false, ()))) : (Option (Bool × Unit))) fun v2 => (some (v2.1, ()))) else (some (false, ()))) : (Option (Bool × Unit))) fun v3 => (some (v3.1, ())))
def H_impl_LineEqual : Hd := ⟨[.st [.int .i64, .st [.int .i64, .int .i64, .int .i64, .int .i64], .sl 69 (.st [.int .i64, .int .i64, .int .i64])], .st [.int .i64, .st [.int .i64, .int .i64, .int .i64, .int .i64], .sl 69 (.st [.int .i64, .int .i64, .int .i64])]], [], none, .p, .bool, .p, []⟩
def T_impl_LineEqual : FSig := ⟨H_impl_LineEqual.ps, H_impl_LineEqual.cs, H_impl_LineEqual.io, H_impl_LineEqual.im, H_impl_LineEqual.R, H_impl_LineEqual.m, impl_LineEqual⟩
theorem E_impl_LineEqual : fnOf tys [(151, T_slices_Equal_impl_Literal_impl_Literal)] Try.f77 H_impl_LineEqual = T_impl_LineEqual := by kernel_rfl
theorem K_impl_LineEqual : SigOk Try.prog 77 T_impl_LineEqual := (congrArg (SigOk Try.prog 77) E_impl_LineEqual).mp (fnOf_ok rfl tysOk ⟨K_slices_Equal_impl_Literal_impl_Literal, trivial⟩ Try.func77 (by decide) rfl (fun _ h => by cases h))
def impl_ScheduleEqual (x : (((List Int) × ((List Int) × Unit)) × (((List Int) × ((List Int) × Unit)) × Unit))) (c : Unit) : (Option (Bool × Unit)) :=
  (Option.bind ((Option.bind (slices_Equal_int_int (x.1.1, (x.2.1.1, ())) ()) fun v0 => (some v0.1)) : (Option Bool)) fun v1 => (Option.bind ((if v1 = true then (Option.bind ((Option.bind (slices_Equal_int_int (x.1.2.1, (x.2.1.2.1, ())) ()) fun v2 => (some v2.1)) : (Option Bool)) fun v3 => (some (v3, ()))) else (some (false, ()))) : (Option (Bool × Unit))) fun v4 => (some (v4.1, ()))))
def H_impl_ScheduleEqual : Hd := ⟨[.st [.sl 3 (.int .i64), .sl 3 (.int .i64)], .st [.sl 3 (.int .i64), .sl 3 (.int .i64)]], [], none, .p, .bool, .p, []⟩
def T_impl_ScheduleEqual : FSig := ⟨H_impl_ScheduleEqual.ps, H_impl_ScheduleEqual.cs, H_impl_ScheduleEqual.io, H_impl_ScheduleEqual.im, H_impl_ScheduleEqual.R, H_impl_ScheduleEqual.m, impl_ScheduleEqual⟩
theorem E_impl_ScheduleEqual : fnOf tys [(68, T_slices_Equal_int_int)] Try.f78 H_impl_ScheduleEqual = T_impl_ScheduleEqual := by kernel_rfl
theorem K_impl_ScheduleEqual : SigOk Try.prog 78 T_impl_ScheduleEqual := (congrArg (SigOk Try.prog 78) E_impl_ScheduleEqual).mp (fnOf_ok rfl tysOk ⟨K_slices_Equal_int_int, trivial⟩ Try.func78 (by decide) rfl (fun _ h => by cases h))
def impl_ResultEqual_L0 : (Int × (Int × ((List (Int × ((Int × (Int × (Int × (Int × Unit)))) × ((List (Int × (Int × (Int × Unit)))) × Unit)))) × ((Int × (((List Int) × ((List Int) × Unit)) × (Int × (Int × ((List (Int × ((Int × (Int × (Int × (Int × Unit)))) × ((List (Int × (Int × (Int × Unit)))) × Unit)))) × (Int × Unit)))))) × ((Int × (((List Int) × ((List Int) × Unit)) × (Int × (Int × ((List (Int × ((Int × (Int × (Int × (Int × Unit)))) × ((List (Int × (Int × (Int × Unit)))) × Unit)))) × (Int × Unit)))))) × Unit))))) → Option (Out (Int × (Int × ((List (Int × ((Int × (Int × (Int × (Int × Unit)))) × ((List (Int × (Int × (Int × Unit)))) × Unit)))) × ((Int × (((List Int) × ((List Int) × Unit)) × (Int × (Int × ((List (Int × ((Int × (Int × (Int × (Int × Unit)))) × ((List (Int × (Int × (Int × Unit)))) × Unit)))) × (Int × Unit)))))) × ((Int × (((List Int) × ((List Int) × Unit)) × (Int × (Int × ((List (Int × ((Int × (Int × (Int × (Int × Unit)))) × ((List (Int × (Int × (Int × Unit)))) × Unit)))) × (Int × Unit)))))) × Unit))))) ((Bool × (Int × (Int × ((List (Int × ((Int × (Int × (Int × (Int × Unit)))) × ((List (Int × (Int × (Int × Unit)))) × Unit)))) × ((Int × (((List Int) × ((List Int) × Unit)) × (Int × (Int × ((List (Int × ((Int × (Int × (Int × (Int × Unit)))) × ((List (Int × (Int × (Int × Unit)))) × Unit)))) × (Int × Unit)))))) × ((Int × (((List Int) × ((List Int) × Unit)) × (Int × (Int × ((List (Int × ((Int × (Int × (Int × (Int × Unit)))) × ((List (Int × (Int × (Int × Unit)))) × Unit)))) × (Int × Unit)))))) × Unit)))))) ⊕ Empty) (Bool × Unit)) :=
  (fun v0 => (if (ltZ v0.1 v0.2.1) = true then (Option.bind (getI v0.2.2.1 v0.1) fun v1 => (Option.bind (getI v0.2.2.2.2.1.2.2.2.2.1 v0.1) fun v2 => (Option.bind ((Option.bind (impl_LineEqual (v1, (v2, ())) ()) fun v3 => (some v3.1)) : (Option Bool)) fun v4 => (if (notB v4) = true then (some (Out.ret (false, ()))) else (some (Out.norm ((addZ .i64 v0.1 1), (v0.2.1, (v0.2.2.1, (v0.2.2.2.1, (v0.2.2.2.2.1, ()))))))))))) else (some (Out.exit (Sum.inl ((ltZ v0.1 v0.2.1), (v0.1, (v0.2.1, (v0.2.2.1, (v0.2.2.2.1, (v0.2.2.2.2.1, ())))))))))))
def impl_ResultEqual (x : ((Int × (((List Int) × ((List Int) × Unit)) × (Int × (Int × ((List (Int × ((Int × (Int × (Int × (Int × Unit)))) × ((List (Int × (Int × (Int × Unit)))) × Unit)))) × (Int × Unit)))))) × ((Int × (((List Int) × ((List Int) × Unit)) × (Int × (Int × ((List (Int × ((Int × (Int × (Int × (Int × Unit)))) × ((List (Int × (Int × (Int × Unit)))) × Unit)))) × (Int × Unit)))))) × Unit))) (c : Unit) : (Option (Bool × Unit)) :=
  (if (notB (eqZ (lenI x.1.2.2.2.2.1) (lenI x.2.1.2.2.2.2.1))) = true then (some (false, ())) else (Option.bind (loopN (A := (Int × (Int × ((List (Int × ((Int × (Int × (Int × (Int × Unit)))) × ((List (Int × (Int × (Int × Unit)))) × Unit)))) × ((Int × (((List Int) × ((List Int) × Unit)) × (Int × (Int × ((List (Int × ((Int × (Int × (Int × (Int × Unit)))) × ((List (Int × (Int × (Int × Unit)))) × Unit)))) × (Int × Unit)))))) × ((Int × (((List Int) × ((List Int) × Unit)) × (Int × (Int × ((List (Int × ((Int × (Int × (Int × (Int × Unit)))) × ((List (Int × (Int × (Int × Unit)))) × Unit)))) × (Int × Unit)))))) × Unit)))))) big impl_ResultEqual_L0 (0, ((lenI x.1.2.2.2.2.1), (x.1.2.2.2.2.1, (x.1, (x.2.1, ())))))) fun v5 => (match v5 with | Out.norm v6 => none | Out.exit v7 => (match ((match v7 with | Sum.inl v16 => (Sum.inl (v16.2.2.2.2.1, (v16.2.2.2.2.2.1, ()))) | Sum.inr v17 => (Empty.elim v17)) : (((Int × (((List Int) × ((List Int) × Unit)) × (Int × (Int × ((List (Int × ((Int × (Int × (Int × (Int × Unit)))) × ((List (Int × (Int × (Int × Unit)))) × Unit)))) × (Int × Unit)))))) × ((Int × (((List Int) × ((List Int) × Unit)) × (Int × (Int × ((List (Int × ((Int × (Int × (Int × (Int × Unit)))) × ((List (Int × (Int × (Int × Unit)))) × Unit)))) × (Int × Unit)))))) × Unit)) ⊕ Empty)) with | Sum.inl v8 => (Option.bind ((if (eqZ v8.1.1 v8.2.1.1) = true then (Option.bind ((Option.bind (impl_ScheduleEqual (v8.1.2.1, (v8.2.1.2.1, ())) ()) fun v9 => (some v9.1)) : (Option Bool)) fun v10 => (Option.bind ((if v10 = true then (Option.bind ((if (eqZ v8.1.2.2.1 v8.2.1.2.2.1) = true then (Option.bind ((if (eqZ v8.1.2.2.2.1 v8.2.1.2.2.2.1) = true then (some ((eqZ v8.1.2.2.2.2.2.1 v8.2.1.2.2.2.2.2.1), ())) else (some (false, ()))) : (Option (Bool × Unit))) fun v11 => (some (v11.1, ()))) else (some (false, ()))) : (Option (Bool × Unit))) fun v12 => (some (v12.1, ()))) else (some (false, ()))) : (Option (Bool × Unit))) fun v13 => (some (v13.1, ())))) else (some (false, ()))) : (Option (Bool × Unit))) fun v14 => (some (v14.1, ()))) | Sum.inr v15 => none) | Out.ret v18 => (some v18))))
def H_impl_ResultEqual : Hd := ⟨[.st [.int .i64, .st [.sl 3 (.int .i64), .sl 3 (.int .i64)], .int .i64, .int .i64, .sl 128 (.st [.int .i64, .st [.int .i64, .int .i64, .int .i64, .int .i64], .sl 69 (.st [.int .i64, .int .i64, .int .i64])]), .int .i64], .st [.int .i64, .st [.sl 3 (.int .i64), .sl 3 (.int .i64)], .int .i64, .int .i64, .sl 128 (.st [.int .i64, .st [.int .i64, .int .i64, .int .i64, .int .i64], .sl 69 (.st [.int .i64, .int .i64, .int .i64])]), .int .i64]], [], none, .p, .bool, .p, []⟩
def T_impl_ResultEqual : FSig := ⟨H_impl_ResultEqual.ps, H_impl_ResultEqual.cs, H_impl_ResultEqual.io, H_impl_ResultEqual.im, H_impl_ResultEqual.R, H_impl_ResultEqual.m, impl_ResultEqual⟩
theorem E_impl_ResultEqual : fnOf tys [(77, T_impl_LineEqual), (78, T_impl_ScheduleEqual)] Try.f21 H_impl_ResultEqual = T_impl_ResultEqual := by kernel_rfl
theorem K_impl_ResultEqual : SigOk Try.prog 21 T_impl_ResultEqual := (congrArg (SigOk Try.prog 21) E_impl_ResultEqual).mp (fnOf_ok rfl tysOk ⟨K_impl_LineEqual, K_impl_ScheduleEqual, trivial⟩ Try.func21 (by decide) rfl (fun _ h => by cases h))
def laws_eqIntS_L0 : (Int × ((List Int) × ((List Int) × Unit))) → Option (Out (Int × ((List Int) × ((List Int) × Unit))) ((Bool × (Int × ((List Int) × ((List Int) × Unit)))) ⊕ Empty) (Bool × Unit)) :=
  (fun v0 => (if (ltZ v0.1 (lenI v0.2.1)) = true then (Option.bind (getI v0.2.1 v0.1) fun v1 => (Option.bind (getI v0.2.2.1 v0.1) fun v2 => (if (notB (eqZ v1 v2)) = true then (some (Out.ret (false, ()))) else (some (Out.norm ((addZ .i64 v0.1 1), (v0.2.1, (v0.2.2.1, ())))))))) else (some (Out.exit (Sum.inl ((ltZ v0.1 (lenI v0.2.1)), (v0.1, (v0.2.1, (v0.2.2.1, ())))))))))
def laws_eqIntS (x : ((List Int) × ((List Int) × Unit))) (c : Unit) : (Option (Bool × Unit)) :=
  (if (notB (eqZ (lenI x.1) (lenI x.2.1))) = true then (some (false, ())) else (Option.bind (loopN (A := (Int × ((List Int) × ((List Int) × Unit)))) big laws_eqIntS_L0 (0, (x.1, (x.2.1, ())))) fun v3 => (match v3 with | Out.norm v4 => none | Out.exit v5 => (match ((match v5 with | Sum.inl v8 => (Sum.inl ()) | Sum.inr v9 => (Empty.elim v9)) : (Unit ⊕ Empty)) with | Sum.inl v6 => (some (true, ())) | Sum.inr v7 => none) | Out.ret v10 => (some v10))))
def H_laws_eqIntS : Hd := ⟨[.sl 3 (.int .i64), .sl 3 (.int .i64)], [], none, .p, .bool, .p, []⟩
def T_laws_eqIntS : FSig := ⟨H_laws_eqIntS.ps, H_laws_eqIntS.cs, H_laws_eqIntS.io, H_laws_eqIntS.im, H_laws_eqIntS.R, H_laws_eqIntS.m, laws_eqIntS⟩
theorem E_laws_eqIntS : fnOf tys [] Try.f97 H_laws_eqIntS = T_laws_eqIntS := by kernel_rfl
theorem K_laws_eqIntS : SigOk Try.prog 97 T_laws_eqIntS := (congrArg (SigOk Try.prog 97) E_laws_eqIntS).mp (fnOf_ok rfl tysOk trivial Try.func97 (by decide) rfl (fun _ h => by cases h))
def laws_eqSchedule (x : (((List Int) × ((List Int) × Unit)) × (((List Int) × ((List Int) × Unit)) × Unit))) (c : Unit) : (Option (Bool × Unit)) :=
  (Option.bind ((Option.bind (laws_eqIntS (x.1.1, (x.2.1.1, ())) ()) fun v0 => (some v0.1)) : (Option Bool)) fun v1 => (if (notB v1) = true then (some (false, ())) else (Option.bind ((Option.bind (laws_eqIntS (x.1.2.1, (x.2.1.2.1, ())) ()) fun v2 => (some v2.1)) : (Option Bool)) fun v3 => (if (notB v3) = true then (some (false, ())) else (some (true, ()))))))
def H_laws_eqSchedule : Hd := ⟨[.st [.sl 3 (.int .i64), .sl 3 (.int .i64)], .st [.sl 3 (.int .i64), .sl 3 (.int .i64)]], [], none, .p, .bool, .p, []⟩
def T_laws_eqSchedule : FSig := ⟨H_laws_eqSchedule.ps, H_laws_eqSchedule.cs, H_laws_eqSchedule.io, H_laws_eqSchedule.im, H_laws_eqSchedule.R, H_laws_eqSchedule.m, laws_eqSchedule⟩
theorem E_laws_eqSchedule : fnOf tys [(97, T_laws_eqIntS)] Try.f55 H_laws_eqSchedule = T_laws_eqSchedule := by kernel_rfl
theorem K_laws_eqSchedule : SigOk Try.prog 55 T_laws_eqSchedule := (congrArg (SigOk Try.prog 55) E_laws_eqSchedule).mp (fnOf_ok rfl tysOk ⟨K_laws_eqIntS, trivial⟩ Try.func55 (by decide) rfl (fun _ h => by cases h))
def laws_eqRule (x : ((Int × (Int × (Int × (Int × Unit)))) × ((Int × (Int × (Int × (Int × Unit)))) × Unit))) (c : Unit) : (Option (Bool × Unit)) :=
  (if (notB (eqZ x.1.1 x.2.1.1)) = true then (some (false, ())) else (if (notB (eqZ x.1.2.1 x.2.1.2.1)) = true then (some (false, ())) else (if (notB (eqZ x.1.2.2.1 x.2.1.2.2.1)) = true then (some (false, ())) else (if (notB (eqZ x.1.2.2.2.1 x.2.1.2.2.2.1)) = true then (some (false, ())) else (some (true, ()))))))
def H_laws_eqRule : Hd := ⟨[.st [.int .i64, .int .i64, .int .i64, .int .i64], .st [.int .i64, .int .i64, .int .i64, .int .i64]], [], none, .p, .bool, .p, []⟩
def T_laws_eqRule : FSig := ⟨H_laws_eqRule.ps, H_laws_eqRule.cs, H_laws_eqRule.io, H_laws_eqRule.im, H_laws_eqRule.R, H_laws_eqRule.m, laws_eqRule⟩
theorem E_laws_eqRule : fnOf tys [] Try.f190 H_laws_eqRule = T_laws_eqRule := by kernel_rfl
theorem K_laws_eqRule : SigOk Try.prog 190 T_laws_eqRule := (congrArg (SigOk Try.prog 190) E_laws_eqRule).mp (fnOf_ok rfl tysOk trivial Try.func190 (by decide) rfl (fun _ h => by cases h))
def laws_eqLiteral (x : ((Int × (Int × (Int × Unit))) × ((Int × (Int × (Int × Unit))) × Unit))) (c : Unit) : (Option (Bool × Unit)) :=
  (if (notB (eqZ x.1.1 x.2.1.1)) = true then (some (false, ())) else (if (notB (eqZ x.1.2.1 x.2.1.2.1)) = true then (some (false, ())) else (if (notB (eqZ x.1.2.2.1 x.2.1.2.2.1)) = true then (some (false, ())) else (some (true, ())))))
def H_laws_eqLiteral : Hd := ⟨[.st [.int .i64, .int .i64, .int .i64], .st [.int .i64, .int .i64, .int .i64]], [], none, .p, .bool, .p, []⟩
def T_laws_eqLiteral : FSig := ⟨H_laws_eqLiteral.ps, H_laws_eqLiteral.cs, H_laws_eqLiteral.io, H_laws_eqLiteral.im, H_laws_eqLiteral.R, H_laws_eqLiteral.m, laws_eqLiteral⟩
theorem E_laws_eqLiteral : fnOf tys [] Try.f210 H_laws_eqLiteral = T_laws_eqLiteral := by kernel_rfl
theorem K_laws_eqLiteral : SigOk Try.prog 210 T_laws_eqLiteral := (congrArg (SigOk Try.prog 210) E_laws_eqLiteral).mp (fnOf_ok rfl tysOk trivial Try.func210 (by decide) rfl (fun _ h => by cases h))
def laws_eqLiteralS_L0 : (Int × ((List (Int × (Int × (Int × Unit)))) × ((List (Int × (Int × (Int × Unit)))) × Unit))) → Option (Out (Int × ((List (Int × (Int × (Int × Unit)))) × ((List (Int × (Int × (Int × Unit)))) × Unit))) ((Bool × (Int × ((List (Int × (Int × (Int × Unit)))) × ((List (Int × (Int × (Int × Unit)))) × Unit)))) ⊕ Empty) (Bool × Unit)) :=
  (fun v0 => (if (ltZ v0.1 (lenI v0.2.1)) = true then (Option.bind (getI v0.2.1 v0.1) fun v1 => (Option.bind (getI v0.2.2.1 v0.1) fun v2 => (Option.bind ((Option.bind (laws_eqLiteral (v1, (v2, ())) ()) fun v3 => (some v3.1)) : (Option Bool)) fun v4 => (if (notB v4) = true then (some (Out.ret (false, ()))) else (some (Out.norm ((addZ .i64 v0.1 1), (v0.2.1, (v0.2.2.1, ()))))))))) else (some (Out.exit (Sum.inl ((ltZ v0.1 (lenI v0.2.1)), (v0.1, (v0.2.1, (v0.2.2.1, ())))))))))
def laws_eqLiteralS (x : ((List (Int × (Int × (Int × Unit)))) × ((List (Int × (Int × (Int × Unit)))) × Unit))) (c : Unit) : (Option (Bool × Unit)) :=
  (if (notB (eqZ (lenI x.1) (lenI x.2.1))) = true then (some (false, ())) else (Option.bind (loopN (A := (Int × ((List (Int × (Int × (Int × Unit)))) × ((List (Int × (Int × (Int × Unit)))) × Unit)))) big laws_eqLiteralS_L0 (0, (x.1, (x.2.1, ())))) fun v5 => (match v5 with | Out.norm v6 => none | Out.exit v7 => (match ((match v7 with | Sum.inl v10 => (Sum.inl ()) | Sum.inr v11 => (Empty.elim v11)) : (Unit ⊕ Empty)) with | Sum.inl v8 => (some (true, ())) | Sum.inr v9 => none) | Out.ret v12 => (some v12))))
def H_laws_eqLiteralS : Hd := ⟨[.sl 69 (.st [.int .i64, .int .i64, .int .i64]), .sl 69 (.st [.int .i64, .int .i64, .int .i64])], [], none, .p, .bool, .p, []⟩
def T_laws_eqLiteralS : FSig := ⟨H_laws_eqLiteralS.ps, H_laws_eqLiteralS.cs, H_laws_eqLiteralS.io, H_laws_eqLiteralS.im, H_laws_eqLiteralS.R, H_laws_eqLiteralS.m, laws_eqLiteralS⟩
theorem E_laws_eqLiteralS : fnOf tys [(210, T_laws_eqLiteral)] Try.f191 H_laws_eqLiteralS = T_laws_eqLiteralS := by kernel_rfl
theorem K_laws_eqLiteralS : SigOk Try.prog 191 T_laws_eqLiteralS := (congrArg (SigOk Try.prog 191) E_laws_eqLiteralS).mp (fnOf_ok rfl tysOk ⟨K_laws_eqLiteral, trivial⟩ Try.func191 (by decide) rfl (fun _ h => by cases h))
def laws_eqLine (x : ((Int × ((Int × (Int × (Int × (Int × Unit)))) × ((List (Int × (Int × (Int × Unit)))) × Unit))) × ((Int × ((Int × (Int × (Int × (Int × Unit)))) × ((List (Int × (Int × (Int × Unit)))) × Unit))) × Unit))) (c : Unit) : (Option (Bool × Unit)) :=
  (if (notB (eqZ x.1.1 x.2.1.1)) = true then (some (false, ())) else (Option.bind ((Option.bind (laws_eqRule (x.1.2.1, (x.2.1.2.1, ())) ()) fun v0 => (some v0.1)) : (Option Bool)) fun v1 => (if (notB v1) = true then (some (false, ())) else (Option.bind ((Option.bind (laws_eqLiteralS (x.1.2.2.1, (x.2.1.2.2.1, ())) ()) fun v2 => (some v2.1)) : (Option Bool)) fun v3 => (if (notB v3) = true then (some (false, ())) else (some (true, ())))))))
def H_laws_eqLine : Hd := ⟨[.st [.int .i64, .st [.int .i64, .int .i64, .int .i64, .int .i64], .sl 69 (.st [.int .i64, .int .i64, .int .i64])], .st [.int .i64, .st [.int .i64, .int .i64, .int .i64, .int .i64], .sl 69 (.st [.int .i64, .int .i64, .int .i64])]], [], none, .p, .bool, .p, []⟩
def T_laws_eqLine : FSig := ⟨H_laws_eqLine.ps, H_laws_eqLine.cs, H_laws_eqLine.io, H_laws_eqLine.im, H_laws_eqLine.R, H_laws_eqLine.m, laws_eqLine⟩
theorem E_laws_eqLine : fnOf tys [(190, T_laws_eqRule), (191, T_laws_eqLiteralS)] Try.f152 H_laws_eqLine = T_laws_eqLine := by kernel_rfl
theorem K_laws_eqLine : SigOk Try.prog 152 T_laws_eqLine := (congrArg (SigOk Try.prog 152) E_laws_eqLine).mp (fnOf_ok rfl tysOk ⟨K_laws_eqRule, K_laws_eqLiteralS, trivial⟩ Try.func152 (by decide) rfl (fun _ h => by cases h))
def laws_eqLineS_L0 : (Int × ((List (Int × ((Int × (Int × (Int × (Int × Unit)))) × ((List (Int × (Int × (Int × Unit)))) × Unit)))) × ((List (Int × ((Int × (Int × (Int × (Int × Unit)))) × ((List (Int × (Int × (Int × Unit)))) × Unit)))) × Unit))) → Option (Out (Int × ((List (Int × ((Int × (Int × (Int × (Int × Unit)))) × ((List (Int × (Int × (Int × Unit)))) × Unit)))) × ((List (Int × ((Int × (Int × (Int × (Int × Unit)))) × ((List (Int × (Int × (Int × Unit)))) × Unit)))) × Unit))) ((Bool × (Int × ((List (Int × ((Int × (Int × (Int × (Int × Unit)))) × ((List (Int × (Int × (Int × Unit)))) × Unit)))) × ((List (Int × ((Int × (Int × (Int × (Int × Unit)))) × ((List (Int × (Int × (Int × Unit)))) × Unit)))) × Unit)))) ⊕ Empty) (Bool × Unit)) :=
  (fun v0 => (if (ltZ v0.1 (lenI v0.2.1)) = true then (Option.bind (getI v0.2.1 v0.1) fun v1 => (Option.bind (getI v0.2.2.1 v0.1) fun v2 => (Option.bind ((Option.bind (laws_eqLine (v1, (v2, ())) ()) fun v3 => (some v3.1)) : (Option Bool)) fun v4 => (if (notB v4) = true then (some (Out.ret (false, ()))) else (some (Out.norm ((addZ .i64 v0.1 1), (v0.2.1, (v0.2.2.1, ()))))))))) else (some (Out.exit (Sum.inl ((ltZ v0.1 (lenI v0.2.1)), (v0.1, (v0.2.1, (v0.2.2.1, ())))))))))
def laws_eqLineS (x : ((List (Int × ((Int × (Int × (Int × (Int × Unit)))) × ((List (Int × (Int × (Int × Unit)))) × Unit)))) × ((List (Int × ((Int × (Int × (Int × (Int × Unit)))) × ((List (Int × (Int × (Int × Unit)))) × Unit)))) × Unit))) (c : Unit) : (Option (Bool × Unit)) :=
  (if (notB (eqZ (lenI x.1) (lenI x.2.1))) = true then (some (false, ())) else (Option.bind (loopN (A := (Int × ((List (Int × ((Int × (Int × (Int × (Int × Unit)))) × ((List (Int × (Int × (Int × Unit)))) × Unit)))) × ((List (Int × ((Int × (Int × (Int × (Int × Unit)))) × ((List (Int × (Int × (Int × Unit)))) × Unit)))) × Unit)))) big laws_eqLineS_L0 (0, (x.1, (x.2.1, ())))) fun v5 => (match v5 with | Out.norm v6 => none | Out.exit v7 => (match ((match v7 with | Sum.inl v10 => (Sum.inl ()) | Sum.inr v11 => (Empty.elim v11)) : (Unit ⊕ Empty)) with | Sum.inl v8 => (some (true, ())) | Sum.inr v9 => none) | Out.ret v12 => (some v12))))
def H_laws_eqLineS : Hd := ⟨[.sl 128 (.st [.int .i64, .st [.int .i64, .int .i64, .int .i64, .int .i64], .sl 69 (.st [.int .i64, .int .i64, .int .i64])]), .sl 128 (.st [.int .i64, .st [.int .i64, .int .i64, .int .i64, .int .i64], .sl 69 (.st [.int .i64, .int .i64, .int .i64])])], [], none, .p, .bool, .p, []⟩
def T_laws_eqLineS : FSig := ⟨H_laws_eqLineS.ps, H_laws_eqLineS.cs, H_laws_eqLineS.io, H_laws_eqLineS.im, H_laws_eqLineS.R, H_laws_eqLineS.m, laws_eqLineS⟩
theorem E_laws_eqLineS : fnOf tys [(152, T_laws_eqLine)] Try.f79 H_laws_eqLineS = T_laws_eqLineS := by kernel_rfl
theorem K_laws_eqLineS : SigOk Try.prog 79 T_laws_eqLineS := (congrArg (SigOk Try.prog 79) E_laws_eqLineS).mp (fnOf_ok rfl tysOk ⟨K_laws_eqLine, trivial⟩ Try.func79 (by decide) rfl (fun _ h => by cases h))
def laws_eqResult (x : ((Int × (((List Int) × ((List Int) × Unit)) × (Int × (Int × ((List (Int × ((Int × (Int × (Int × (Int × Unit)))) × ((List (Int × (Int × (Int × Unit)))) × Unit)))) × (Int × Unit)))))) × ((Int × (((List Int) × ((List Int) × Unit)) × (Int × (Int × ((List (Int × ((Int × (Int × (Int × (Int × Unit)))) × ((List (Int × (Int × (Int × Unit)))) × Unit)))) × (Int × Unit)))))) × Unit))) (c : Unit) : (Option (Bool × Unit)) :=
  (if (notB (eqZ x.1.1 x.2.1.1)) = true then (some (false, ())) else (Option.bind ((Option.bind (laws_eqSchedule (x.1.2.1, (x.2.1.2.1, ())) ()) fun v0 => (some v0.1)) : (Option Bool)) fun v1 => (if (notB v1) = true then (some (false, ())) else (if (notB (eqZ x.1.2.2.1 x.2.1.2.2.1)) = true then (some (false, ())) else (if (notB (eqZ x.1.2.2.2.1 x.2.1.2.2.2.1)) = true then (some (false, ())) else (Option.bind ((Option.bind (laws_eqLineS (x.1.2.2.2.2.1, (x.2.1.2.2.2.2.1, ())) ()) fun v2 => (some v2.1)) : (Option Bool)) fun v3 => (if (notB v3) = true then (some (false, ())) else (if (notB (eqZ x.1.2.2.2.2.2.1 x.2.1.2.2.2.2.2.1)) = true then (some (false, ())) else (some (true, ()))))))))))
def H_laws_eqResult : Hd := ⟨[.st [.int .i64, .st [.sl 3 (.int .i64), .sl 3 (.int .i64)], .int .i64, .int .i64, .sl 128 (.st [.int .i64, .st [.int .i64, .int .i64, .int .i64, .int .i64], .sl 69 (.st [.int .i64, .int .i64, .int .i64])]), .int .i64], .st [.int .i64, .st [.sl 3 (.int .i64), .sl 3 (.int .i64)], .int .i64, .int .i64, .sl 128 (.st [.int .i64, .st [.int .i64, .int .i64, .int .i64, .int .i64], .sl 69 (.st [.int .i64, .int .i64, .int .i64])]), .int .i64]], [], none, .p, .bool, .p, []⟩
def T_laws_eqResult : FSig := ⟨H_laws_eqResult.ps, H_laws_eqResult.cs, H_laws_eqResult.io, H_laws_eqResult.im, H_laws_eqResult.R, H_laws_eqResult.m, laws_eqResult⟩
theorem E_laws_eqResult : fnOf tys [(55, T_laws_eqSchedule), (79, T_laws_eqLineS)] Try.f22 H_laws_eqResult = T_laws_eqResult := by kernel_rfl
theorem K_laws_eqResult : SigOk Try.prog 22 T_laws_eqResult := (congrArg (SigOk Try.prog 22) E_laws_eqResult).mp (fnOf_ok rfl tysOk ⟨K_laws_eqSchedule, K_laws_eqLineS, trivial⟩ Try.func22 (by decide) rfl (fun _ h => by cases h))
def laws_FnExactResultEqual (x : ((Int × (((List Int) × ((List Int) × Unit)) × (Int × (Int × ((List (Int × ((Int × (Int × (Int × (Int × Unit)))) × ((List (Int × (Int × (Int × Unit)))) × Unit)))) × (Int × Unit)))))) × ((Int × (((List Int) × ((List Int) × Unit)) × (Int × (Int × ((List (Int × ((Int × (Int × (Int × (Int × Unit)))) × ((List (Int × (Int × (Int × Unit)))) × Unit)))) × (Int × Unit)))))) × Unit))) (c : Unit) : (Option (Bool × Unit)) :=
  (Option.bind ((Option.bind (laws_szResult (x.1, (1048576, ())) ()) fun v0 => (some v0.1)) : (Option Int)) fun v1 => (if (ltZ v1 0) = true then (some (true, ())) else (Option.bind ((Option.bind (laws_szResult (x.2.1, (v1, ())) ()) fun v2 => (some v2.1)) : (Option Int)) fun v3 => (if (ltZ v3 0) = true then (some (true, ())) else (Option.bind ((Option.bind (laws_toResult (x.1, ()) ()) fun v4 => (some v4.1)) : (Option (Int × (((List Int) × ((List Int) × Unit)) × (Int × (Int × ((List (Int × ((Int × (Int × (Int × (Int × Unit)))) × ((List (Int × (Int × (Int × Unit)))) × Unit)))) × (Int × Unit)))))))) fun v5 => (Option.bind ((Option.bind (laws_toResult (x.2.1, ()) ()) fun v6 => (some v6.1)) : (Option (Int × (((List Int) × ((List Int) × Unit)) × (Int × (Int × ((List (Int × ((Int × (Int × (Int × (Int × Unit)))) × ((List (Int × (Int × (Int × Unit)))) × Unit)))) × (Int × Unit)))))))) fun v7 => (Option.bind ((Option.bind (spec_ResultEqual (v5, (v7, ())) ()) fun v8 => (some v8.1)) : (Option Bool)) fun v9 => (Option.bind ((Option.bind (laws_toResult (x.1, ()) ()) fun v10 => (some v10.1)) : (Option (Int × (((List Int) × ((List Int) × Unit)) × (Int × (Int × ((List (Int × ((Int × (Int × (Int × (Int × Unit)))) × ((List (Int × (Int × (Int × Unit)))) × Unit)))) × (Int × Unit)))))))) fun v11 => (Option.bind ((Option.bind (laws_toResult (x.2.1, ()) ()) fun v12 => (some v12.1)) : (Option (Int × (((List Int) × ((List Int) × Unit)) × (Int × (Int × ((List (Int × ((Int × (Int × (Int × (Int × Unit)))) × ((List (Int × (Int × (Int × Unit)))) × Unit)))) × (Int × Unit)))))))) fun v13 => (Option.bind ((Option.bind (impl_ResultEqual (v11, (v13, ())) ()) fun v14 => (some v14.1)) : (Option Bool)) fun v15 => (if (notB (eqB v15 v9)) = true then (some (false, ())) else (Option.bind ((Option.bind (laws_toResult (x.1, ()) ()) fun v16 => (some v16.1)) : (Option (Int × (((List Int) × ((List Int) × Unit)) × (Int × (Int × ((List (Int × ((Int × (Int × (Int × (Int × Unit)))) × ((List (Int × (Int × (Int × Unit)))) × Unit)))) × (Int × Unit)))))))) fun v17 => (Option.bind ((Option.bind (laws_eqResult (v11, (v17, ())) ()) fun v18 => (some v18.1)) : (Option Bool)) fun v19 => (if (notB v19) = true then (some (false, ())) else (Option.bind ((Option.bind (laws_toResult (x.2.1, ()) ()) fun v20 => (some v20.1)) : (Option (Int × (((List Int) × ((List Int) × Unit)) × (Int × (Int × ((List (Int × ((Int × (Int × (Int × (Int × Unit)))) × ((List (Int × (Int × (Int × Unit)))) × Unit)))) × (Int × Unit)))))))) fun v21 => (Option.bind ((Option.bind (laws_eqResult (v13, (v21, ())) ()) fun v22 => (some v22.1)) : (Option Bool)) fun v23 => (if (notB v23) = true then (some (false, ())) else (some (true, ())))))))))))))))))))
def H_laws_FnExactResultEqual : Hd := ⟨[.st [.int .i64, .st [.sl 3 (.int .i64), .sl 3 (.int .i64)], .int .i64, .int .i64, .sl 183 (.st [.int .i64, .st [.int .i64, .int .i64, .int .i64, .int .i64], .sl 64 (.st [.int .i64, .int .i64, .int .i64])]), .int .i64], .st [.int .i64, .st [.sl 3 (.int .i64), .sl 3 (.int .i64)], .int .i64, .int .i64, .sl 183 (.st [.int .i64, .st [.int .i64, .int .i64, .int .i64, .int .i64], .sl 64 (.st [.int .i64, .int .i64, .int .i64])]), .int .i64]], [], none, .p, .bool, .p, []⟩
def T_laws_FnExactResultEqual : FSig := ⟨H_laws_FnExactResultEqual.ps, H_laws_FnExactResultEqual.cs, H_laws_FnExactResultEqual.io, H_laws_FnExactResultEqual.im, H_laws_FnExactResultEqual.R, H_laws_FnExactResultEqual.m, laws_FnExactResultEqual⟩
theorem E_laws_FnExactResultEqual : fnOf tys [(18, T_laws_szResult), (19, T_spec_ResultEqual), (20, T_laws_toResult), (21, T_impl_ResultEqual), (22, T_laws_eqResult)] Try.f4 H_laws_FnExactResultEqual = T_laws_FnExactResultEqual := by kernel_rfl
theorem K_laws_FnExactResultEqual : SigOk Try.prog 4 T_laws_FnExactResultEqual := (congrArg (SigOk Try.prog 4) E_laws_FnExactResultEqual).mp (fnOf_ok rfl tysOk ⟨K_laws_szResult, K_spec_ResultEqual, K_laws_toResult, K_impl_ResultEqual, K_laws_eqResult, trivial⟩ Try.func4 (by decide) rfl (fun _ h => by cases h))
end Go.Proofs.Ytemeabdacejkpaa
