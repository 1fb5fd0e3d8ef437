/-
  The functions of this seat as plain Lean functions, and that the program computes them. No condition.
-/
import Derived.Test.YtjgmjljdhgfdhaaN37
import Derived.Test.Ytjgmjljdhgfdhaaa3X
import Derived.Test.YtjgmjljdhgfdhaaProg
import Derived.KernelRfl
namespace Go.Proofs.Ytjgmjljdhgfdhaa
open Go.Abs
set_option linter.unusedVariables false
set_option maxRecDepth 100000
abbrev D_Mode : Type := (Int × ((List Int) × ((List Int) × Unit)))
abbrev D_Activity : Type := ((List UInt8) × (Int × ((List D_Mode) × Unit)))
abbrev D_Link : Type := (Int × (Int × (Bool × (Int × Unit))))
abbrev D_Step : Type := (Int × (Int × Unit))
abbrev D_Resource : Type := ((List D_Step) × ((List (List Int)) × Unit))
abbrev D_Project : Type := (Int × ((List D_Activity) × ((List D_Link) × ((List D_Resource) × ((List Int) × Unit)))))
abbrev D_Delay : Type := (Int × (Int × D_Step))
theorem tn3 : TnOk Try.prog 3 (.int .i64) := ⟨Try.underlying3, fun _ h => (by cases h), Try.t3, rfl, rfl, fun _ _ => rfl⟩
theorem tn4 : TnOk Try.prog 4 (.bool) := ⟨Try.underlying4, fun _ h => (by cases h), Try.t4, rfl, rfl, fun _ _ => rfl⟩
theorem tn5 : TnOk Try.prog 5 (.int .u8) := ⟨Try.underlying5, fun _ h => (by cases h), Try.t5, rfl, rfl, fun _ _ => rfl⟩
theorem tn9 : TnOk Try.prog 9 (.str) := ⟨Try.underlying9, fun _ h => (by cases h), Try.t9, rfl, rfl, fun _ _ => rfl⟩
theorem tn22 : TnOk Try.prog 22 (.sl 77 (.st [.str, .int .i64, .sl 123 (.st [.int .i64, .sl 3 (.int .i64), .sl 3 (.int .i64)])])) := ⟨⟨Try.underlying22, Try.t77, _, rfl, rfl, rfl, rfl, by decide, by decide, fun _ _ => rfl, fun k h => by cases h⟩, fun _ h => (by cases h), Try.t22, rfl, rfl, fun _ _ => rfl⟩
theorem tn23 : TnOk Try.prog 23 (.sl 95 (.st [.int .i64, .int .i64, .bool, .int .i64])) := ⟨⟨Try.underlying23, Try.t95, _, rfl, rfl, rfl, rfl, by decide, by decide, fun _ _ => rfl, fun k h => by cases h⟩, fun _ h => (by cases h), Try.t23, rfl, rfl, fun _ _ => rfl⟩
theorem tn24 : TnOk Try.prog 24 (.sl 81 (.st [.sl 127 (.st [.int .i64, .int .i64]), .sl 25 (.sl 3 (.int .i64))])) := ⟨⟨Try.underlying24, Try.t81, _, rfl, rfl, rfl, rfl, by decide, by decide, fun _ _ => rfl, fun k h => by cases h⟩, fun _ h => (by cases h), Try.t24, rfl, rfl, fun _ _ => rfl⟩
theorem tn25 : TnOk Try.prog 25 (.sl 3 (.int .i64)) := ⟨⟨Try.underlying25, Try.t3, _, rfl, rfl, rfl, rfl, by decide, by decide, fun _ _ => rfl, fun k h => by cases h; exact Try.underlying3⟩, fun _ h => (by cases h), Try.t25, rfl, rfl, fun _ _ => rfl⟩
theorem tn26 : TnOk Try.prog 26 (.st [.int .i64, .sl 77 (.st [.str, .int .i64, .sl 123 (.st [.int .i64, .sl 3 (.int .i64), .sl 3 (.int .i64)])]), .sl 95 (.st [.int .i64, .int .i64, .bool, .int .i64]), .sl 81 (.st [.sl 127 (.st [.int .i64, .int .i64]), .sl 25 (.sl 3 (.int .i64))]), .sl 3 (.int .i64)]) := ⟨⟨_, Try.underlying26, Try.eqGuardType26, Try.stoodInHeld26, rfl, fun j τ h => by
    cases j with
    | zero => cases h; exact ⟨_, _, rfl, rfl, by decide, by decide, Try.underlying3, rfl, fun us h => by cases h⟩
    | succ j =>
     cases j with
     | zero => cases h; exact ⟨_, _, rfl, rfl, by decide, by decide, Try.underlying22, rfl, fun us h => by cases h⟩
     | succ j =>
      cases j with
      | zero => cases h; exact ⟨_, _, rfl, rfl, by decide, by decide, Try.underlying23, rfl, fun us h => by cases h⟩
      | succ j =>
       cases j with
       | zero => cases h; exact ⟨_, _, rfl, rfl, by decide, by decide, Try.underlying24, rfl, fun us h => by cases h⟩
       | succ j =>
        cases j with
        | zero => cases h; exact ⟨_, _, rfl, rfl, by decide, by decide, Try.underlying25, rfl, fun us h => by cases h⟩
        | succ j =>
         cases h⟩, (fun us hus fs hfs j τ h f hf => by
    cases hus
    rw [Try.underlying26] at hfs
    cases hfs
    cases j with
    | zero => cases h; cases hf; exact ⟨fun k e => by cases e; exact Try.underlying3, fun e => (by cases e), fun e => (by cases e)⟩
    | succ j =>
     cases j with
     | zero => cases h; cases hf; exact ⟨fun k e => (by cases e), fun e => (by cases e), fun e => (by cases e)⟩
     | succ j =>
      cases j with
      | zero => cases h; cases hf; exact ⟨fun k e => (by cases e), fun e => (by cases e), fun e => (by cases e)⟩
      | succ j =>
       cases j with
       | zero => cases h; cases hf; exact ⟨fun k e => (by cases e), fun e => (by cases e), fun e => (by cases e)⟩
       | succ j =>
        cases j with
        | zero => cases h; cases hf; exact ⟨fun k e => (by cases e), fun e => (by cases e), fun e => (by cases e)⟩
        | succ j =>
         cases h), Try.t26, rfl, rfl, fun _ _ => rfl⟩
theorem tn27 : TnOk Try.prog 27 (.st [.int .i64, .sl 77 (.st [.str, .int .i64, .sl 123 (.st [.int .i64, .sl 3 (.int .i64), .sl 3 (.int .i64)])]), .sl 95 (.st [.int .i64, .int .i64, .bool, .int .i64]), .sl 81 (.st [.sl 127 (.st [.int .i64, .int .i64]), .sl 25 (.sl 3 (.int .i64))]), .sl 3 (.int .i64)]) := ⟨⟨_, Try.underlying27, Try.eqGuardType27, Try.stoodInHeld27, rfl, fun j τ h => by
    cases j with
    | zero => cases h; exact ⟨_, _, rfl, rfl, by decide, by decide, Try.underlying3, rfl, fun us h => by cases h⟩
    | succ j =>
     cases j with
     | zero => cases h; exact ⟨_, _, rfl, rfl, by decide, by decide, Try.underlying22, rfl, fun us h => by cases h⟩
     | succ j =>
      cases j with
      | zero => cases h; exact ⟨_, _, rfl, rfl, by decide, by decide, Try.underlying23, rfl, fun us h => by cases h⟩
      | succ j =>
       cases j with
       | zero => cases h; exact ⟨_, _, rfl, rfl, by decide, by decide, Try.underlying24, rfl, fun us h => by cases h⟩
       | succ j =>
        cases j with
        | zero => cases h; exact ⟨_, _, rfl, rfl, by decide, by decide, Try.underlying25, rfl, fun us h => by cases h⟩
        | succ j =>
         cases h⟩, (fun us hus fs hfs j τ h f hf => by
    cases hus
    rw [Try.underlying27] at hfs
    cases hfs
    cases j with
    | zero => cases h; cases hf; exact ⟨fun k e => by cases e; exact Try.underlying3, fun e => (by cases e), fun e => (by cases e)⟩
    | succ j =>
     cases j with
     | zero => cases h; cases hf; exact ⟨fun k e => (by cases e), fun e => (by cases e), fun e => (by cases e)⟩
     | succ j =>
      cases j with
      | zero => cases h; cases hf; exact ⟨fun k e => (by cases e), fun e => (by cases e), fun e => (by cases e)⟩
      | succ j =>
       cases j with
       | zero => cases h; cases hf; exact ⟨fun k e => (by cases e), fun e => (by cases e), fun e => (by cases e)⟩
       | succ j =>
        cases j with
        | zero => cases h; cases hf; exact ⟨fun k e => (by cases e), fun e => (by cases e), fun e => (by cases e)⟩
        | succ j =>
         cases h), Try.t27, rfl, rfl, fun _ _ => rfl⟩
theorem tn28 : TnOk Try.prog 28 (.st [.int .i64, .int .i64, .int .i64, .int .i64]) := ⟨⟨_, Try.underlying28, Try.eqGuardType28, Try.stoodInHeld28, rfl, fun j τ h => by
    cases j with
    | zero => cases h; exact ⟨_, _, rfl, rfl, by decide, by decide, Try.underlying3, rfl, fun us h => by cases h⟩
    | succ j =>
     cases j with
     | zero => cases h; exact ⟨_, _, rfl, rfl, by decide, by decide, Try.underlying3, rfl, fun us h => by cases h⟩
     | succ j =>
      cases j with
      | zero => cases h; exact ⟨_, _, rfl, rfl, by decide, by decide, Try.underlying3, rfl, fun us h => by cases h⟩
      | succ j =>
       cases j with
       | zero => cases h; exact ⟨_, _, rfl, rfl, by decide, by decide, Try.underlying3, rfl, fun us h => by cases h⟩
       | succ j =>
        cases h⟩, (fun us hus fs hfs j τ h f hf => by
    cases hus
    rw [Try.underlying28] at hfs
    cases hfs
    cases j with
    | zero => cases h; cases hf; exact ⟨fun k e => by cases e; exact Try.underlying3, fun e => (by cases e), fun e => (by cases e)⟩
    | succ j =>
     cases j with
     | zero => cases h; cases hf; exact ⟨fun k e => by cases e; exact Try.underlying3, fun e => (by cases e), fun e => (by cases e)⟩
     | succ j =>
      cases j with
      | zero => cases h; cases hf; exact ⟨fun k e => by cases e; exact Try.underlying3, fun e => (by cases e), fun e => (by cases e)⟩
      | succ j =>
       cases j with
       | zero => cases h; cases hf; exact ⟨fun k e => by cases e; exact Try.underlying3, fun e => (by cases e), fun e => (by cases e)⟩
       | succ j =>
        cases h), Try.t28, rfl, rfl, fun _ _ => rfl⟩
theorem tn29 : TnOk Try.prog 29 (.st [.int .i64, .int .i64, .int .i64, .int .i64]) := ⟨⟨_, Try.underlying29, Try.eqGuardType29, Try.stoodInHeld29, rfl, fun j τ h => by
    cases j with
    | zero => cases h; exact ⟨_, _, rfl, rfl, by decide, by decide, Try.underlying3, rfl, fun us h => by cases h⟩
    | succ j =>
     cases j with
     | zero => cases h; exact ⟨_, _, rfl, rfl, by decide, by decide, Try.underlying3, rfl, fun us h => by cases h⟩
     | succ j =>
      cases j with
      | zero => cases h; exact ⟨_, _, rfl, rfl, by decide, by decide, Try.underlying3, rfl, fun us h => by cases h⟩
      | succ j =>
       cases j with
       | zero => cases h; exact ⟨_, _, rfl, rfl, by decide, by decide, Try.underlying3, rfl, fun us h => by cases h⟩
       | succ j =>
        cases h⟩, (fun us hus fs hfs j τ h f hf => by
    cases hus
    rw [Try.underlying29] at hfs
    cases hfs
    cases j with
    | zero => cases h; cases hf; exact ⟨fun k e => by cases e; exact Try.underlying3, fun e => (by cases e), fun e => (by cases e)⟩
    | succ j =>
     cases j with
     | zero => cases h; cases hf; exact ⟨fun k e => by cases e; exact Try.underlying3, fun e => (by cases e), fun e => (by cases e)⟩
     | succ j =>
      cases j with
      | zero => cases h; cases hf; exact ⟨fun k e => by cases e; exact Try.underlying3, fun e => (by cases e), fun e => (by cases e)⟩
      | succ j =>
       cases j with
       | zero => cases h; cases hf; exact ⟨fun k e => by cases e; exact Try.underlying3, fun e => (by cases e), fun e => (by cases e)⟩
       | succ j =>
        cases h), Try.t29, rfl, rfl, fun _ _ => rfl⟩
theorem tn30 : TnOk Try.prog 30 (.fn [.st [.int .i64, .sl 77 (.st [.str, .int .i64, .sl 123 (.st [.int .i64, .sl 3 (.int .i64), .sl 3 (.int .i64)])]), .sl 95 (.st [.int .i64, .int .i64, .bool, .int .i64]), .sl 81 (.st [.sl 127 (.st [.int .i64, .int .i64]), .sl 25 (.sl 3 (.int .i64))]), .sl 3 (.int .i64)], .int .i64] (.int .i64)) := ⟨⟨_, _, _, Try.underlying30⟩, fun _ h => (by cases h), Try.t30, rfl, rfl, fun _ h => by cases h⟩
theorem tn31 : TnOk Try.prog 31 (.sl 52 (.st [.str, .int .i64, .sl 54 (.st [.int .i64, .sl 3 (.int .i64), .sl 3 (.int .i64)])])) := ⟨⟨Try.underlying31, Try.t52, _, rfl, rfl, rfl, rfl, by decide, by decide, fun _ _ => rfl, fun k h => by cases h⟩, fun _ h => (by cases h), Try.t31, rfl, rfl, fun _ _ => rfl⟩
theorem tn32 : TnOk Try.prog 32 (.sl 92 (.st [.int .i64, .int .i64, .bool, .int .i64])) := ⟨⟨Try.underlying32, Try.t92, _, rfl, rfl, rfl, rfl, by decide, by decide, fun _ _ => rfl, fun k h => by cases h⟩, fun _ h => (by cases h), Try.t32, rfl, rfl, fun _ _ => rfl⟩
theorem tn33 : TnOk Try.prog 33 (.sl 60 (.st [.sl 85 (.st [.int .i64, .int .i64]), .sl 25 (.sl 3 (.int .i64))])) := ⟨⟨Try.underlying33, Try.t60, _, rfl, rfl, rfl, rfl, by decide, by decide, fun _ _ => rfl, fun k h => by cases h⟩, fun _ h => (by cases h), Try.t33, rfl, rfl, fun _ _ => rfl⟩
theorem tn34 : TnOk Try.prog 34 (.st [.int .i64, .sl 52 (.st [.str, .int .i64, .sl 54 (.st [.int .i64, .sl 3 (.int .i64), .sl 3 (.int .i64)])]), .sl 92 (.st [.int .i64, .int .i64, .bool, .int .i64]), .sl 60 (.st [.sl 85 (.st [.int .i64, .int .i64]), .sl 25 (.sl 3 (.int .i64))]), .sl 3 (.int .i64)]) := ⟨⟨_, Try.underlying34, Try.eqGuardType34, Try.stoodInHeld34, rfl, fun j τ h => by
    cases j with
    | zero => cases h; exact ⟨_, _, rfl, rfl, by decide, by decide, Try.underlying3, rfl, fun us h => by cases h⟩
    | succ j =>
     cases j with
     | zero => cases h; exact ⟨_, _, rfl, rfl, by decide, by decide, Try.underlying31, rfl, fun us h => by cases h⟩
     | succ j =>
      cases j with
      | zero => cases h; exact ⟨_, _, rfl, rfl, by decide, by decide, Try.underlying32, rfl, fun us h => by cases h⟩
      | succ j =>
       cases j with
       | zero => cases h; exact ⟨_, _, rfl, rfl, by decide, by decide, Try.underlying33, rfl, fun us h => by cases h⟩
       | succ j =>
        cases j with
        | zero => cases h; exact ⟨_, _, rfl, rfl, by decide, by decide, Try.underlying25, rfl, fun us h => by cases h⟩
        | succ j =>
         cases h⟩, (fun us hus fs hfs j τ h f hf => by
    cases hus
    rw [Try.underlying34] at hfs
    cases hfs
    cases j with
    | zero => cases h; cases hf; exact ⟨fun k e => by cases e; exact Try.underlying3, fun e => (by cases e), fun e => (by cases e)⟩
    | succ j =>
     cases j with
     | zero => cases h; cases hf; exact ⟨fun k e => (by cases e), fun e => (by cases e), fun e => (by cases e)⟩
     | succ j =>
      cases j with
      | zero => cases h; cases hf; exact ⟨fun k e => (by cases e), fun e => (by cases e), fun e => (by cases e)⟩
      | succ j =>
       cases j with
       | zero => cases h; cases hf; exact ⟨fun k e => (by cases e), fun e => (by cases e), fun e => (by cases e)⟩
       | succ j =>
        cases j with
        | zero => cases h; cases hf; exact ⟨fun k e => (by cases e), fun e => (by cases e), fun e => (by cases e)⟩
        | succ j =>
         cases h), Try.t34, rfl, rfl, fun _ _ => rfl⟩
theorem tn35 : TnOk Try.prog 35 (.st [.int .i64, .sl 52 (.st [.str, .int .i64, .sl 54 (.st [.int .i64, .sl 3 (.int .i64), .sl 3 (.int .i64)])]), .sl 92 (.st [.int .i64, .int .i64, .bool, .int .i64]), .sl 60 (.st [.sl 85 (.st [.int .i64, .int .i64]), .sl 25 (.sl 3 (.int .i64))]), .sl 3 (.int .i64)]) := ⟨⟨_, Try.underlying35, Try.eqGuardType35, Try.stoodInHeld35, rfl, fun j τ h => by
    cases j with
    | zero => cases h; exact ⟨_, _, rfl, rfl, by decide, by decide, Try.underlying3, rfl, fun us h => by cases h⟩
    | succ j =>
     cases j with
     | zero => cases h; exact ⟨_, _, rfl, rfl, by decide, by decide, Try.underlying31, rfl, fun us h => by cases h⟩
     | succ j =>
      cases j with
      | zero => cases h; exact ⟨_, _, rfl, rfl, by decide, by decide, Try.underlying32, rfl, fun us h => by cases h⟩
      | succ j =>
       cases j with
       | zero => cases h; exact ⟨_, _, rfl, rfl, by decide, by decide, Try.underlying33, rfl, fun us h => by cases h⟩
       | succ j =>
        cases j with
        | zero => cases h; exact ⟨_, _, rfl, rfl, by decide, by decide, Try.underlying25, rfl, fun us h => by cases h⟩
        | succ j =>
         cases h⟩, (fun us hus fs hfs j τ h f hf => by
    cases hus
    rw [Try.underlying35] at hfs
    cases hfs
    cases j with
    | zero => cases h; cases hf; exact ⟨fun k e => by cases e; exact Try.underlying3, fun e => (by cases e), fun e => (by cases e)⟩
    | succ j =>
     cases j with
     | zero => cases h; cases hf; exact ⟨fun k e => (by cases e), fun e => (by cases e), fun e => (by cases e)⟩
     | succ j =>
      cases j with
      | zero => cases h; cases hf; exact ⟨fun k e => (by cases e), fun e => (by cases e), fun e => (by cases e)⟩
      | succ j =>
       cases j with
       | zero => cases h; cases hf; exact ⟨fun k e => (by cases e), fun e => (by cases e), fun e => (by cases e)⟩
       | succ j =>
        cases j with
        | zero => cases h; cases hf; exact ⟨fun k e => (by cases e), fun e => (by cases e), fun e => (by cases e)⟩
        | succ j =>
         cases h), Try.t35, rfl, rfl, fun _ _ => rfl⟩
theorem tn37 : TnOk Try.prog 37 (.fn [.st [.int .i64, .sl 52 (.st [.str, .int .i64, .sl 54 (.st [.int .i64, .sl 3 (.int .i64), .sl 3 (.int .i64)])]), .sl 92 (.st [.int .i64, .int .i64, .bool, .int .i64]), .sl 60 (.st [.sl 85 (.st [.int .i64, .int .i64]), .sl 25 (.sl 3 (.int .i64))]), .sl 3 (.int .i64)], .st [.int .i64, .int .i64, .int .i64, .int .i64]] (.tup [.st [.int .i64, .sl 52 (.st [.str, .int .i64, .sl 54 (.st [.int .i64, .sl 3 (.int .i64), .sl 3 (.int .i64)])]), .sl 92 (.st [.int .i64, .int .i64, .bool, .int .i64]), .sl 60 (.st [.sl 85 (.st [.int .i64, .int .i64]), .sl 25 (.sl 3 (.int .i64))]), .sl 3 (.int .i64)], .bool])) := ⟨⟨_, _, _, Try.underlying37⟩, fun _ h => (by cases h), Try.t37, rfl, rfl, fun _ h => by cases h⟩
theorem tn38 : TnOk Try.prog 38 (.fn [.st [.int .i64, .sl 77 (.st [.str, .int .i64, .sl 123 (.st [.int .i64, .sl 3 (.int .i64), .sl 3 (.int .i64)])]), .sl 95 (.st [.int .i64, .int .i64, .bool, .int .i64]), .sl 81 (.st [.sl 127 (.st [.int .i64, .int .i64]), .sl 25 (.sl 3 (.int .i64))]), .sl 3 (.int .i64)]] (.st [.int .i64, .sl 52 (.st [.str, .int .i64, .sl 54 (.st [.int .i64, .sl 3 (.int .i64), .sl 3 (.int .i64)])]), .sl 92 (.st [.int .i64, .int .i64, .bool, .int .i64]), .sl 60 (.st [.sl 85 (.st [.int .i64, .int .i64]), .sl 25 (.sl 3 (.int .i64))]), .sl 3 (.int .i64)])) := ⟨⟨_, _, _, Try.underlying38⟩, fun _ h => (by cases h), Try.t38, rfl, rfl, fun _ h => by cases h⟩
theorem tn39 : TnOk Try.prog 39 (.st [.int .i64, .int .i64, .int .i64, .int .i64]) := ⟨⟨_, Try.underlying39, Try.eqGuardType39, Try.stoodInHeld39, rfl, fun j τ h => by
    cases j with
    | zero => cases h; exact ⟨_, _, rfl, rfl, by decide, by decide, Try.underlying3, rfl, fun us h => by cases h⟩
    | succ j =>
     cases j with
     | zero => cases h; exact ⟨_, _, rfl, rfl, by decide, by decide, Try.underlying3, rfl, fun us h => by cases h⟩
     | succ j =>
      cases j with
      | zero => cases h; exact ⟨_, _, rfl, rfl, by decide, by decide, Try.underlying3, rfl, fun us h => by cases h⟩
      | succ j =>
       cases j with
       | zero => cases h; exact ⟨_, _, rfl, rfl, by decide, by decide, Try.underlying3, rfl, fun us h => by cases h⟩
       | succ j =>
        cases h⟩, (fun us hus fs hfs j τ h f hf => by
    cases hus
    rw [Try.underlying39] at hfs
    cases hfs
    cases j with
    | zero => cases h; cases hf; exact ⟨fun k e => by cases e; exact Try.underlying3, fun e => (by cases e), fun e => (by cases e)⟩
    | succ j =>
     cases j with
     | zero => cases h; cases hf; exact ⟨fun k e => by cases e; exact Try.underlying3, fun e => (by cases e), fun e => (by cases e)⟩
     | succ j =>
      cases j with
      | zero => cases h; cases hf; exact ⟨fun k e => by cases e; exact Try.underlying3, fun e => (by cases e), fun e => (by cases e)⟩
      | succ j =>
       cases j with
       | zero => cases h; cases hf; exact ⟨fun k e => by cases e; exact Try.underlying3, fun e => (by cases e), fun e => (by cases e)⟩
       | succ j =>
        cases h), Try.t39, rfl, rfl, fun _ _ => rfl⟩
theorem tn40 : TnOk Try.prog 40 (.fn [.st [.int .i64, .int .i64, .int .i64, .int .i64]] (.st [.int .i64, .int .i64, .int .i64, .int .i64])) := ⟨⟨_, _, _, Try.underlying40⟩, fun _ h => (by cases h), Try.t40, rfl, rfl, fun _ h => by cases h⟩
theorem tn41 : TnOk Try.prog 41 (.fn [.st [.int .i64, .sl 52 (.st [.str, .int .i64, .sl 54 (.st [.int .i64, .sl 3 (.int .i64), .sl 3 (.int .i64)])]), .sl 92 (.st [.int .i64, .int .i64, .bool, .int .i64]), .sl 60 (.st [.sl 85 (.st [.int .i64, .int .i64]), .sl 25 (.sl 3 (.int .i64))]), .sl 3 (.int .i64)], .st [.int .i64, .sl 52 (.st [.str, .int .i64, .sl 54 (.st [.int .i64, .sl 3 (.int .i64), .sl 3 (.int .i64)])]), .sl 92 (.st [.int .i64, .int .i64, .bool, .int .i64]), .sl 60 (.st [.sl 85 (.st [.int .i64, .int .i64]), .sl 25 (.sl 3 (.int .i64))]), .sl 3 (.int .i64)]] (.bool)) := ⟨⟨_, _, _, Try.underlying41⟩, fun _ h => (by cases h), Try.t41, rfl, rfl, fun _ h => by cases h⟩
theorem tn42 : TnOk Try.prog 42 (.fn [.st [.int .i64, .sl 52 (.st [.str, .int .i64, .sl 54 (.st [.int .i64, .sl 3 (.int .i64), .sl 3 (.int .i64)])]), .sl 92 (.st [.int .i64, .int .i64, .bool, .int .i64]), .sl 60 (.st [.sl 85 (.st [.int .i64, .int .i64]), .sl 25 (.sl 3 (.int .i64))]), .sl 3 (.int .i64)], .int .i64] (.int .i64)) := ⟨⟨_, _, _, Try.underlying42⟩, fun _ h => (by cases h), Try.t42, rfl, rfl, fun _ h => by cases h⟩
theorem tn43 : TnOk Try.prog 43 (.fn [.st [.int .i64, .sl 77 (.st [.str, .int .i64, .sl 123 (.st [.int .i64, .sl 3 (.int .i64), .sl 3 (.int .i64)])]), .sl 95 (.st [.int .i64, .int .i64, .bool, .int .i64]), .sl 81 (.st [.sl 127 (.st [.int .i64, .int .i64]), .sl 25 (.sl 3 (.int .i64))]), .sl 3 (.int .i64)], .st [.int .i64, .int .i64, .int .i64, .int .i64]] (.bool)) := ⟨⟨_, _, _, Try.underlying43⟩, fun _ h => (by cases h), Try.t43, rfl, rfl, fun _ h => by cases h⟩
theorem tn44 : TnOk Try.prog 44 (.fn [.sl 77 (.st [.str, .int .i64, .sl 123 (.st [.int .i64, .sl 3 (.int .i64), .sl 3 (.int .i64)])]), .int .i64] (.int .i64)) := ⟨⟨_, _, _, Try.underlying44⟩, fun _ h => (by cases h), Try.t44, rfl, rfl, fun _ h => by cases h⟩
theorem tn45 : TnOk Try.prog 45 (.fn [.sl 95 (.st [.int .i64, .int .i64, .bool, .int .i64]), .int .i64] (.int .i64)) := ⟨⟨_, _, _, Try.underlying45⟩, fun _ h => (by cases h), Try.t45, rfl, rfl, fun _ h => by cases h⟩
theorem tn46 : TnOk Try.prog 46 (.fn [.sl 81 (.st [.sl 127 (.st [.int .i64, .int .i64]), .sl 25 (.sl 3 (.int .i64))]), .int .i64] (.int .i64)) := ⟨⟨_, _, _, Try.underlying46⟩, fun _ h => (by cases h), Try.t46, rfl, rfl, fun _ h => by cases h⟩
theorem tn47 : TnOk Try.prog 47 (.fn [.sl 3 (.int .i64), .int .i64] (.int .i64)) := ⟨⟨_, _, _, Try.underlying47⟩, fun _ h => (by cases h), Try.t47, rfl, rfl, fun _ h => by cases h⟩
theorem tn48 : TnOk Try.prog 48 (.fn [.st [.int .i64, .sl 52 (.st [.str, .int .i64, .sl 54 (.st [.int .i64, .sl 3 (.int .i64), .sl 3 (.int .i64)])]), .sl 92 (.st [.int .i64, .int .i64, .bool, .int .i64]), .sl 60 (.st [.sl 85 (.st [.int .i64, .int .i64]), .sl 25 (.sl 3 (.int .i64))]), .sl 3 (.int .i64)], .st [.int .i64, .int .i64, .int .i64, .int .i64]] (.bool)) := ⟨⟨_, _, _, Try.underlying48⟩, fun _ h => (by cases h), Try.t48, rfl, rfl, fun _ h => by cases h⟩
theorem tn49 : TnOk Try.prog 49 (.fn [.st [.int .i64, .sl 52 (.st [.str, .int .i64, .sl 54 (.st [.int .i64, .sl 3 (.int .i64), .sl 3 (.int .i64)])]), .sl 92 (.st [.int .i64, .int .i64, .bool, .int .i64]), .sl 60 (.st [.sl 85 (.st [.int .i64, .int .i64]), .sl 25 (.sl 3 (.int .i64))]), .sl 3 (.int .i64)]] (.st [.int .i64, .sl 52 (.st [.str, .int .i64, .sl 54 (.st [.int .i64, .sl 3 (.int .i64), .sl 3 (.int .i64)])]), .sl 92 (.st [.int .i64, .int .i64, .bool, .int .i64]), .sl 60 (.st [.sl 85 (.st [.int .i64, .int .i64]), .sl 25 (.sl 3 (.int .i64))]), .sl 3 (.int .i64)])) := ⟨⟨_, _, _, Try.underlying49⟩, fun _ h => (by cases h), Try.t49, rfl, rfl, fun _ h => by cases h⟩
theorem tn50 : TnOk Try.prog 50 (.sl 54 (.st [.int .i64, .sl 3 (.int .i64), .sl 3 (.int .i64)])) := ⟨⟨Try.underlying50, Try.t54, _, rfl, rfl, rfl, rfl, by decide, by decide, fun _ _ => rfl, fun k h => by cases h⟩, fun _ h => (by cases h), Try.t50, rfl, rfl, fun _ _ => rfl⟩
theorem tn51 : TnOk Try.prog 51 (.st [.str, .int .i64, .sl 54 (.st [.int .i64, .sl 3 (.int .i64), .sl 3 (.int .i64)])]) := ⟨⟨_, Try.underlying51, Try.eqGuardType51, Try.stoodInHeld51, rfl, fun j τ h => by
    cases j with
    | zero => cases h; exact ⟨_, _, rfl, rfl, by decide, by decide, Try.underlying9, rfl, fun us h => by cases h⟩
    | succ j =>
     cases j with
     | zero => cases h; exact ⟨_, _, rfl, rfl, by decide, by decide, Try.underlying3, rfl, fun us h => by cases h⟩
     | succ j =>
      cases j with
      | zero => cases h; exact ⟨_, _, rfl, rfl, by decide, by decide, Try.underlying50, rfl, fun us h => by cases h⟩
      | succ j =>
       cases h⟩, (fun us hus fs hfs j τ h f hf => by
    cases hus
    rw [Try.underlying51] at hfs
    cases hfs
    cases j with
    | zero => cases h; cases hf; exact ⟨fun k e => (by cases e), fun e => (by cases e), fun _ => Try.underlying9⟩
    | succ j =>
     cases j with
     | zero => cases h; cases hf; exact ⟨fun k e => by cases e; exact Try.underlying3, fun e => (by cases e), fun e => (by cases e)⟩
     | succ j =>
      cases j with
      | zero => cases h; cases hf; exact ⟨fun k e => (by cases e), fun e => (by cases e), fun e => (by cases e)⟩
      | succ j =>
       cases h), Try.t51, rfl, rfl, fun _ _ => rfl⟩
theorem tn52 : TnOk Try.prog 52 (.st [.str, .int .i64, .sl 54 (.st [.int .i64, .sl 3 (.int .i64), .sl 3 (.int .i64)])]) := ⟨⟨_, Try.underlying52, Try.eqGuardType52, Try.stoodInHeld52, rfl, fun j τ h => by
    cases j with
    | zero => cases h; exact ⟨_, _, rfl, rfl, by decide, by decide, Try.underlying9, rfl, fun us h => by cases h⟩
    | succ j =>
     cases j with
     | zero => cases h; exact ⟨_, _, rfl, rfl, by decide, by decide, Try.underlying3, rfl, fun us h => by cases h⟩
     | succ j =>
      cases j with
      | zero => cases h; exact ⟨_, _, rfl, rfl, by decide, by decide, Try.underlying50, rfl, fun us h => by cases h⟩
      | succ j =>
       cases h⟩, (fun us hus fs hfs j τ h f hf => by
    cases hus
    rw [Try.underlying52] at hfs
    cases hfs
    cases j with
    | zero => cases h; cases hf; exact ⟨fun k e => (by cases e), fun e => (by cases e), fun _ => Try.underlying9⟩
    | succ j =>
     cases j with
     | zero => cases h; cases hf; exact ⟨fun k e => by cases e; exact Try.underlying3, fun e => (by cases e), fun e => (by cases e)⟩
     | succ j =>
      cases j with
      | zero => cases h; cases hf; exact ⟨fun k e => (by cases e), fun e => (by cases e), fun e => (by cases e)⟩
      | succ j =>
       cases h), Try.t52, rfl, rfl, fun _ _ => rfl⟩
theorem tn53 : TnOk Try.prog 53 (.st [.int .i64, .sl 3 (.int .i64), .sl 3 (.int .i64)]) := ⟨⟨_, Try.underlying53, Try.eqGuardType53, Try.stoodInHeld53, rfl, fun j τ h => by
    cases j with
    | zero => cases h; exact ⟨_, _, rfl, rfl, by decide, by decide, Try.underlying3, rfl, fun us h => by cases h⟩
    | succ j =>
     cases j with
     | zero => cases h; exact ⟨_, _, rfl, rfl, by decide, by decide, Try.underlying25, rfl, fun us h => by cases h⟩
     | succ j =>
      cases j with
      | zero => cases h; exact ⟨_, _, rfl, rfl, by decide, by decide, Try.underlying25, rfl, fun us h => by cases h⟩
      | succ j =>
       cases h⟩, (fun us hus fs hfs j τ h f hf => by
    cases hus
    rw [Try.underlying53] at hfs
    cases hfs
    cases j with
    | zero => cases h; cases hf; exact ⟨fun k e => by cases e; exact Try.underlying3, fun e => (by cases e), fun e => (by cases e)⟩
    | succ j =>
     cases j with
     | zero => cases h; cases hf; exact ⟨fun k e => (by cases e), fun e => (by cases e), fun e => (by cases e)⟩
     | succ j =>
      cases j with
      | zero => cases h; cases hf; exact ⟨fun k e => (by cases e), fun e => (by cases e), fun e => (by cases e)⟩
      | succ j =>
       cases h), Try.t53, rfl, rfl, fun _ _ => rfl⟩
theorem tn54 : TnOk Try.prog 54 (.st [.int .i64, .sl 3 (.int .i64), .sl 3 (.int .i64)]) := ⟨⟨_, Try.underlying54, Try.eqGuardType54, Try.stoodInHeld54, rfl, fun j τ h => by
    cases j with
    | zero => cases h; exact ⟨_, _, rfl, rfl, by decide, by decide, Try.underlying3, rfl, fun us h => by cases h⟩
    | succ j =>
     cases j with
     | zero => cases h; exact ⟨_, _, rfl, rfl, by decide, by decide, Try.underlying25, rfl, fun us h => by cases h⟩
     | succ j =>
      cases j with
      | zero => cases h; exact ⟨_, _, rfl, rfl, by decide, by decide, Try.underlying25, rfl, fun us h => by cases h⟩
      | succ j =>
       cases h⟩, (fun us hus fs hfs j τ h f hf => by
    cases hus
    rw [Try.underlying54] at hfs
    cases hfs
    cases j with
    | zero => cases h; cases hf; exact ⟨fun k e => by cases e; exact Try.underlying3, fun e => (by cases e), fun e => (by cases e)⟩
    | succ j =>
     cases j with
     | zero => cases h; cases hf; exact ⟨fun k e => (by cases e), fun e => (by cases e), fun e => (by cases e)⟩
     | succ j =>
      cases j with
      | zero => cases h; cases hf; exact ⟨fun k e => (by cases e), fun e => (by cases e), fun e => (by cases e)⟩
      | succ j =>
       cases h), Try.t54, rfl, rfl, fun _ _ => rfl⟩
theorem tn55 : TnOk Try.prog 55 (.fn [.int .i64, .int .i64] (.int .i64)) := ⟨⟨_, _, _, Try.underlying55⟩, fun _ h => (by cases h), Try.t55, rfl, rfl, fun _ h => by cases h⟩
theorem tn56 : TnOk Try.prog 56 (.sl 85 (.st [.int .i64, .int .i64])) := ⟨⟨Try.underlying56, Try.t85, _, rfl, rfl, rfl, rfl, by decide, by decide, fun _ _ => rfl, fun k h => by cases h⟩, fun _ h => (by cases h), Try.t56, rfl, rfl, fun _ _ => rfl⟩
theorem tn57 : TnOk Try.prog 57 (.fn [.sl 85 (.st [.int .i64, .int .i64]), .int .i64, .int .i64] (.sl 85 (.st [.int .i64, .int .i64]))) := ⟨⟨_, _, _, Try.underlying57⟩, fun _ h => (by cases h), Try.t57, rfl, rfl, fun _ h => by cases h⟩
theorem tn58 : TnOk Try.prog 58 (.sl 25 (.sl 3 (.int .i64))) := ⟨⟨Try.underlying58, Try.t25, _, rfl, rfl, rfl, rfl, by decide, by decide, fun _ _ => rfl, fun k h => by cases h⟩, fun _ h => (by cases h), Try.t58, rfl, rfl, fun _ _ => rfl⟩
theorem tn59 : TnOk Try.prog 59 (.st [.sl 85 (.st [.int .i64, .int .i64]), .sl 25 (.sl 3 (.int .i64))]) := ⟨⟨_, Try.underlying59, Try.eqGuardType59, Try.stoodInHeld59, rfl, fun j τ h => by
    cases j with
    | zero => cases h; exact ⟨_, _, rfl, rfl, by decide, by decide, Try.underlying56, rfl, fun us h => by cases h⟩
    | succ j =>
     cases j with
     | zero => cases h; exact ⟨_, _, rfl, rfl, by decide, by decide, Try.underlying58, rfl, fun us h => by cases h⟩
     | succ j =>
      cases h⟩, (fun us hus fs hfs j τ h f hf => by
    cases hus
    rw [Try.underlying59] at hfs
    cases hfs
    cases j with
    | zero => cases h; cases hf; exact ⟨fun k e => (by cases e), fun e => (by cases e), fun e => (by cases e)⟩
    | succ j =>
     cases j with
     | zero => cases h; cases hf; exact ⟨fun k e => (by cases e), fun e => (by cases e), fun e => (by cases e)⟩
     | succ j =>
      cases h), Try.t59, rfl, rfl, fun _ _ => rfl⟩
theorem tn60 : TnOk Try.prog 60 (.st [.sl 85 (.st [.int .i64, .int .i64]), .sl 25 (.sl 3 (.int .i64))]) := ⟨⟨_, Try.underlying60, Try.eqGuardType60, Try.stoodInHeld60, rfl, fun j τ h => by
    cases j with
    | zero => cases h; exact ⟨_, _, rfl, rfl, by decide, by decide, Try.underlying56, rfl, fun us h => by cases h⟩
    | succ j =>
     cases j with
     | zero => cases h; exact ⟨_, _, rfl, rfl, by decide, by decide, Try.underlying58, rfl, fun us h => by cases h⟩
     | succ j =>
      cases h⟩, (fun us hus fs hfs j τ h f hf => by
    cases hus
    rw [Try.underlying60] at hfs
    cases hfs
    cases j with
    | zero => cases h; cases hf; exact ⟨fun k e => (by cases e), fun e => (by cases e), fun e => (by cases e)⟩
    | succ j =>
     cases j with
     | zero => cases h; cases hf; exact ⟨fun k e => (by cases e), fun e => (by cases e), fun e => (by cases e)⟩
     | succ j =>
      cases h), Try.t60, rfl, rfl, fun _ _ => rfl⟩
theorem tn61 : TnOk Try.prog 61 (.fn [.st [.int .i64, .sl 52 (.st [.str, .int .i64, .sl 54 (.st [.int .i64, .sl 3 (.int .i64), .sl 3 (.int .i64)])]), .sl 92 (.st [.int .i64, .int .i64, .bool, .int .i64]), .sl 60 (.st [.sl 85 (.st [.int .i64, .int .i64]), .sl 25 (.sl 3 (.int .i64))]), .sl 3 (.int .i64)]] (.bool)) := ⟨⟨_, _, _, Try.underlying61⟩, fun _ h => (by cases h), Try.t61, rfl, rfl, fun _ h => by cases h⟩
theorem tn62 : TnOk Try.prog 62 (.fn [.sl 77 (.st [.str, .int .i64, .sl 123 (.st [.int .i64, .sl 3 (.int .i64), .sl 3 (.int .i64)])])] (.sl 52 (.st [.str, .int .i64, .sl 54 (.st [.int .i64, .sl 3 (.int .i64), .sl 3 (.int .i64)])]))) := ⟨⟨_, _, _, Try.underlying62⟩, fun _ h => (by cases h), Try.t62, rfl, rfl, fun _ h => by cases h⟩
theorem tn63 : TnOk Try.prog 63 (.fn [.sl 95 (.st [.int .i64, .int .i64, .bool, .int .i64])] (.sl 92 (.st [.int .i64, .int .i64, .bool, .int .i64]))) := ⟨⟨_, _, _, Try.underlying63⟩, fun _ h => (by cases h), Try.t63, rfl, rfl, fun _ h => by cases h⟩
theorem tn64 : TnOk Try.prog 64 (.fn [.sl 81 (.st [.sl 127 (.st [.int .i64, .int .i64]), .sl 25 (.sl 3 (.int .i64))])] (.sl 60 (.st [.sl 85 (.st [.int .i64, .int .i64]), .sl 25 (.sl 3 (.int .i64))]))) := ⟨⟨_, _, _, Try.underlying64⟩, fun _ h => (by cases h), Try.t64, rfl, rfl, fun _ h => by cases h⟩
theorem tn65 : TnOk Try.prog 65 (.fn [.sl 3 (.int .i64)] (.sl 3 (.int .i64))) := ⟨⟨_, _, _, Try.underlying65⟩, fun _ h => (by cases h), Try.t65, rfl, rfl, fun _ h => by cases h⟩
theorem tn66 : TnOk Try.prog 66 (.fn [] (.st [.int .i64, .sl 52 (.st [.str, .int .i64, .sl 54 (.st [.int .i64, .sl 3 (.int .i64), .sl 3 (.int .i64)])]), .sl 92 (.st [.int .i64, .int .i64, .bool, .int .i64]), .sl 60 (.st [.sl 85 (.st [.int .i64, .int .i64]), .sl 25 (.sl 3 (.int .i64))]), .sl 3 (.int .i64)])) := ⟨⟨_, _, _, Try.underlying66⟩, fun _ h => (by cases h), Try.t66, rfl, rfl, fun _ h => by cases h⟩
theorem tn67 : TnOk Try.prog 67 (.fn [.sl 52 (.st [.str, .int .i64, .sl 54 (.st [.int .i64, .sl 3 (.int .i64), .sl 3 (.int .i64)])]), .sl 52 (.st [.str, .int .i64, .sl 54 (.st [.int .i64, .sl 3 (.int .i64), .sl 3 (.int .i64)])])] (.bool)) := ⟨⟨_, _, _, Try.underlying67⟩, fun _ h => (by cases h), Try.t67, rfl, rfl, fun _ h => by cases h⟩
theorem tn68 : TnOk Try.prog 68 (.fn [.sl 92 (.st [.int .i64, .int .i64, .bool, .int .i64]), .sl 92 (.st [.int .i64, .int .i64, .bool, .int .i64])] (.bool)) := ⟨⟨_, _, _, Try.underlying68⟩, fun _ h => (by cases h), Try.t68, rfl, rfl, fun _ h => by cases h⟩
theorem tn69 : TnOk Try.prog 69 (.fn [.sl 60 (.st [.sl 85 (.st [.int .i64, .int .i64]), .sl 25 (.sl 3 (.int .i64))]), .sl 60 (.st [.sl 85 (.st [.int .i64, .int .i64]), .sl 25 (.sl 3 (.int .i64))])] (.bool)) := ⟨⟨_, _, _, Try.underlying69⟩, fun _ h => (by cases h), Try.t69, rfl, rfl, fun _ h => by cases h⟩
theorem tn70 : TnOk Try.prog 70 (.fn [.sl 3 (.int .i64), .sl 3 (.int .i64)] (.bool)) := ⟨⟨_, _, _, Try.underlying70⟩, fun _ h => (by cases h), Try.t70, rfl, rfl, fun _ h => by cases h⟩
theorem tn71 : TnOk Try.prog 71 (.fn [.sl 52 (.st [.str, .int .i64, .sl 54 (.st [.int .i64, .sl 3 (.int .i64), .sl 3 (.int .i64)])]), .int .i64] (.int .i64)) := ⟨⟨_, _, _, Try.underlying71⟩, fun _ h => (by cases h), Try.t71, rfl, rfl, fun _ h => by cases h⟩
theorem tn72 : TnOk Try.prog 72 (.fn [.sl 92 (.st [.int .i64, .int .i64, .bool, .int .i64]), .int .i64] (.int .i64)) := ⟨⟨_, _, _, Try.underlying72⟩, fun _ h => (by cases h), Try.t72, rfl, rfl, fun _ h => by cases h⟩
theorem tn73 : TnOk Try.prog 73 (.fn [.sl 60 (.st [.sl 85 (.st [.int .i64, .int .i64]), .sl 25 (.sl 3 (.int .i64))]), .int .i64] (.int .i64)) := ⟨⟨_, _, _, Try.underlying73⟩, fun _ h => (by cases h), Try.t73, rfl, rfl, fun _ h => by cases h⟩
theorem tn74 : TnOk Try.prog 74 (.fn [.st [.str, .int .i64, .sl 123 (.st [.int .i64, .sl 3 (.int .i64), .sl 3 (.int .i64)])], .int .i64] (.int .i64)) := ⟨⟨_, _, _, Try.underlying74⟩, fun _ h => (by cases h), Try.t74, rfl, rfl, fun _ h => by cases h⟩
theorem tn75 : TnOk Try.prog 75 (.sl 123 (.st [.int .i64, .sl 3 (.int .i64), .sl 3 (.int .i64)])) := ⟨⟨Try.underlying75, Try.t123, _, rfl, rfl, rfl, rfl, by decide, by decide, fun _ _ => rfl, fun k h => by cases h⟩, fun _ h => (by cases h), Try.t75, rfl, rfl, fun _ _ => rfl⟩
theorem tn76 : TnOk Try.prog 76 (.st [.str, .int .i64, .sl 123 (.st [.int .i64, .sl 3 (.int .i64), .sl 3 (.int .i64)])]) := ⟨⟨_, Try.underlying76, Try.eqGuardType76, Try.stoodInHeld76, rfl, fun j τ h => by
    cases j with
    | zero => cases h; exact ⟨_, _, rfl, rfl, by decide, by decide, Try.underlying9, rfl, fun us h => by cases h⟩
    | succ j =>
     cases j with
     | zero => cases h; exact ⟨_, _, rfl, rfl, by decide, by decide, Try.underlying3, rfl, fun us h => by cases h⟩
     | succ j =>
      cases j with
      | zero => cases h; exact ⟨_, _, rfl, rfl, by decide, by decide, Try.underlying75, rfl, fun us h => by cases h⟩
      | succ j =>
       cases h⟩, (fun us hus fs hfs j τ h f hf => by
    cases hus
    rw [Try.underlying76] at hfs
    cases hfs
    cases j with
    | zero => cases h; cases hf; exact ⟨fun k e => (by cases e), fun e => (by cases e), fun _ => Try.underlying9⟩
    | succ j =>
     cases j with
     | zero => cases h; cases hf; exact ⟨fun k e => by cases e; exact Try.underlying3, fun e => (by cases e), fun e => (by cases e)⟩
     | succ j =>
      cases j with
      | zero => cases h; cases hf; exact ⟨fun k e => (by cases e), fun e => (by cases e), fun e => (by cases e)⟩
      | succ j =>
       cases h), Try.t76, rfl, rfl, fun _ _ => rfl⟩
theorem tn77 : TnOk Try.prog 77 (.st [.str, .int .i64, .sl 123 (.st [.int .i64, .sl 3 (.int .i64), .sl 3 (.int .i64)])]) := ⟨⟨_, Try.underlying77, Try.eqGuardType77, Try.stoodInHeld77, rfl, fun j τ h => by
    cases j with
    | zero => cases h; exact ⟨_, _, rfl, rfl, by decide, by decide, Try.underlying9, rfl, fun us h => by cases h⟩
    | succ j =>
     cases j with
     | zero => cases h; exact ⟨_, _, rfl, rfl, by decide, by decide, Try.underlying3, rfl, fun us h => by cases h⟩
     | succ j =>
      cases j with
      | zero => cases h; exact ⟨_, _, rfl, rfl, by decide, by decide, Try.underlying75, rfl, fun us h => by cases h⟩
      | succ j =>
       cases h⟩, (fun us hus fs hfs j τ h f hf => by
    cases hus
    rw [Try.underlying77] at hfs
    cases hfs
    cases j with
    | zero => cases h; cases hf; exact ⟨fun k e => (by cases e), fun e => (by cases e), fun _ => Try.underlying9⟩
    | succ j =>
     cases j with
     | zero => cases h; cases hf; exact ⟨fun k e => by cases e; exact Try.underlying3, fun e => (by cases e), fun e => (by cases e)⟩
     | succ j =>
      cases j with
      | zero => cases h; cases hf; exact ⟨fun k e => (by cases e), fun e => (by cases e), fun e => (by cases e)⟩
      | succ j =>
       cases h), Try.t77, rfl, rfl, fun _ _ => rfl⟩
theorem tn78 : TnOk Try.prog 78 (.fn [.st [.sl 127 (.st [.int .i64, .int .i64]), .sl 25 (.sl 3 (.int .i64))], .int .i64] (.int .i64)) := ⟨⟨_, _, _, Try.underlying78⟩, fun _ h => (by cases h), Try.t78, rfl, rfl, fun _ h => by cases h⟩
theorem tn79 : TnOk Try.prog 79 (.sl 127 (.st [.int .i64, .int .i64])) := ⟨⟨Try.underlying79, Try.t127, _, rfl, rfl, rfl, rfl, by decide, by decide, fun _ _ => rfl, fun k h => by cases h⟩, fun _ h => (by cases h), Try.t79, rfl, rfl, fun _ _ => rfl⟩
theorem tn80 : TnOk Try.prog 80 (.st [.sl 127 (.st [.int .i64, .int .i64]), .sl 25 (.sl 3 (.int .i64))]) := ⟨⟨_, Try.underlying80, Try.eqGuardType80, Try.stoodInHeld80, rfl, fun j τ h => by
    cases j with
    | zero => cases h; exact ⟨_, _, rfl, rfl, by decide, by decide, Try.underlying79, rfl, fun us h => by cases h⟩
    | succ j =>
     cases j with
     | zero => cases h; exact ⟨_, _, rfl, rfl, by decide, by decide, Try.underlying58, rfl, fun us h => by cases h⟩
     | succ j =>
      cases h⟩, (fun us hus fs hfs j τ h f hf => by
    cases hus
    rw [Try.underlying80] at hfs
    cases hfs
    cases j with
    | zero => cases h; cases hf; exact ⟨fun k e => (by cases e), fun e => (by cases e), fun e => (by cases e)⟩
    | succ j =>
     cases j with
     | zero => cases h; cases hf; exact ⟨fun k e => (by cases e), fun e => (by cases e), fun e => (by cases e)⟩
     | succ j =>
      cases h), Try.t80, rfl, rfl, fun _ _ => rfl⟩
theorem tn81 : TnOk Try.prog 81 (.st [.sl 127 (.st [.int .i64, .int .i64]), .sl 25 (.sl 3 (.int .i64))]) := ⟨⟨_, Try.underlying81, Try.eqGuardType81, Try.stoodInHeld81, rfl, fun j τ h => by
    cases j with
    | zero => cases h; exact ⟨_, _, rfl, rfl, by decide, by decide, Try.underlying79, rfl, fun us h => by cases h⟩
    | succ j =>
     cases j with
     | zero => cases h; exact ⟨_, _, rfl, rfl, by decide, by decide, Try.underlying58, rfl, fun us h => by cases h⟩
     | succ j =>
      cases h⟩, (fun us hus fs hfs j τ h f hf => by
    cases hus
    rw [Try.underlying81] at hfs
    cases hfs
    cases j with
    | zero => cases h; cases hf; exact ⟨fun k e => (by cases e), fun e => (by cases e), fun e => (by cases e)⟩
    | succ j =>
     cases j with
     | zero => cases h; cases hf; exact ⟨fun k e => (by cases e), fun e => (by cases e), fun e => (by cases e)⟩
     | succ j =>
      cases h), Try.t81, rfl, rfl, fun _ _ => rfl⟩
theorem tn82 : TnOk Try.prog 82 (.fn [.int .i64, .int .i64, .int .i64] (.bool)) := ⟨⟨_, _, _, Try.underlying82⟩, fun _ h => (by cases h), Try.t82, rfl, rfl, fun _ h => by cases h⟩
theorem tn83 : TnOk Try.prog 83 (.fn [.st [.str, .int .i64, .sl 54 (.st [.int .i64, .sl 3 (.int .i64), .sl 3 (.int .i64)])]] (.st [.str, .int .i64, .sl 54 (.st [.int .i64, .sl 3 (.int .i64), .sl 3 (.int .i64)])])) := ⟨⟨_, _, _, Try.underlying83⟩, fun _ h => (by cases h), Try.t83, rfl, rfl, fun _ h => by cases h⟩
theorem tn84 : TnOk Try.prog 84 (.st [.int .i64, .int .i64]) := ⟨⟨_, Try.underlying84, Try.eqGuardType84, Try.stoodInHeld84, rfl, fun j τ h => by
    cases j with
    | zero => cases h; exact ⟨_, _, rfl, rfl, by decide, by decide, Try.underlying3, rfl, fun us h => by cases h⟩
    | succ j =>
     cases j with
     | zero => cases h; exact ⟨_, _, rfl, rfl, by decide, by decide, Try.underlying3, rfl, fun us h => by cases h⟩
     | succ j =>
      cases h⟩, (fun us hus fs hfs j τ h f hf => by
    cases hus
    rw [Try.underlying84] at hfs
    cases hfs
    cases j with
    | zero => cases h; cases hf; exact ⟨fun k e => by cases e; exact Try.underlying3, fun e => (by cases e), fun e => (by cases e)⟩
    | succ j =>
     cases j with
     | zero => cases h; cases hf; exact ⟨fun k e => by cases e; exact Try.underlying3, fun e => (by cases e), fun e => (by cases e)⟩
     | succ j =>
      cases h), Try.t84, rfl, rfl, fun _ _ => rfl⟩
theorem tn85 : TnOk Try.prog 85 (.st [.int .i64, .int .i64]) := ⟨⟨_, Try.underlying85, Try.eqGuardType85, Try.stoodInHeld85, rfl, fun j τ h => by
    cases j with
    | zero => cases h; exact ⟨_, _, rfl, rfl, by decide, by decide, Try.underlying3, rfl, fun us h => by cases h⟩
    | succ j =>
     cases j with
     | zero => cases h; exact ⟨_, _, rfl, rfl, by decide, by decide, Try.underlying3, rfl, fun us h => by cases h⟩
     | succ j =>
      cases h⟩, (fun us hus fs hfs j τ h f hf => by
    cases hus
    rw [Try.underlying85] at hfs
    cases hfs
    cases j with
    | zero => cases h; cases hf; exact ⟨fun k e => by cases e; exact Try.underlying3, fun e => (by cases e), fun e => (by cases e)⟩
    | succ j =>
     cases j with
     | zero => cases h; cases hf; exact ⟨fun k e => by cases e; exact Try.underlying3, fun e => (by cases e), fun e => (by cases e)⟩
     | succ j =>
      cases h), Try.t85, rfl, rfl, fun _ _ => rfl⟩
theorem tn86 : TnOk Try.prog 86 (.fn [.sl 85 (.st [.int .i64, .int .i64]), .int .i64] (.int .i64)) := ⟨⟨_, _, _, Try.underlying86⟩, fun _ h => (by cases h), Try.t86, rfl, rfl, fun _ h => by cases h⟩
theorem tn87 : TnOk Try.prog 87 (.fn [.sl 85 (.st [.int .i64, .int .i64])] (.sl 85 (.st [.int .i64, .int .i64]))) := ⟨⟨_, _, _, Try.underlying87⟩, fun _ h => (by cases h), Try.t87, rfl, rfl, fun _ h => by cases h⟩
theorem tn88 : TnOk Try.prog 88 (.fn [.st [.str, .int .i64, .sl 54 (.st [.int .i64, .sl 3 (.int .i64), .sl 3 (.int .i64)])], .int .i64, .int .i64] (.bool)) := ⟨⟨_, _, _, Try.underlying88⟩, fun _ h => (by cases h), Try.t88, rfl, rfl, fun _ h => by cases h⟩
theorem tn89 : TnOk Try.prog 89 (.fn [.st [.int .i64, .sl 52 (.st [.str, .int .i64, .sl 54 (.st [.int .i64, .sl 3 (.int .i64), .sl 3 (.int .i64)])]), .sl 92 (.st [.int .i64, .int .i64, .bool, .int .i64]), .sl 60 (.st [.sl 85 (.st [.int .i64, .int .i64]), .sl 25 (.sl 3 (.int .i64))]), .sl 3 (.int .i64)], .str] (.int .i64)) := ⟨⟨_, _, _, Try.underlying89⟩, fun _ h => (by cases h), Try.t89, rfl, rfl, fun _ h => by cases h⟩
theorem tn90 : TnOk Try.prog 90 (.fn [.st [.sl 85 (.st [.int .i64, .int .i64]), .sl 25 (.sl 3 (.int .i64))]] (.bool)) := ⟨⟨_, _, _, Try.underlying90⟩, fun _ h => (by cases h), Try.t90, rfl, rfl, fun _ h => by cases h⟩
theorem tn91 : TnOk Try.prog 91 (.st [.int .i64, .int .i64, .bool, .int .i64]) := ⟨⟨_, Try.underlying91, Try.eqGuardType91, Try.stoodInHeld91, rfl, fun j τ h => by
    cases j with
    | zero => cases h; exact ⟨_, _, rfl, rfl, by decide, by decide, Try.underlying3, rfl, fun us h => by cases h⟩
    | succ j =>
     cases j with
     | zero => cases h; exact ⟨_, _, rfl, rfl, by decide, by decide, Try.underlying3, rfl, fun us h => by cases h⟩
     | succ j =>
      cases j with
      | zero => cases h; exact ⟨_, _, rfl, rfl, by decide, by decide, Try.underlying4, rfl, fun us h => by cases h⟩
      | succ j =>
       cases j with
       | zero => cases h; exact ⟨_, _, rfl, rfl, by decide, by decide, Try.underlying3, rfl, fun us h => by cases h⟩
       | succ j =>
        cases h⟩, (fun us hus fs hfs j τ h f hf => by
    cases hus
    rw [Try.underlying91] at hfs
    cases hfs
    cases j with
    | zero => cases h; cases hf; exact ⟨fun k e => by cases e; exact Try.underlying3, fun e => (by cases e), fun e => (by cases e)⟩
    | succ j =>
     cases j with
     | zero => cases h; cases hf; exact ⟨fun k e => by cases e; exact Try.underlying3, fun e => (by cases e), fun e => (by cases e)⟩
     | succ j =>
      cases j with
      | zero => cases h; cases hf; exact ⟨fun k e => (by cases e), fun _ => Try.underlying4, fun e => (by cases e)⟩
      | succ j =>
       cases j with
       | zero => cases h; cases hf; exact ⟨fun k e => by cases e; exact Try.underlying3, fun e => (by cases e), fun e => (by cases e)⟩
       | succ j =>
        cases h), Try.t91, rfl, rfl, fun _ _ => rfl⟩
theorem tn92 : TnOk Try.prog 92 (.st [.int .i64, .int .i64, .bool, .int .i64]) := ⟨⟨_, Try.underlying92, Try.eqGuardType92, Try.stoodInHeld92, rfl, fun j τ h => by
    cases j with
    | zero => cases h; exact ⟨_, _, rfl, rfl, by decide, by decide, Try.underlying3, rfl, fun us h => by cases h⟩
    | succ j =>
     cases j with
     | zero => cases h; exact ⟨_, _, rfl, rfl, by decide, by decide, Try.underlying3, rfl, fun us h => by cases h⟩
     | succ j =>
      cases j with
      | zero => cases h; exact ⟨_, _, rfl, rfl, by decide, by decide, Try.underlying4, rfl, fun us h => by cases h⟩
      | succ j =>
       cases j with
       | zero => cases h; exact ⟨_, _, rfl, rfl, by decide, by decide, Try.underlying3, rfl, fun us h => by cases h⟩
       | succ j =>
        cases h⟩, (fun us hus fs hfs j τ h f hf => by
    cases hus
    rw [Try.underlying92] at hfs
    cases hfs
    cases j with
    | zero => cases h; cases hf; exact ⟨fun k e => by cases e; exact Try.underlying3, fun e => (by cases e), fun e => (by cases e)⟩
    | succ j =>
     cases j with
     | zero => cases h; cases hf; exact ⟨fun k e => by cases e; exact Try.underlying3, fun e => (by cases e), fun e => (by cases e)⟩
     | succ j =>
      cases j with
      | zero => cases h; cases hf; exact ⟨fun k e => (by cases e), fun _ => Try.underlying4, fun e => (by cases e)⟩
      | succ j =>
       cases j with
       | zero => cases h; cases hf; exact ⟨fun k e => by cases e; exact Try.underlying3, fun e => (by cases e), fun e => (by cases e)⟩
       | succ j =>
        cases h), Try.t92, rfl, rfl, fun _ _ => rfl⟩
theorem tn93 : TnOk Try.prog 93 (.fn [.st [.str, .int .i64, .sl 123 (.st [.int .i64, .sl 3 (.int .i64), .sl 3 (.int .i64)])]] (.st [.str, .int .i64, .sl 54 (.st [.int .i64, .sl 3 (.int .i64), .sl 3 (.int .i64)])])) := ⟨⟨_, _, _, Try.underlying93⟩, fun _ h => (by cases h), Try.t93, rfl, rfl, fun _ h => by cases h⟩
theorem tn94 : TnOk Try.prog 94 (.fn [.st [.int .i64, .int .i64, .bool, .int .i64]] (.st [.int .i64, .int .i64, .bool, .int .i64])) := ⟨⟨_, _, _, Try.underlying94⟩, fun _ h => (by cases h), Try.t94, rfl, rfl, fun _ h => by cases h⟩
theorem tn95 : TnOk Try.prog 95 (.st [.int .i64, .int .i64, .bool, .int .i64]) := ⟨⟨_, Try.underlying95, Try.eqGuardType95, Try.stoodInHeld95, rfl, fun j τ h => by
    cases j with
    | zero => cases h; exact ⟨_, _, rfl, rfl, by decide, by decide, Try.underlying3, rfl, fun us h => by cases h⟩
    | succ j =>
     cases j with
     | zero => cases h; exact ⟨_, _, rfl, rfl, by decide, by decide, Try.underlying3, rfl, fun us h => by cases h⟩
     | succ j =>
      cases j with
      | zero => cases h; exact ⟨_, _, rfl, rfl, by decide, by decide, Try.underlying4, rfl, fun us h => by cases h⟩
      | succ j =>
       cases j with
       | zero => cases h; exact ⟨_, _, rfl, rfl, by decide, by decide, Try.underlying3, rfl, fun us h => by cases h⟩
       | succ j =>
        cases h⟩, (fun us hus fs hfs j τ h f hf => by
    cases hus
    rw [Try.underlying95] at hfs
    cases hfs
    cases j with
    | zero => cases h; cases hf; exact ⟨fun k e => by cases e; exact Try.underlying3, fun e => (by cases e), fun e => (by cases e)⟩
    | succ j =>
     cases j with
     | zero => cases h; cases hf; exact ⟨fun k e => by cases e; exact Try.underlying3, fun e => (by cases e), fun e => (by cases e)⟩
     | succ j =>
      cases j with
      | zero => cases h; cases hf; exact ⟨fun k e => (by cases e), fun _ => Try.underlying4, fun e => (by cases e)⟩
      | succ j =>
       cases j with
       | zero => cases h; cases hf; exact ⟨fun k e => by cases e; exact Try.underlying3, fun e => (by cases e), fun e => (by cases e)⟩
       | succ j =>
        cases h), Try.t95, rfl, rfl, fun _ _ => rfl⟩
theorem tn96 : TnOk Try.prog 96 (.fn [.st [.sl 127 (.st [.int .i64, .int .i64]), .sl 25 (.sl 3 (.int .i64))]] (.st [.sl 85 (.st [.int .i64, .int .i64]), .sl 25 (.sl 3 (.int .i64))])) := ⟨⟨_, _, _, Try.underlying96⟩, fun _ h => (by cases h), Try.t96, rfl, rfl, fun _ h => by cases h⟩
theorem tn97 : TnOk Try.prog 97 (.fn [.int .i64] (.bool)) := ⟨⟨_, _, _, Try.underlying97⟩, fun _ h => (by cases h), Try.t97, rfl, rfl, fun _ h => by cases h⟩
theorem tn98 : TnOk Try.prog 98 (.fn [.sl 92 (.st [.int .i64, .int .i64, .bool, .int .i64])] (.sl 92 (.st [.int .i64, .int .i64, .bool, .int .i64]))) := ⟨⟨_, _, _, Try.underlying98⟩, fun _ h => (by cases h), Try.t98, rfl, rfl, fun _ h => by cases h⟩
theorem tn99 : TnOk Try.prog 99 (.fn [.sl 92 (.st [.int .i64, .int .i64, .bool, .int .i64]), .fn [.st [.int .i64, .int .i64, .bool, .int .i64]] (.bool)] (.bool)) := ⟨⟨_, _, _, Try.underlying99⟩, fun _ h => (by cases h), Try.t99, rfl, rfl, fun _ h => by cases h⟩
theorem tn100 : TnOk Try.prog 100 (.fn [.st [.int .i64, .int .i64, .bool, .int .i64]] (.bool)) := ⟨⟨_, _, _, Try.underlying100⟩, fun _ h => (by cases h), Try.t100, rfl, rfl, fun _ h => by cases h⟩
theorem tn101 : TnOk Try.prog 101 (.fn [.st [.str, .int .i64, .sl 54 (.st [.int .i64, .sl 3 (.int .i64), .sl 3 (.int .i64)])], .st [.str, .int .i64, .sl 54 (.st [.int .i64, .sl 3 (.int .i64), .sl 3 (.int .i64)])]] (.bool)) := ⟨⟨_, _, _, Try.underlying101⟩, fun _ h => (by cases h), Try.t101, rfl, rfl, fun _ h => by cases h⟩
theorem tn102 : TnOk Try.prog 102 (.fn [.st [.int .i64, .int .i64, .bool, .int .i64], .st [.int .i64, .int .i64, .bool, .int .i64]] (.bool)) := ⟨⟨_, _, _, Try.underlying102⟩, fun _ h => (by cases h), Try.t102, rfl, rfl, fun _ h => by cases h⟩
theorem tn103 : TnOk Try.prog 103 (.fn [.st [.sl 85 (.st [.int .i64, .int .i64]), .sl 25 (.sl 3 (.int .i64))], .st [.sl 85 (.st [.int .i64, .int .i64]), .sl 25 (.sl 3 (.int .i64))]] (.bool)) := ⟨⟨_, _, _, Try.underlying103⟩, fun _ h => (by cases h), Try.t103, rfl, rfl, fun _ h => by cases h⟩
theorem tn104 : TnOk Try.prog 104 (.fn [.int .i64] (.str)) := ⟨⟨_, _, _, Try.underlying104⟩, fun _ h => (by cases h), Try.t104, rfl, rfl, fun _ h => by cases h⟩
theorem tn105 : TnOk Try.prog 105 (.fn [.sl 54 (.st [.int .i64, .sl 3 (.int .i64), .sl 3 (.int .i64)]), .int .i64] (.int .i64)) := ⟨⟨_, _, _, Try.underlying105⟩, fun _ h => (by cases h), Try.t105, rfl, rfl, fun _ h => by cases h⟩
theorem tn106 : TnOk Try.prog 106 (.fn [.sl 25 (.sl 3 (.int .i64)), .int .i64] (.int .i64)) := ⟨⟨_, _, _, Try.underlying106⟩, fun _ h => (by cases h), Try.t106, rfl, rfl, fun _ h => by cases h⟩
theorem tn107 : TnOk Try.prog 107 (.fn [.sl 123 (.st [.int .i64, .sl 3 (.int .i64), .sl 3 (.int .i64)]), .int .i64] (.int .i64)) := ⟨⟨_, _, _, Try.underlying107⟩, fun _ h => (by cases h), Try.t107, rfl, rfl, fun _ h => by cases h⟩
theorem tn108 : TnOk Try.prog 108 (.fn [.sl 127 (.st [.int .i64, .int .i64]), .int .i64] (.int .i64)) := ⟨⟨_, _, _, Try.underlying108⟩, fun _ h => (by cases h), Try.t108, rfl, rfl, fun _ h => by cases h⟩
theorem tn109 : TnOk Try.prog 109 (.fn [.st [.int .i64, .sl 3 (.int .i64), .sl 3 (.int .i64)], .int .i64, .int .i64] (.bool)) := ⟨⟨_, _, _, Try.underlying109⟩, fun _ h => (by cases h), Try.t109, rfl, rfl, fun _ h => by cases h⟩
theorem tn110 : TnOk Try.prog 110 (.fn [.str] (.bool)) := ⟨⟨_, _, _, Try.underlying110⟩, fun _ h => (by cases h), Try.t110, rfl, rfl, fun _ h => by cases h⟩
theorem tn111 : TnOk Try.prog 111 (.fn [.sl 85 (.st [.int .i64, .int .i64])] (.bool)) := ⟨⟨_, _, _, Try.underlying111⟩, fun _ h => (by cases h), Try.t111, rfl, rfl, fun _ h => by cases h⟩
theorem tn112 : TnOk Try.prog 112 (.fn [.sl 123 (.st [.int .i64, .sl 3 (.int .i64), .sl 3 (.int .i64)])] (.sl 54 (.st [.int .i64, .sl 3 (.int .i64), .sl 3 (.int .i64)]))) := ⟨⟨_, _, _, Try.underlying112⟩, fun _ h => (by cases h), Try.t112, rfl, rfl, fun _ h => by cases h⟩
theorem tn113 : TnOk Try.prog 113 (.fn [.sl 127 (.st [.int .i64, .int .i64])] (.sl 85 (.st [.int .i64, .int .i64]))) := ⟨⟨_, _, _, Try.underlying113⟩, fun _ h => (by cases h), Try.t113, rfl, rfl, fun _ h => by cases h⟩
theorem tn114 : TnOk Try.prog 114 (.fn [.sl 25 (.sl 3 (.int .i64))] (.sl 25 (.sl 3 (.int .i64)))) := ⟨⟨_, _, _, Try.underlying114⟩, fun _ h => (by cases h), Try.t114, rfl, rfl, fun _ h => by cases h⟩
theorem tn115 : TnOk Try.prog 115 (.fn [.sl 52 (.st [.str, .int .i64, .sl 54 (.st [.int .i64, .sl 3 (.int .i64), .sl 3 (.int .i64)])]), .fn [.st [.str, .int .i64, .sl 54 (.st [.int .i64, .sl 3 (.int .i64), .sl 3 (.int .i64)])]] (.bool)] (.int .i64)) := ⟨⟨_, _, _, Try.underlying115⟩, fun _ h => (by cases h), Try.t115, rfl, rfl, fun _ h => by cases h⟩
theorem tn116 : TnOk Try.prog 116 (.fn [.st [.str, .int .i64, .sl 54 (.st [.int .i64, .sl 3 (.int .i64), .sl 3 (.int .i64)])]] (.bool)) := ⟨⟨_, _, _, Try.underlying116⟩, fun _ h => (by cases h), Try.t116, rfl, rfl, fun _ h => by cases h⟩
theorem tn117 : TnOk Try.prog 117 (.fn [.sl 92 (.st [.int .i64, .int .i64, .bool, .int .i64]), .fn [.st [.int .i64, .int .i64, .bool, .int .i64]] (.bool)] (.int .i64)) := ⟨⟨_, _, _, Try.underlying117⟩, fun _ h => (by cases h), Try.t117, rfl, rfl, fun _ h => by cases h⟩
theorem tn118 : TnOk Try.prog 118 (.fn [.sl 54 (.st [.int .i64, .sl 3 (.int .i64), .sl 3 (.int .i64)]), .sl 54 (.st [.int .i64, .sl 3 (.int .i64), .sl 3 (.int .i64)])] (.bool)) := ⟨⟨_, _, _, Try.underlying118⟩, fun _ h => (by cases h), Try.t118, rfl, rfl, fun _ h => by cases h⟩
theorem tn119 : TnOk Try.prog 119 (.fn [.sl 85 (.st [.int .i64, .int .i64]), .sl 85 (.st [.int .i64, .int .i64])] (.bool)) := ⟨⟨_, _, _, Try.underlying119⟩, fun _ h => (by cases h), Try.t119, rfl, rfl, fun _ h => by cases h⟩
theorem tn120 : TnOk Try.prog 120 (.fn [.sl 25 (.sl 3 (.int .i64)), .sl 25 (.sl 3 (.int .i64))] (.bool)) := ⟨⟨_, _, _, Try.underlying120⟩, fun _ h => (by cases h), Try.t120, rfl, rfl, fun _ h => by cases h⟩
theorem tn121 : TnOk Try.prog 121 (.sl 5 (.int .u8)) := ⟨⟨Try.underlying121, Try.t5, _, rfl, rfl, rfl, rfl, by decide, by decide, fun _ _ => rfl, fun k h => by cases h; exact Try.underlying5⟩, fun _ h => (by cases h), Try.t121, rfl, rfl, fun _ _ => rfl⟩
theorem tn122 : TnOk Try.prog 122 (.fn [.st [.int .i64, .sl 3 (.int .i64), .sl 3 (.int .i64)], .int .i64] (.int .i64)) := ⟨⟨_, _, _, Try.underlying122⟩, fun _ h => (by cases h), Try.t122, rfl, rfl, fun _ h => by cases h⟩
theorem tn123 : TnOk Try.prog 123 (.st [.int .i64, .sl 3 (.int .i64), .sl 3 (.int .i64)]) := ⟨⟨_, Try.underlying123, Try.eqGuardType123, Try.stoodInHeld123, rfl, fun j τ h => by
    cases j with
    | zero => cases h; exact ⟨_, _, rfl, rfl, by decide, by decide, Try.underlying3, rfl, fun us h => by cases h⟩
    | succ j =>
     cases j with
     | zero => cases h; exact ⟨_, _, rfl, rfl, by decide, by decide, Try.underlying25, rfl, fun us h => by cases h⟩
     | succ j =>
      cases j with
      | zero => cases h; exact ⟨_, _, rfl, rfl, by decide, by decide, Try.underlying25, rfl, fun us h => by cases h⟩
      | succ j =>
       cases h⟩, (fun us hus fs hfs j τ h f hf => by
    cases hus
    rw [Try.underlying123] at hfs
    cases hfs
    cases j with
    | zero => cases h; cases hf; exact ⟨fun k e => by cases e; exact Try.underlying3, fun e => (by cases e), fun e => (by cases e)⟩
    | succ j =>
     cases j with
     | zero => cases h; cases hf; exact ⟨fun k e => (by cases e), fun e => (by cases e), fun e => (by cases e)⟩
     | succ j =>
      cases j with
      | zero => cases h; cases hf; exact ⟨fun k e => (by cases e), fun e => (by cases e), fun e => (by cases e)⟩
      | succ j =>
       cases h), Try.t123, rfl, rfl, fun _ _ => rfl⟩
theorem tn124 : TnOk Try.prog 124 (.fn [.sl 3 (.int .i64), .int .i64] (.bool)) := ⟨⟨_, _, _, Try.underlying124⟩, fun _ h => (by cases h), Try.t124, rfl, rfl, fun _ h => by cases h⟩
theorem tn125 : TnOk Try.prog 125 (.fn [.st [.int .i64, .sl 3 (.int .i64), .sl 3 (.int .i64)]] (.st [.int .i64, .sl 3 (.int .i64), .sl 3 (.int .i64)])) := ⟨⟨_, _, _, Try.underlying125⟩, fun _ h => (by cases h), Try.t125, rfl, rfl, fun _ h => by cases h⟩
theorem tn126 : TnOk Try.prog 126 (.fn [.st [.int .i64, .int .i64]] (.st [.int .i64, .int .i64])) := ⟨⟨_, _, _, Try.underlying126⟩, fun _ h => (by cases h), Try.t126, rfl, rfl, fun _ h => by cases h⟩
theorem tn127 : TnOk Try.prog 127 (.st [.int .i64, .int .i64]) := ⟨⟨_, Try.underlying127, Try.eqGuardType127, Try.stoodInHeld127, rfl, fun j τ h => by
    cases j with
    | zero => cases h; exact ⟨_, _, rfl, rfl, by decide, by decide, Try.underlying3, rfl, fun us h => by cases h⟩
    | succ j =>
     cases j with
     | zero => cases h; exact ⟨_, _, rfl, rfl, by decide, by decide, Try.underlying3, rfl, fun us h => by cases h⟩
     | succ j =>
      cases h⟩, (fun us hus fs hfs j τ h f hf => by
    cases hus
    rw [Try.underlying127] at hfs
    cases hfs
    cases j with
    | zero => cases h; cases hf; exact ⟨fun k e => by cases e; exact Try.underlying3, fun e => (by cases e), fun e => (by cases e)⟩
    | succ j =>
     cases j with
     | zero => cases h; cases hf; exact ⟨fun k e => by cases e; exact Try.underlying3, fun e => (by cases e), fun e => (by cases e)⟩
     | succ j =>
      cases h), Try.t127, rfl, rfl, fun _ _ => rfl⟩
theorem tn128 : TnOk Try.prog 128 (.fn [.st [.int .i64, .sl 3 (.int .i64), .sl 3 (.int .i64)], .st [.int .i64, .sl 3 (.int .i64), .sl 3 (.int .i64)]] (.bool)) := ⟨⟨_, _, _, Try.underlying128⟩, fun _ h => (by cases h), Try.t128, rfl, rfl, fun _ h => by cases h⟩
theorem tn129 : TnOk Try.prog 129 (.fn [.st [.int .i64, .int .i64], .st [.int .i64, .int .i64]] (.bool)) := ⟨⟨_, _, _, Try.underlying129⟩, fun _ h => (by cases h), Try.t129, rfl, rfl, fun _ h => by cases h⟩
def tys : List (Nat × Ty) := [(3, .int .i64), (4, .bool), (5, .int .u8), (9, .str), (22, .sl 77 (.st [.str, .int .i64, .sl 123 (.st [.int .i64, .sl 3 (.int .i64), .sl 3 (.int .i64)])])), (23, .sl 95 (.st [.int .i64, .int .i64, .bool, .int .i64])), (24, .sl 81 (.st [.sl 127 (.st [.int .i64, .int .i64]), .sl 25 (.sl 3 (.int .i64))])), (25, .sl 3 (.int .i64)), (26, .st [.int .i64, .sl 77 (.st [.str, .int .i64, .sl 123 (.st [.int .i64, .sl 3 (.int .i64), .sl 3 (.int .i64)])]), .sl 95 (.st [.int .i64, .int .i64, .bool, .int .i64]), .sl 81 (.st [.sl 127 (.st [.int .i64, .int .i64]), .sl 25 (.sl 3 (.int .i64))]), .sl 3 (.int .i64)]), (27, .st [.int .i64, .sl 77 (.st [.str, .int .i64, .sl 123 (.st [.int .i64, .sl 3 (.int .i64), .sl 3 (.int .i64)])]), .sl 95 (.st [.int .i64, .int .i64, .bool, .int .i64]), .sl 81 (.st [.sl 127 (.st [.int .i64, .int .i64]), .sl 25 (.sl 3 (.int .i64))]), .sl 3 (.int .i64)]), (28, .st [.int .i64, .int .i64, .int .i64, .int .i64]), (29, .st [.int .i64, .int .i64, .int .i64, .int .i64]), (30, .fn [.st [.int .i64, .sl 77 (.st [.str, .int .i64, .sl 123 (.st [.int .i64, .sl 3 (.int .i64), .sl 3 (.int .i64)])]), .sl 95 (.st [.int .i64, .int .i64, .bool, .int .i64]), .sl 81 (.st [.sl 127 (.st [.int .i64, .int .i64]), .sl 25 (.sl 3 (.int .i64))]), .sl 3 (.int .i64)], .int .i64] (.int .i64)), (31, .sl 52 (.st [.str, .int .i64, .sl 54 (.st [.int .i64, .sl 3 (.int .i64), .sl 3 (.int .i64)])])), (32, .sl 92 (.st [.int .i64, .int .i64, .bool, .int .i64])), (33, .sl 60 (.st [.sl 85 (.st [.int .i64, .int .i64]), .sl 25 (.sl 3 (.int .i64))])), (34, .st [.int .i64, .sl 52 (.st [.str, .int .i64, .sl 54 (.st [.int .i64, .sl 3 (.int .i64), .sl 3 (.int .i64)])]), .sl 92 (.st [.int .i64, .int .i64, .bool, .int .i64]), .sl 60 (.st [.sl 85 (.st [.int .i64, .int .i64]), .sl 25 (.sl 3 (.int .i64))]), .sl 3 (.int .i64)]), (35, .st [.int .i64, .sl 52 (.st [.str, .int .i64, .sl 54 (.st [.int .i64, .sl 3 (.int .i64), .sl 3 (.int .i64)])]), .sl 92 (.st [.int .i64, .int .i64, .bool, .int .i64]), .sl 60 (.st [.sl 85 (.st [.int .i64, .int .i64]), .sl 25 (.sl 3 (.int .i64))]), .sl 3 (.int .i64)]), (37, .fn [.st [.int .i64, .sl 52 (.st [.str, .int .i64, .sl 54 (.st [.int .i64, .sl 3 (.int .i64), .sl 3 (.int .i64)])]), .sl 92 (.st [.int .i64, .int .i64, .bool, .int .i64]), .sl 60 (.st [.sl 85 (.st [.int .i64, .int .i64]), .sl 25 (.sl 3 (.int .i64))]), .sl 3 (.int .i64)], .st [.int .i64, .int .i64, .int .i64, .int .i64]] (.tup [.st [.int .i64, .sl 52 (.st [.str, .int .i64, .sl 54 (.st [.int .i64, .sl 3 (.int .i64), .sl 3 (.int .i64)])]), .sl 92 (.st [.int .i64, .int .i64, .bool, .int .i64]), .sl 60 (.st [.sl 85 (.st [.int .i64, .int .i64]), .sl 25 (.sl 3 (.int .i64))]), .sl 3 (.int .i64)], .bool])), (38, .fn [.st [.int .i64, .sl 77 (.st [.str, .int .i64, .sl 123 (.st [.int .i64, .sl 3 (.int .i64), .sl 3 (.int .i64)])]), .sl 95 (.st [.int .i64, .int .i64, .bool, .int .i64]), .sl 81 (.st [.sl 127 (.st [.int .i64, .int .i64]), .sl 25 (.sl 3 (.int .i64))]), .sl 3 (.int .i64)]] (.st [.int .i64, .sl 52 (.st [.str, .int .i64, .sl 54 (.st [.int .i64, .sl 3 (.int .i64), .sl 3 (.int .i64)])]), .sl 92 (.st [.int .i64, .int .i64, .bool, .int .i64]), .sl 60 (.st [.sl 85 (.st [.int .i64, .int .i64]), .sl 25 (.sl 3 (.int .i64))]), .sl 3 (.int .i64)])), (39, .st [.int .i64, .int .i64, .int .i64, .int .i64]), (40, .fn [.st [.int .i64, .int .i64, .int .i64, .int .i64]] (.st [.int .i64, .int .i64, .int .i64, .int .i64])), (41, .fn [.st [.int .i64, .sl 52 (.st [.str, .int .i64, .sl 54 (.st [.int .i64, .sl 3 (.int .i64), .sl 3 (.int .i64)])]), .sl 92 (.st [.int .i64, .int .i64, .bool, .int .i64]), .sl 60 (.st [.sl 85 (.st [.int .i64, .int .i64]), .sl 25 (.sl 3 (.int .i64))]), .sl 3 (.int .i64)], .st [.int .i64, .sl 52 (.st [.str, .int .i64, .sl 54 (.st [.int .i64, .sl 3 (.int .i64), .sl 3 (.int .i64)])]), .sl 92 (.st [.int .i64, .int .i64, .bool, .int .i64]), .sl 60 (.st [.sl 85 (.st [.int .i64, .int .i64]), .sl 25 (.sl 3 (.int .i64))]), .sl 3 (.int .i64)]] (.bool)), (42, .fn [.st [.int .i64, .sl 52 (.st [.str, .int .i64, .sl 54 (.st [.int .i64, .sl 3 (.int .i64), .sl 3 (.int .i64)])]), .sl 92 (.st [.int .i64, .int .i64, .bool, .int .i64]), .sl 60 (.st [.sl 85 (.st [.int .i64, .int .i64]), .sl 25 (.sl 3 (.int .i64))]), .sl 3 (.int .i64)], .int .i64] (.int .i64)), (43, .fn [.st [.int .i64, .sl 77 (.st [.str, .int .i64, .sl 123 (.st [.int .i64, .sl 3 (.int .i64), .sl 3 (.int .i64)])]), .sl 95 (.st [.int .i64, .int .i64, .bool, .int .i64]), .sl 81 (.st [.sl 127 (.st [.int .i64, .int .i64]), .sl 25 (.sl 3 (.int .i64))]), .sl 3 (.int .i64)], .st [.int .i64, .int .i64, .int .i64, .int .i64]] (.bool)), (44, .fn [.sl 77 (.st [.str, .int .i64, .sl 123 (.st [.int .i64, .sl 3 (.int .i64), .sl 3 (.int .i64)])]), .int .i64] (.int .i64)), (45, .fn [.sl 95 (.st [.int .i64, .int .i64, .bool, .int .i64]), .int .i64] (.int .i64)), (46, .fn [.sl 81 (.st [.sl 127 (.st [.int .i64, .int .i64]), .sl 25 (.sl 3 (.int .i64))]), .int .i64] (.int .i64)), (47, .fn [.sl 3 (.int .i64), .int .i64] (.int .i64)), (48, .fn [.st [.int .i64, .sl 52 (.st [.str, .int .i64, .sl 54 (.st [.int .i64, .sl 3 (.int .i64), .sl 3 (.int .i64)])]), .sl 92 (.st [.int .i64, .int .i64, .bool, .int .i64]), .sl 60 (.st [.sl 85 (.st [.int .i64, .int .i64]), .sl 25 (.sl 3 (.int .i64))]), .sl 3 (.int .i64)], .st [.int .i64, .int .i64, .int .i64, .int .i64]] (.bool)), (49, .fn [.st [.int .i64, .sl 52 (.st [.str, .int .i64, .sl 54 (.st [.int .i64, .sl 3 (.int .i64), .sl 3 (.int .i64)])]), .sl 92 (.st [.int .i64, .int .i64, .bool, .int .i64]), .sl 60 (.st [.sl 85 (.st [.int .i64, .int .i64]), .sl 25 (.sl 3 (.int .i64))]), .sl 3 (.int .i64)]] (.st [.int .i64, .sl 52 (.st [.str, .int .i64, .sl 54 (.st [.int .i64, .sl 3 (.int .i64), .sl 3 (.int .i64)])]), .sl 92 (.st [.int .i64, .int .i64, .bool, .int .i64]), .sl 60 (.st [.sl 85 (.st [.int .i64, .int .i64]), .sl 25 (.sl 3 (.int .i64))]), .sl 3 (.int .i64)])), (50, .sl 54 (.st [.int .i64, .sl 3 (.int .i64), .sl 3 (.int .i64)])), (51, .st [.str, .int .i64, .sl 54 (.st [.int .i64, .sl 3 (.int .i64), .sl 3 (.int .i64)])]), (52, .st [.str, .int .i64, .sl 54 (.st [.int .i64, .sl 3 (.int .i64), .sl 3 (.int .i64)])]), (53, .st [.int .i64, .sl 3 (.int .i64), .sl 3 (.int .i64)]), (54, .st [.int .i64, .sl 3 (.int .i64), .sl 3 (.int .i64)]), (55, .fn [.int .i64, .int .i64] (.int .i64)), (56, .sl 85 (.st [.int .i64, .int .i64])), (57, .fn [.sl 85 (.st [.int .i64, .int .i64]), .int .i64, .int .i64] (.sl 85 (.st [.int .i64, .int .i64]))), (58, .sl 25 (.sl 3 (.int .i64))), (59, .st [.sl 85 (.st [.int .i64, .int .i64]), .sl 25 (.sl 3 (.int .i64))]), (60, .st [.sl 85 (.st [.int .i64, .int .i64]), .sl 25 (.sl 3 (.int .i64))]), (61, .fn [.st [.int .i64, .sl 52 (.st [.str, .int .i64, .sl 54 (.st [.int .i64, .sl 3 (.int .i64), .sl 3 (.int .i64)])]), .sl 92 (.st [.int .i64, .int .i64, .bool, .int .i64]), .sl 60 (.st [.sl 85 (.st [.int .i64, .int .i64]), .sl 25 (.sl 3 (.int .i64))]), .sl 3 (.int .i64)]] (.bool)), (62, .fn [.sl 77 (.st [.str, .int .i64, .sl 123 (.st [.int .i64, .sl 3 (.int .i64), .sl 3 (.int .i64)])])] (.sl 52 (.st [.str, .int .i64, .sl 54 (.st [.int .i64, .sl 3 (.int .i64), .sl 3 (.int .i64)])]))), (63, .fn [.sl 95 (.st [.int .i64, .int .i64, .bool, .int .i64])] (.sl 92 (.st [.int .i64, .int .i64, .bool, .int .i64]))), (64, .fn [.sl 81 (.st [.sl 127 (.st [.int .i64, .int .i64]), .sl 25 (.sl 3 (.int .i64))])] (.sl 60 (.st [.sl 85 (.st [.int .i64, .int .i64]), .sl 25 (.sl 3 (.int .i64))]))), (65, .fn [.sl 3 (.int .i64)] (.sl 3 (.int .i64))), (66, .fn [] (.st [.int .i64, .sl 52 (.st [.str, .int .i64, .sl 54 (.st [.int .i64, .sl 3 (.int .i64), .sl 3 (.int .i64)])]), .sl 92 (.st [.int .i64, .int .i64, .bool, .int .i64]), .sl 60 (.st [.sl 85 (.st [.int .i64, .int .i64]), .sl 25 (.sl 3 (.int .i64))]), .sl 3 (.int .i64)])), (67, .fn [.sl 52 (.st [.str, .int .i64, .sl 54 (.st [.int .i64, .sl 3 (.int .i64), .sl 3 (.int .i64)])]), .sl 52 (.st [.str, .int .i64, .sl 54 (.st [.int .i64, .sl 3 (.int .i64), .sl 3 (.int .i64)])])] (.bool)), (68, .fn [.sl 92 (.st [.int .i64, .int .i64, .bool, .int .i64]), .sl 92 (.st [.int .i64, .int .i64, .bool, .int .i64])] (.bool)), (69, .fn [.sl 60 (.st [.sl 85 (.st [.int .i64, .int .i64]), .sl 25 (.sl 3 (.int .i64))]), .sl 60 (.st [.sl 85 (.st [.int .i64, .int .i64]), .sl 25 (.sl 3 (.int .i64))])] (.bool)), (70, .fn [.sl 3 (.int .i64), .sl 3 (.int .i64)] (.bool)), (71, .fn [.sl 52 (.st [.str, .int .i64, .sl 54 (.st [.int .i64, .sl 3 (.int .i64), .sl 3 (.int .i64)])]), .int .i64] (.int .i64)), (72, .fn [.sl 92 (.st [.int .i64, .int .i64, .bool, .int .i64]), .int .i64] (.int .i64)), (73, .fn [.sl 60 (.st [.sl 85 (.st [.int .i64, .int .i64]), .sl 25 (.sl 3 (.int .i64))]), .int .i64] (.int .i64)), (74, .fn [.st [.str, .int .i64, .sl 123 (.st [.int .i64, .sl 3 (.int .i64), .sl 3 (.int .i64)])], .int .i64] (.int .i64)), (75, .sl 123 (.st [.int .i64, .sl 3 (.int .i64), .sl 3 (.int .i64)])), (76, .st [.str, .int .i64, .sl 123 (.st [.int .i64, .sl 3 (.int .i64), .sl 3 (.int .i64)])]), (77, .st [.str, .int .i64, .sl 123 (.st [.int .i64, .sl 3 (.int .i64), .sl 3 (.int .i64)])]), (78, .fn [.st [.sl 127 (.st [.int .i64, .int .i64]), .sl 25 (.sl 3 (.int .i64))], .int .i64] (.int .i64)), (79, .sl 127 (.st [.int .i64, .int .i64])), (80, .st [.sl 127 (.st [.int .i64, .int .i64]), .sl 25 (.sl 3 (.int .i64))]), (81, .st [.sl 127 (.st [.int .i64, .int .i64]), .sl 25 (.sl 3 (.int .i64))]), (82, .fn [.int .i64, .int .i64, .int .i64] (.bool)), (83, .fn [.st [.str, .int .i64, .sl 54 (.st [.int .i64, .sl 3 (.int .i64), .sl 3 (.int .i64)])]] (.st [.str, .int .i64, .sl 54 (.st [.int .i64, .sl 3 (.int .i64), .sl 3 (.int .i64)])])), (84, .st [.int .i64, .int .i64]), (85, .st [.int .i64, .int .i64]), (86, .fn [.sl 85 (.st [.int .i64, .int .i64]), .int .i64] (.int .i64)), (87, .fn [.sl 85 (.st [.int .i64, .int .i64])] (.sl 85 (.st [.int .i64, .int .i64]))), (88, .fn [.st [.str, .int .i64, .sl 54 (.st [.int .i64, .sl 3 (.int .i64), .sl 3 (.int .i64)])], .int .i64, .int .i64] (.bool)), (89, .fn [.st [.int .i64, .sl 52 (.st [.str, .int .i64, .sl 54 (.st [.int .i64, .sl 3 (.int .i64), .sl 3 (.int .i64)])]), .sl 92 (.st [.int .i64, .int .i64, .bool, .int .i64]), .sl 60 (.st [.sl 85 (.st [.int .i64, .int .i64]), .sl 25 (.sl 3 (.int .i64))]), .sl 3 (.int .i64)], .str] (.int .i64)), (90, .fn [.st [.sl 85 (.st [.int .i64, .int .i64]), .sl 25 (.sl 3 (.int .i64))]] (.bool)), (91, .st [.int .i64, .int .i64, .bool, .int .i64]), (92, .st [.int .i64, .int .i64, .bool, .int .i64]), (93, .fn [.st [.str, .int .i64, .sl 123 (.st [.int .i64, .sl 3 (.int .i64), .sl 3 (.int .i64)])]] (.st [.str, .int .i64, .sl 54 (.st [.int .i64, .sl 3 (.int .i64), .sl 3 (.int .i64)])])), (94, .fn [.st [.int .i64, .int .i64, .bool, .int .i64]] (.st [.int .i64, .int .i64, .bool, .int .i64])), (95, .st [.int .i64, .int .i64, .bool, .int .i64]), (96, .fn [.st [.sl 127 (.st [.int .i64, .int .i64]), .sl 25 (.sl 3 (.int .i64))]] (.st [.sl 85 (.st [.int .i64, .int .i64]), .sl 25 (.sl 3 (.int .i64))])), (97, .fn [.int .i64] (.bool)), (98, .fn [.sl 92 (.st [.int .i64, .int .i64, .bool, .int .i64])] (.sl 92 (.st [.int .i64, .int .i64, .bool, .int .i64]))), (99, .fn [.sl 92 (.st [.int .i64, .int .i64, .bool, .int .i64]), .fn [.st [.int .i64, .int .i64, .bool, .int .i64]] (.bool)] (.bool)), (100, .fn [.st [.int .i64, .int .i64, .bool, .int .i64]] (.bool)), (101, .fn [.st [.str, .int .i64, .sl 54 (.st [.int .i64, .sl 3 (.int .i64), .sl 3 (.int .i64)])], .st [.str, .int .i64, .sl 54 (.st [.int .i64, .sl 3 (.int .i64), .sl 3 (.int .i64)])]] (.bool)), (102, .fn [.st [.int .i64, .int .i64, .bool, .int .i64], .st [.int .i64, .int .i64, .bool, .int .i64]] (.bool)), (103, .fn [.st [.sl 85 (.st [.int .i64, .int .i64]), .sl 25 (.sl 3 (.int .i64))], .st [.sl 85 (.st [.int .i64, .int .i64]), .sl 25 (.sl 3 (.int .i64))]] (.bool)), (104, .fn [.int .i64] (.str)), (105, .fn [.sl 54 (.st [.int .i64, .sl 3 (.int .i64), .sl 3 (.int .i64)]), .int .i64] (.int .i64)), (106, .fn [.sl 25 (.sl 3 (.int .i64)), .int .i64] (.int .i64)), (107, .fn [.sl 123 (.st [.int .i64, .sl 3 (.int .i64), .sl 3 (.int .i64)]), .int .i64] (.int .i64)), (108, .fn [.sl 127 (.st [.int .i64, .int .i64]), .int .i64] (.int .i64)), (109, .fn [.st [.int .i64, .sl 3 (.int .i64), .sl 3 (.int .i64)], .int .i64, .int .i64] (.bool)), (110, .fn [.str] (.bool)), (111, .fn [.sl 85 (.st [.int .i64, .int .i64])] (.bool)), (112, .fn [.sl 123 (.st [.int .i64, .sl 3 (.int .i64), .sl 3 (.int .i64)])] (.sl 54 (.st [.int .i64, .sl 3 (.int .i64), .sl 3 (.int .i64)]))), (113, .fn [.sl 127 (.st [.int .i64, .int .i64])] (.sl 85 (.st [.int .i64, .int .i64]))), (114, .fn [.sl 25 (.sl 3 (.int .i64))] (.sl 25 (.sl 3 (.int .i64)))), (115, .fn [.sl 52 (.st [.str, .int .i64, .sl 54 (.st [.int .i64, .sl 3 (.int .i64), .sl 3 (.int .i64)])]), .fn [.st [.str, .int .i64, .sl 54 (.st [.int .i64, .sl 3 (.int .i64), .sl 3 (.int .i64)])]] (.bool)] (.int .i64)), (116, .fn [.st [.str, .int .i64, .sl 54 (.st [.int .i64, .sl 3 (.int .i64), .sl 3 (.int .i64)])]] (.bool)), (117, .fn [.sl 92 (.st [.int .i64, .int .i64, .bool, .int .i64]), .fn [.st [.int .i64, .int .i64, .bool, .int .i64]] (.bool)] (.int .i64)), (118, .fn [.sl 54 (.st [.int .i64, .sl 3 (.int .i64), .sl 3 (.int .i64)]), .sl 54 (.st [.int .i64, .sl 3 (.int .i64), .sl 3 (.int .i64)])] (.bool)), (119, .fn [.sl 85 (.st [.int .i64, .int .i64]), .sl 85 (.st [.int .i64, .int .i64])] (.bool)), (120, .fn [.sl 25 (.sl 3 (.int .i64)), .sl 25 (.sl 3 (.int .i64))] (.bool)), (121, .sl 5 (.int .u8)), (122, .fn [.st [.int .i64, .sl 3 (.int .i64), .sl 3 (.int .i64)], .int .i64] (.int .i64)), (123, .st [.int .i64, .sl 3 (.int .i64), .sl 3 (.int .i64)]), (124, .fn [.sl 3 (.int .i64), .int .i64] (.bool)), (125, .fn [.st [.int .i64, .sl 3 (.int .i64), .sl 3 (.int .i64)]] (.st [.int .i64, .sl 3 (.int .i64), .sl 3 (.int .i64)])), (126, .fn [.st [.int .i64, .int .i64]] (.st [.int .i64, .int .i64])), (127, .st [.int .i64, .int .i64]), (128, .fn [.st [.int .i64, .sl 3 (.int .i64), .sl 3 (.int .i64)], .st [.int .i64, .sl 3 (.int .i64), .sl 3 (.int .i64)]] (.bool)), (129, .fn [.st [.int .i64, .int .i64], .st [.int .i64, .int .i64]] (.bool))]
theorem tysOk : LkAll (TnOk Try.prog) tys := ⟨tn3, tn4, tn5, tn9, tn22, tn23, tn24, tn25, tn26, tn27, tn28, tn29, tn30, tn31, tn32, tn33, tn34, tn35, tn37, tn38, tn39, tn40, tn41, tn42, tn43, tn44, tn45, tn46, tn47, tn48, tn49, tn50, tn51, tn52, tn53, tn54, tn55, tn56, tn57, tn58, tn59, tn60, tn61, tn62, tn63, tn64, tn65, tn66, tn67, tn68, tn69, tn70, tn71, tn72, tn73, tn74, tn75, tn76, tn77, tn78, tn79, tn80, tn81, tn82, tn83, tn84, tn85, tn86, tn87, tn88, tn89, tn90, tn91, tn92, tn93, tn94, tn95, tn96, tn97, tn98, tn99, tn100, tn101, tn102, tn103, tn104, tn105, tn106, tn107, tn108, tn109, tn110, tn111, tn112, tn113, tn114, tn115, tn116, tn117, tn118, tn119, tn120, tn121, tn122, tn123, tn124, tn125, tn126, tn127, tn128, tn129, trivial⟩
def laws_szIntS (x : ((List Int) × (Int × Unit))) (c : Unit) : (Option (Int × Unit)) :=
  (if (ltZ (subZ .i64 x.2.1 (lenI x.1)) 0) = true then (some ((-1), ())) else (some ((subZ .i64 x.2.1 (lenI x.1)), ())))
def H_laws_szIntS : Hd := ⟨[.sl 3 (.int .i64), .int .i64], [], none, .p, .int .i64, .p, []⟩
def T_laws_szIntS : FSig := ⟨H_laws_szIntS.ps, H_laws_szIntS.cs, H_laws_szIntS.io, H_laws_szIntS.im, H_laws_szIntS.R, H_laws_szIntS.m, laws_szIntS⟩
theorem E_laws_szIntS : fnOf tys [] Try.f15 H_laws_szIntS = T_laws_szIntS := by kernel_rfl
theorem K_laws_szIntS : SigOk Try.prog 15 T_laws_szIntS := (congrArg (SigOk Try.prog 15) E_laws_szIntS).mp (fnOf_ok rfl tysOk trivial Try.func15 (by decide) rfl (fun _ h => by cases h) (nilEq_of (by kernel_rfl)))
def laws_szMode (x : (D_Mode × (Int × Unit))) (c : Unit) : (Option (Int × Unit)) :=
  (Option.bind ((Option.bind (laws_szIntS (x.1.2.1, (x.2.1, ())) ()) fun v0 => (some v0.1)) : (Option Int)) fun v1 => (if (ltZ v1 0) = true then (some ((-1), ())) else (Option.bind ((Option.bind (laws_szIntS (x.1.2.2.1, (v1, ())) ()) fun v2 => (some v2.1)) : (Option Int)) fun v3 => (if (ltZ v3 0) = true then (some ((-1), ())) else (some (v3, ()))))))
def H_laws_szMode : Hd := ⟨[.st [.int .i64, .sl 3 (.int .i64), .sl 3 (.int .i64)], .int .i64], [], none, .p, .int .i64, .p, []⟩
def T_laws_szMode : FSig := ⟨H_laws_szMode.ps, H_laws_szMode.cs, H_laws_szMode.io, H_laws_szMode.im, H_laws_szMode.R, H_laws_szMode.m, laws_szMode⟩
theorem E_laws_szMode : fnOf tys [(15, T_laws_szIntS)] Try.f96 H_laws_szMode = T_laws_szMode := by kernel_rfl
theorem K_laws_szMode : SigOk Try.prog 96 T_laws_szMode := (congrArg (SigOk Try.prog 96) E_laws_szMode).mp (fnOf_ok rfl tysOk ⟨K_laws_szIntS, trivial⟩ Try.func96 (by decide) rfl (fun _ h => by cases h) (nilEq_of (by kernel_rfl)))
def laws_szModeS_L0 : (Int × ((List D_Mode) × (Int × Unit))) → Option (Out (Int × ((List D_Mode) × (Int × Unit))) ((Bool × (Int × ((List D_Mode) × (Int × Unit)))) ⊕ Empty) (Int × Unit)) :=
  (fun v0 => (if (ltZ v0.1 (lenI v0.2.1)) = true then (Option.bind (getI v0.2.1 v0.1) fun v1 => (Option.bind ((Option.bind (laws_szMode (v1, (v0.2.2.1, ())) ()) fun v2 => (some v2.1)) : (Option Int)) fun v3 => (if (ltZ v3 0) = true then (some (Out.ret ((-1), ()))) else (some (Out.norm ((addZ .i64 v0.1 1), (v0.2.1, (v3, ())))))))) else (some (Out.exit (Sum.inl ((ltZ v0.1 (lenI v0.2.1)), (v0.1, (v0.2.1, (v0.2.2.1, ())))))))))
def laws_szModeS (x : ((List D_Mode) × (Int × Unit))) (c : Unit) : (Option (Int × Unit)) :=
  (if (ltZ (subZ .i64 x.2.1 (lenI x.1)) 0) = true then (some ((-1), ())) else (Option.bind (loopN (A := (Int × ((List D_Mode) × (Int × Unit)))) big laws_szModeS_L0 (0, (x.1, ((subZ .i64 x.2.1 (lenI x.1)), ())))) fun v4 => (match v4 with | Out.norm v5 => none | Out.exit v6 => (match ((match v6 with | Sum.inl v9 => (Sum.inl (v9.2.2.2.1, ())) | Sum.inr v10 => (Empty.elim v10)) : ((Int × Unit) ⊕ Empty)) with | Sum.inl v7 => (some (v7.1, ())) | Sum.inr v8 => none) | Out.ret v11 => (some v11))))
def H_laws_szModeS : Hd := ⟨[.sl 123 (.st [.int .i64, .sl 3 (.int .i64), .sl 3 (.int .i64)]), .int .i64], [], none, .p, .int .i64, .p, []⟩
def T_laws_szModeS : FSig := ⟨H_laws_szModeS.ps, H_laws_szModeS.cs, H_laws_szModeS.io, H_laws_szModeS.im, H_laws_szModeS.R, H_laws_szModeS.m, laws_szModeS⟩
theorem E_laws_szModeS : fnOf tys [(96, T_laws_szMode)] Try.f78 H_laws_szModeS = T_laws_szModeS := by kernel_rfl
theorem K_laws_szModeS : SigOk Try.prog 78 T_laws_szModeS := (congrArg (SigOk Try.prog 78) E_laws_szModeS).mp (fnOf_ok rfl tysOk ⟨K_laws_szMode, trivial⟩ Try.func78 (by decide) rfl (fun _ h => by cases h) (nilEq_of (by kernel_rfl)))
def laws_szActivity (x : (D_Activity × (Int × Unit))) (c : Unit) : (Option (Int × Unit)) :=
  (if (ltZ (subZ .i64 x.2.1 (lenI x.1.1)) 0) = true then (some ((-1), ())) else (Option.bind ((Option.bind (laws_szModeS (x.1.2.2.1, ((subZ .i64 x.2.1 (lenI x.1.1)), ())) ()) fun v0 => (some v0.1)) : (Option Int)) fun v1 => (if (ltZ v1 0) = true then (some ((-1), ())) else (some (v1, ())))))
def H_laws_szActivity : Hd := ⟨[.st [.str, .int .i64, .sl 123 (.st [.int .i64, .sl 3 (.int .i64), .sl 3 (.int .i64)])], .int .i64], [], none, .p, .int .i64, .p, []⟩
def T_laws_szActivity : FSig := ⟨H_laws_szActivity.ps, H_laws_szActivity.cs, H_laws_szActivity.io, H_laws_szActivity.im, H_laws_szActivity.R, H_laws_szActivity.m, laws_szActivity⟩
theorem E_laws_szActivity : fnOf tys [(78, T_laws_szModeS)] Try.f41 H_laws_szActivity = T_laws_szActivity := by kernel_rfl
theorem K_laws_szActivity : SigOk Try.prog 41 T_laws_szActivity := (congrArg (SigOk Try.prog 41) E_laws_szActivity).mp (fnOf_ok rfl tysOk ⟨K_laws_szModeS, trivial⟩ Try.func41 (by decide) rfl (fun _ h => by cases h) (nilEq_of (by kernel_rfl)))
def laws_szActivityS_L0 : (Int × ((List D_Activity) × (Int × Unit))) → Option (Out (Int × ((List D_Activity) × (Int × Unit))) ((Bool × (Int × ((List D_Activity) × (Int × Unit)))) ⊕ Empty) (Int × Unit)) :=
  (fun v0 => (if (ltZ v0.1 (lenI v0.2.1)) = true then (Option.bind (getI v0.2.1 v0.1) fun v1 => (Option.bind ((Option.bind (laws_szActivity (v1, (v0.2.2.1, ())) ()) fun v2 => (some v2.1)) : (Option Int)) fun v3 => (if (ltZ v3 0) = true then (some (Out.ret ((-1), ()))) else (some (Out.norm ((addZ .i64 v0.1 1), (v0.2.1, (v3, ())))))))) else (some (Out.exit (Sum.inl ((ltZ v0.1 (lenI v0.2.1)), (v0.1, (v0.2.1, (v0.2.2.1, ())))))))))
def laws_szActivityS (x : ((List D_Activity) × (Int × Unit))) (c : Unit) : (Option (Int × Unit)) :=
  (if (ltZ (subZ .i64 x.2.1 (lenI x.1)) 0) = true then (some ((-1), ())) else (Option.bind (loopN (A := (Int × ((List D_Activity) × (Int × Unit)))) big laws_szActivityS_L0 (0, (x.1, ((subZ .i64 x.2.1 (lenI x.1)), ())))) fun v4 => (match v4 with | Out.norm v5 => none | Out.exit v6 => (match ((match v6 with | Sum.inl v9 => (Sum.inl (v9.2.2.2.1, ())) | Sum.inr v10 => (Empty.elim v10)) : ((Int × Unit) ⊕ Empty)) with | Sum.inl v7 => (some (v7.1, ())) | Sum.inr v8 => none) | Out.ret v11 => (some v11))))
def H_laws_szActivityS : Hd := ⟨[.sl 77 (.st [.str, .int .i64, .sl 123 (.st [.int .i64, .sl 3 (.int .i64), .sl 3 (.int .i64)])]), .int .i64], [], none, .p, .int .i64, .p, []⟩
def T_laws_szActivityS : FSig := ⟨H_laws_szActivityS.ps, H_laws_szActivityS.cs, H_laws_szActivityS.io, H_laws_szActivityS.im, H_laws_szActivityS.R, H_laws_szActivityS.m, laws_szActivityS⟩
theorem E_laws_szActivityS : fnOf tys [(41, T_laws_szActivity)] Try.f12 H_laws_szActivityS = T_laws_szActivityS := by kernel_rfl
theorem K_laws_szActivityS : SigOk Try.prog 12 T_laws_szActivityS := (congrArg (SigOk Try.prog 12) E_laws_szActivityS).mp (fnOf_ok rfl tysOk ⟨K_laws_szActivity, trivial⟩ Try.func12 (by decide) rfl (fun _ h => by cases h) (nilEq_of (by kernel_rfl)))
def laws_szLinkS (x : ((List D_Link) × (Int × Unit))) (c : Unit) : (Option (Int × Unit)) :=
  (if (ltZ (subZ .i64 x.2.1 (lenI x.1)) 0) = true then (some ((-1), ())) else (some ((subZ .i64 x.2.1 (lenI x.1)), ())))
def H_laws_szLinkS : Hd := ⟨[.sl 95 (.st [.int .i64, .int .i64, .bool, .int .i64]), .int .i64], [], none, .p, .int .i64, .p, []⟩
def T_laws_szLinkS : FSig := ⟨H_laws_szLinkS.ps, H_laws_szLinkS.cs, H_laws_szLinkS.io, H_laws_szLinkS.im, H_laws_szLinkS.R, H_laws_szLinkS.m, laws_szLinkS⟩
theorem E_laws_szLinkS : fnOf tys [] Try.f13 H_laws_szLinkS = T_laws_szLinkS := by kernel_rfl
theorem K_laws_szLinkS : SigOk Try.prog 13 T_laws_szLinkS := (congrArg (SigOk Try.prog 13) E_laws_szLinkS).mp (fnOf_ok rfl tysOk trivial Try.func13 (by decide) rfl (fun _ h => by cases h) (nilEq_of (by kernel_rfl)))
def laws_szStepS (x : ((List D_Step) × (Int × Unit))) (c : Unit) : (Option (Int × Unit)) :=
  (if (ltZ (subZ .i64 x.2.1 (lenI x.1)) 0) = true then (some ((-1), ())) else (some ((subZ .i64 x.2.1 (lenI x.1)), ())))
def H_laws_szStepS : Hd := ⟨[.sl 127 (.st [.int .i64, .int .i64]), .int .i64], [], none, .p, .int .i64, .p, []⟩
def T_laws_szStepS : FSig := ⟨H_laws_szStepS.ps, H_laws_szStepS.cs, H_laws_szStepS.io, H_laws_szStepS.im, H_laws_szStepS.R, H_laws_szStepS.m, laws_szStepS⟩
theorem E_laws_szStepS : fnOf tys [] Try.f79 H_laws_szStepS = T_laws_szStepS := by kernel_rfl
theorem K_laws_szStepS : SigOk Try.prog 79 T_laws_szStepS := (congrArg (SigOk Try.prog 79) E_laws_szStepS).mp (fnOf_ok rfl tysOk trivial Try.func79 (by decide) rfl (fun _ h => by cases h) (nilEq_of (by kernel_rfl)))
def laws_szIntSS_L0 : (Int × ((List (List Int)) × (Int × Unit))) → Option (Out (Int × ((List (List Int)) × (Int × Unit))) ((Bool × (Int × ((List (List Int)) × (Int × Unit)))) ⊕ Empty) (Int × Unit)) :=
  (fun v0 => (if (ltZ v0.1 (lenI v0.2.1)) = true then (Option.bind (getI v0.2.1 v0.1) fun v1 => (Option.bind ((Option.bind (laws_szIntS (v1, (v0.2.2.1, ())) ()) fun v2 => (some v2.1)) : (Option Int)) fun v3 => (if (ltZ v3 0) = true then (some (Out.ret ((-1), ()))) else (some (Out.norm ((addZ .i64 v0.1 1), (v0.2.1, (v3, ())))))))) else (some (Out.exit (Sum.inl ((ltZ v0.1 (lenI v0.2.1)), (v0.1, (v0.2.1, (v0.2.2.1, ())))))))))
def laws_szIntSS (x : ((List (List Int)) × (Int × Unit))) (c : Unit) : (Option (Int × Unit)) :=
  (if (ltZ (subZ .i64 x.2.1 (lenI x.1)) 0) = true then (some ((-1), ())) else (Option.bind (loopN (A := (Int × ((List (List Int)) × (Int × Unit)))) big laws_szIntSS_L0 (0, (x.1, ((subZ .i64 x.2.1 (lenI x.1)), ())))) fun v4 => (match v4 with | Out.norm v5 => none | Out.exit v6 => (match ((match v6 with | Sum.inl v9 => (Sum.inl (v9.2.2.2.1, ())) | Sum.inr v10 => (Empty.elim v10)) : ((Int × Unit) ⊕ Empty)) with | Sum.inl v7 => (some (v7.1, ())) | Sum.inr v8 => none) | Out.ret v11 => (some v11))))
def H_laws_szIntSS : Hd := ⟨[.sl 25 (.sl 3 (.int .i64)), .int .i64], [], none, .p, .int .i64, .p, []⟩
def T_laws_szIntSS : FSig := ⟨H_laws_szIntSS.ps, H_laws_szIntSS.cs, H_laws_szIntSS.io, H_laws_szIntSS.im, H_laws_szIntSS.R, H_laws_szIntSS.m, laws_szIntSS⟩
theorem E_laws_szIntSS : fnOf tys [(15, T_laws_szIntS)] Try.f80 H_laws_szIntSS = T_laws_szIntSS := by kernel_rfl
theorem K_laws_szIntSS : SigOk Try.prog 80 T_laws_szIntSS := (congrArg (SigOk Try.prog 80) E_laws_szIntSS).mp (fnOf_ok rfl tysOk ⟨K_laws_szIntS, trivial⟩ Try.func80 (by decide) rfl (fun _ h => by cases h) (nilEq_of (by kernel_rfl)))
def laws_szResource (x : (D_Resource × (Int × Unit))) (c : Unit) : (Option (Int × Unit)) :=
  (Option.bind ((Option.bind (laws_szStepS (x.1.1, (x.2.1, ())) ()) fun v0 => (some v0.1)) : (Option Int)) fun v1 => (if (ltZ v1 0) = true then (some ((-1), ())) else (Option.bind ((Option.bind (laws_szIntSS (x.1.2.1, (v1, ())) ()) fun v2 => (some v2.1)) : (Option Int)) fun v3 => (if (ltZ v3 0) = true then (some ((-1), ())) else (some (v3, ()))))))
def H_laws_szResource : Hd := ⟨[.st [.sl 127 (.st [.int .i64, .int .i64]), .sl 25 (.sl 3 (.int .i64))], .int .i64], [], none, .p, .int .i64, .p, []⟩
def T_laws_szResource : FSig := ⟨H_laws_szResource.ps, H_laws_szResource.cs, H_laws_szResource.io, H_laws_szResource.im, H_laws_szResource.R, H_laws_szResource.m, laws_szResource⟩
theorem E_laws_szResource : fnOf tys [(79, T_laws_szStepS), (80, T_laws_szIntSS)] Try.f42 H_laws_szResource = T_laws_szResource := by kernel_rfl
theorem K_laws_szResource : SigOk Try.prog 42 T_laws_szResource := (congrArg (SigOk Try.prog 42) E_laws_szResource).mp (fnOf_ok rfl tysOk ⟨K_laws_szStepS, K_laws_szIntSS, trivial⟩ Try.func42 (by decide) rfl (fun _ h => by cases h) (nilEq_of (by kernel_rfl)))
def laws_szResourceS_L0 : (Int × ((List D_Resource) × (Int × Unit))) → Option (Out (Int × ((List D_Resource) × (Int × Unit))) ((Bool × (Int × ((List D_Resource) × (Int × Unit)))) ⊕ Empty) (Int × Unit)) :=
  (fun v0 => (if (ltZ v0.1 (lenI v0.2.1)) = true then (Option.bind (getI v0.2.1 v0.1) fun v1 => (Option.bind ((Option.bind (laws_szResource (v1, (v0.2.2.1, ())) ()) fun v2 => (some v2.1)) : (Option Int)) fun v3 => (if (ltZ v3 0) = true then (some (Out.ret ((-1), ()))) else (some (Out.norm ((addZ .i64 v0.1 1), (v0.2.1, (v3, ())))))))) else (some (Out.exit (Sum.inl ((ltZ v0.1 (lenI v0.2.1)), (v0.1, (v0.2.1, (v0.2.2.1, ())))))))))
def laws_szResourceS (x : ((List D_Resource) × (Int × Unit))) (c : Unit) : (Option (Int × Unit)) :=
  (if (ltZ (subZ .i64 x.2.1 (lenI x.1)) 0) = true then (some ((-1), ())) else (Option.bind (loopN (A := (Int × ((List D_Resource) × (Int × Unit)))) big laws_szResourceS_L0 (0, (x.1, ((subZ .i64 x.2.1 (lenI x.1)), ())))) fun v4 => (match v4 with | Out.norm v5 => none | Out.exit v6 => (match ((match v6 with | Sum.inl v9 => (Sum.inl (v9.2.2.2.1, ())) | Sum.inr v10 => (Empty.elim v10)) : ((Int × Unit) ⊕ Empty)) with | Sum.inl v7 => (some (v7.1, ())) | Sum.inr v8 => none) | Out.ret v11 => (some v11))))
def H_laws_szResourceS : Hd := ⟨[.sl 81 (.st [.sl 127 (.st [.int .i64, .int .i64]), .sl 25 (.sl 3 (.int .i64))]), .int .i64], [], none, .p, .int .i64, .p, []⟩
def T_laws_szResourceS : FSig := ⟨H_laws_szResourceS.ps, H_laws_szResourceS.cs, H_laws_szResourceS.io, H_laws_szResourceS.im, H_laws_szResourceS.R, H_laws_szResourceS.m, laws_szResourceS⟩
theorem E_laws_szResourceS : fnOf tys [(42, T_laws_szResource)] Try.f14 H_laws_szResourceS = T_laws_szResourceS := by kernel_rfl
theorem K_laws_szResourceS : SigOk Try.prog 14 T_laws_szResourceS := (congrArg (SigOk Try.prog 14) E_laws_szResourceS).mp (fnOf_ok rfl tysOk ⟨K_laws_szResource, trivial⟩ Try.func14 (by decide) rfl (fun _ h => by cases h) (nilEq_of (by kernel_rfl)))
def laws_szProject (x : (D_Project × (Int × Unit))) (c : Unit) : (Option (Int × Unit)) :=
  (Option.bind ((Option.bind (laws_szActivityS (x.1.2.1, (x.2.1, ())) ()) fun v0 => (some v0.1)) : (Option Int)) fun v1 => (if (ltZ v1 0) = true then (some ((-1), ())) else (Option.bind ((Option.bind (laws_szLinkS (x.1.2.2.1, (v1, ())) ()) fun v2 => (some v2.1)) : (Option Int)) fun v3 => (if (ltZ v3 0) = true then (some ((-1), ())) else (Option.bind ((Option.bind (laws_szResourceS (x.1.2.2.2.1, (v3, ())) ()) fun v4 => (some v4.1)) : (Option Int)) fun v5 => (if (ltZ v5 0) = true then (some ((-1), ())) else (Option.bind ((Option.bind (laws_szIntS (x.1.2.2.2.2.1, (v5, ())) ()) fun v6 => (some v6.1)) : (Option Int)) fun v7 => (if (ltZ v7 0) = true then (some ((-1), ())) else (some (v7, ()))))))))))
def H_laws_szProject : Hd := ⟨[.st [.int .i64, .sl 77 (.st [.str, .int .i64, .sl 123 (.st [.int .i64, .sl 3 (.int .i64), .sl 3 (.int .i64)])]), .sl 95 (.st [.int .i64, .int .i64, .bool, .int .i64]), .sl 81 (.st [.sl 127 (.st [.int .i64, .int .i64]), .sl 25 (.sl 3 (.int .i64))]), .sl 3 (.int .i64)], .int .i64], [], none, .p, .int .i64, .p, []⟩
def T_laws_szProject : FSig := ⟨H_laws_szProject.ps, H_laws_szProject.cs, H_laws_szProject.io, H_laws_szProject.im, H_laws_szProject.R, H_laws_szProject.m, laws_szProject⟩
theorem E_laws_szProject : fnOf tys [(12, T_laws_szActivityS), (13, T_laws_szLinkS), (14, T_laws_szResourceS), (15, T_laws_szIntS)] Try.f4 H_laws_szProject = T_laws_szProject := by kernel_rfl
theorem K_laws_szProject : SigOk Try.prog 4 T_laws_szProject := (congrArg (SigOk Try.prog 4) E_laws_szProject).mp (fnOf_ok rfl tysOk ⟨K_laws_szActivityS, K_laws_szLinkS, K_laws_szResourceS, K_laws_szIntS, trivial⟩ Try.func4 (by decide) rfl (fun _ h => by cases h) (nilEq_of (by kernel_rfl)))
def spec_l01In (x : (Int × D_Step)) (c : Unit) : (Option (Bool × Unit)) :=
  (Option.bind ((if (leZ x.2.1 x.1) = true then (some ((leZ x.1 x.2.2.1), ())) else (some (false, ()))) : (Option (Bool × Unit))) fun v0 => (some (v0.1, ())))
def H_spec_l01In : Hd := ⟨[.int .i64, .int .i64, .int .i64], [], none, .p, .bool, .p, []⟩
def T_spec_l01In : FSig := ⟨H_spec_l01In.ps, H_spec_l01In.cs, H_spec_l01In.io, H_spec_l01In.im, H_spec_l01In.R, H_spec_l01In.m, spec_l01In⟩
theorem E_spec_l01In : fnOf tys [] Try.f43 H_spec_l01In = T_spec_l01In := by kernel_rfl
theorem K_spec_l01In : SigOk Try.prog 43 T_spec_l01In := (congrArg (SigOk Try.prog 43) E_spec_l01In).mp (fnOf_ok rfl tysOk trivial Try.func43 (by decide) rfl (fun _ h => by cases h) (nilEq_of (by kernel_rfl)))
def spec_l04Nums_L0 : (Int × (Int × ((List Int) × ((List Int) × (Int × Unit))))) → Option (Out (Int × (Int × ((List Int) × ((List Int) × (Int × Unit))))) ((Bool × (Int × (Int × ((List Int) × ((List Int) × (Int × Unit)))))) ⊕ Empty) (Bool × Unit)) :=
  (fun v0 => (if (ltZ v0.1 v0.2.1) = true then (Option.bind (getI v0.2.2.1 v0.1) fun v1 => (Option.bind ((Option.bind (spec_l01In (v1, (0, (20, ()))) ()) fun v2 => (some v2.1)) : (Option Bool)) fun v3 => (if (notB v3) = true then (some (Out.ret (false, ()))) else (some (Out.norm ((addZ .i64 v0.1 1), (v0.2.1, (v0.2.2.1, (v0.2.2.2.1, (v0.2.2.2.2.1, ())))))))))) else (some (Out.exit (Sum.inl ((ltZ v0.1 v0.2.1), (v0.1, (v0.2.1, (v0.2.2.1, (v0.2.2.2.1, (v0.2.2.2.2.1, ())))))))))))
def spec_l04Nums (x : ((List Int) × (Int × Unit))) (c : Unit) : (Option (Bool × Unit)) :=
  (Option.bind (loopN (A := (Int × (Int × ((List Int) × ((List Int) × (Int × Unit)))))) big spec_l04Nums_L0 (0, ((lenI x.1), (x.1, (x.1, (x.2.1, ())))))) fun v4 => (match v4 with | Out.norm v5 => none | Out.exit v6 => (match ((match v6 with | Sum.inl v9 => (Sum.inl (v9.2.2.2.2.1, (v9.2.2.2.2.2.1, ()))) | Sum.inr v10 => (Empty.elim v10)) : (((List Int) × (Int × Unit)) ⊕ Empty)) with | Sum.inl v7 => (some ((eqZ (lenI v7.1) v7.2.1), ())) | Sum.inr v8 => none) | Out.ret v11 => (some v11)))
def H_spec_l04Nums : Hd := ⟨[.sl 3 (.int .i64), .int .i64], [], none, .p, .bool, .p, []⟩
def T_spec_l04Nums : FSig := ⟨H_spec_l04Nums.ps, H_spec_l04Nums.cs, H_spec_l04Nums.io, H_spec_l04Nums.im, H_spec_l04Nums.R, H_spec_l04Nums.m, spec_l04Nums⟩
theorem E_spec_l04Nums : fnOf tys [(43, T_spec_l01In)] Try.f97 H_spec_l04Nums = T_spec_l04Nums := by kernel_rfl
theorem K_spec_l04Nums : SigOk Try.prog 97 T_spec_l04Nums := (congrArg (SigOk Try.prog 97) E_spec_l04Nums).mp (fnOf_ok rfl tysOk ⟨K_spec_l01In, trivial⟩ Try.func97 (by decide) rfl (fun _ h => by cases h) (nilEq_of (by kernel_rfl)))
def spec_ModeOk (x : (D_Mode × D_Step)) (c : Unit) : (Option (Bool × Unit)) :=
  (Option.bind ((Option.bind (spec_l01In (x.1.1, (1, (12, ()))) ()) fun v0 => (some v0.1)) : (Option Bool)) fun v1 => (Option.bind ((if v1 = true then (Option.bind ((Option.bind (spec_l04Nums (x.1.2.1, (x.2.1, ())) ()) fun v2 => (some v2.1)) : (Option Bool)) fun v3 => (Option.bind ((if v3 = true then (Option.bind ((Option.bind (spec_l04Nums (x.1.2.2.1, (x.2.2.1, ())) ()) fun v4 => (some v4.1)) : (Option Bool)) fun v5 => (some (v5, ()))) else (some (false, ()))) : (Option (Bool × Unit))) fun v6 => (some (v6.1, ())))) else (some (false, ()))) : (Option (Bool × Unit))) fun v7 => (some (v7.1, ()))))
def H_spec_ModeOk : Hd := ⟨[.st [.int .i64, .sl 3 (.int .i64), .sl 3 (.int .i64)], .int .i64, .int .i64], [], none, .p, .bool, .p, []⟩
def T_spec_ModeOk : FSig := ⟨H_spec_ModeOk.ps, H_spec_ModeOk.cs, H_spec_ModeOk.io, H_spec_ModeOk.im, H_spec_ModeOk.R, H_spec_ModeOk.m, spec_ModeOk⟩
theorem E_spec_ModeOk : fnOf tys [(43, T_spec_l01In), (97, T_spec_l04Nums)] Try.f81 H_spec_ModeOk = T_spec_ModeOk := by kernel_rfl
theorem K_spec_ModeOk : SigOk Try.prog 81 T_spec_ModeOk := (congrArg (SigOk Try.prog 81) E_spec_ModeOk).mp (fnOf_ok rfl tysOk ⟨K_spec_l01In, K_spec_l04Nums, trivial⟩ Try.func81 (by decide) rfl (fun _ h => by cases h) (nilEq_of (by kernel_rfl)))
def spec_IsName_L0 : (Int × ((List UInt8) × Unit)) → Option (Out (Int × ((List UInt8) × Unit)) ((Bool × (Int × ((List UInt8) × Unit))) ⊕ Empty) (Bool × Unit)) :=
  (fun v0 => (if (ltZ v0.1 (lenI v0.2.1)) = true then (Option.bind (byteAt v0.2.1 v0.1) fun v1 => (Option.bind ((if (leZ 97 v1) = true then (Option.bind (byteAt v0.2.1 v0.1) fun v2 => (some ((leZ v2 122), (v0.1, (v0.2.1, ()))))) else (some (false, (v0.1, (v0.2.1, ()))))) : (Option (Bool × (Int × ((List UInt8) × Unit))))) fun v3 => (Option.bind ((if (notB v3.1) = true then (Option.bind ((if (eqZ v3.2.1 0) = true then (some (true, (v3.2.1, (v3.2.2.1, ())))) else (Option.bind (byteAt v3.2.2.1 v3.2.1) fun v4 => (Option.bind ((if (ltZ v4 48) = true then (some (true, (v3.2.1, (v3.2.2.1, ())))) else (Option.bind (byteAt v3.2.2.1 v3.2.1) fun v5 => (some ((ltZ 57 v5), (v3.2.1, (v3.2.2.1, ())))))) : (Option (Bool × (Int × ((List UInt8) × Unit))))) fun v6 => (some (v6.1, (v6.2.1, (v6.2.2.1, ()))))))) : (Option (Bool × (Int × ((List UInt8) × Unit))))) fun v7 => (some (v7.1, (v7.2.1, (v7.2.2.1, ()))))) else (some (false, (v3.2.1, (v3.2.2.1, ()))))) : (Option (Bool × (Int × ((List UInt8) × Unit))))) fun v8 => (if v8.1 = true then (some (Out.ret (false, ()))) else (some (Out.norm ((addZ .i64 v8.2.1 1), (v8.2.2.1, ())))))))) else (some (Out.exit (Sum.inl ((ltZ v0.1 (lenI v0.2.1)), (v0.1, (v0.2.1, ()))))))))
def spec_IsName (x : ((List UInt8) × Unit)) (c : Unit) : (Option (Bool × Unit)) :=
  (Option.bind (loopN (A := (Int × ((List UInt8) × Unit))) big spec_IsName_L0 (0, (x.1, ()))) fun v9 => (match v9 with | Out.norm v10 => none | Out.exit v11 => (match ((match v11 with | Sum.inl v16 => (Sum.inl (v16.2.2.1, ())) | Sum.inr v17 => (Empty.elim v17)) : (((List UInt8) × Unit) ⊕ Empty)) with | Sum.inl v12 => (Option.bind ((Option.bind (spec_l01In ((lenI v12.1), (1, (8, ()))) ()) fun v13 => (some v13.1)) : (Option Bool)) fun v14 => (some (v14, ()))) | Sum.inr v15 => none) | Out.ret v18 => (some v18)))
def H_spec_IsName : Hd := ⟨[.str], [], none, .p, .bool, .p, []⟩
def T_spec_IsName : FSig := ⟨H_spec_IsName.ps, H_spec_IsName.cs, H_spec_IsName.io, H_spec_IsName.im, H_spec_IsName.R, H_spec_IsName.m, spec_IsName⟩
theorem E_spec_IsName : fnOf tys [(43, T_spec_l01In)] Try.f82 H_spec_IsName = T_spec_IsName := by kernel_rfl
theorem K_spec_IsName : SigOk Try.prog 82 T_spec_IsName := (congrArg (SigOk Try.prog 82) E_spec_IsName).mp (fnOf_ok rfl tysOk ⟨K_spec_l01In, trivial⟩ Try.func82 (by decide) rfl (fun _ h => by cases h) (nilEq_of (by kernel_rfl)))
def spec_ActivityOk_L0 : (Int × (Int × ((List D_Mode) × (Int × (Int × (D_Activity × Unit)))))) → Option (Out (Int × (Int × ((List D_Mode) × (Int × (Int × (D_Activity × Unit)))))) ((Bool × (Int × (Int × ((List D_Mode) × (Int × (Int × (D_Activity × Unit))))))) ⊕ Empty) (Bool × Unit)) :=
  (fun v0 => (if (ltZ v0.1 v0.2.1) = true then (Option.bind (getI v0.2.2.1 v0.1) fun v1 => (Option.bind ((Option.bind (spec_ModeOk (v1, (v0.2.2.2.1, (v0.2.2.2.2.1, ()))) ()) fun v2 => (some v2.1)) : (Option Bool)) fun v3 => (if (notB v3) = true then (some (Out.ret (false, ()))) else (some (Out.norm ((addZ .i64 v0.1 1), (v0.2.1, (v0.2.2.1, (v0.2.2.2.1, (v0.2.2.2.2.1, (v0.2.2.2.2.2.1, ()))))))))))) else (some (Out.exit (Sum.inl ((ltZ v0.1 v0.2.1), (v0.1, (v0.2.1, (v0.2.2.1, (v0.2.2.2.1, (v0.2.2.2.2.1, (v0.2.2.2.2.2.1, ()))))))))))))
def spec_ActivityOk (x : (D_Activity × D_Step)) (c : Unit) : (Option (Bool × Unit)) :=
  (Option.bind (loopN (A := (Int × (Int × ((List D_Mode) × (Int × (Int × (D_Activity × Unit))))))) big spec_ActivityOk_L0 (0, ((lenI x.1.2.2.1), (x.1.2.2.1, (x.2.1, (x.2.2.1, (x.1, ()))))))) fun v4 => (match v4 with | Out.norm v5 => none | Out.exit v6 => (match ((match v6 with | Sum.inl v17 => (Sum.inl (v17.2.2.2.2.2.2.1, ())) | Sum.inr v18 => (Empty.elim v18)) : ((D_Activity × Unit) ⊕ Empty)) with | Sum.inl v7 => (Option.bind ((Option.bind (spec_IsName (v7.1.1, ()) ()) fun v8 => (some v8.1)) : (Option Bool)) fun v9 => (Option.bind ((if v9 = true then (Option.bind ((Option.bind (spec_l01In (v7.1.2.1, (0, (3, ()))) ()) fun v10 => (some v10.1)) : (Option Bool)) fun v11 => (Option.bind ((if v11 = true then (Option.bind ((Option.bind (spec_l01In ((lenI v7.1.2.2.1), (1, (3, ()))) ()) fun v12 => (some v12.1)) : (Option Bool)) fun v13 => (some (v13, ()))) else (some (false, ()))) : (Option (Bool × Unit))) fun v14 => (some (v14.1, ())))) else (some (false, ()))) : (Option (Bool × Unit))) fun v15 => (some (v15.1, ())))) | Sum.inr v16 => none) | Out.ret v19 => (some v19)))
def H_spec_ActivityOk : Hd := ⟨[.st [.str, .int .i64, .sl 54 (.st [.int .i64, .sl 3 (.int .i64), .sl 3 (.int .i64)])], .int .i64, .int .i64], [], none, .p, .bool, .p, []⟩
def T_spec_ActivityOk : FSig := ⟨H_spec_ActivityOk.ps, H_spec_ActivityOk.cs, H_spec_ActivityOk.io, H_spec_ActivityOk.im, H_spec_ActivityOk.R, H_spec_ActivityOk.m, spec_ActivityOk⟩
theorem E_spec_ActivityOk : fnOf tys [(43, T_spec_l01In), (81, T_spec_ModeOk), (82, T_spec_IsName)] Try.f48 H_spec_ActivityOk = T_spec_ActivityOk := by kernel_rfl
theorem K_spec_ActivityOk : SigOk Try.prog 48 T_spec_ActivityOk := (congrArg (SigOk Try.prog 48) E_spec_ActivityOk).mp (fnOf_ok rfl tysOk ⟨K_spec_l01In, K_spec_ModeOk, K_spec_IsName, trivial⟩ Try.func48 (by decide) rfl (fun _ h => by cases h) (nilEq_of (by kernel_rfl)))
def spec_ActivityIndex_L0 : (Int × (Int × ((List D_Activity) × ((List UInt8) × Unit)))) → Option (Out (Int × (Int × ((List D_Activity) × ((List UInt8) × Unit)))) ((Bool × (Int × (Int × ((List D_Activity) × ((List UInt8) × Unit))))) ⊕ Empty) (Int × Unit)) :=
  (fun v0 => (if (ltZ v0.1 v0.2.1) = true then (Option.bind (getI v0.2.2.1 v0.1) fun v1 => (if (eqS v1.1 v0.2.2.2.1) = true then (some (Out.ret (v0.1, ()))) else (some (Out.norm ((addZ .i64 v0.1 1), (v0.2.1, (v0.2.2.1, (v0.2.2.2.1, ())))))))) else (some (Out.exit (Sum.inl ((ltZ v0.1 v0.2.1), (v0.1, (v0.2.1, (v0.2.2.1, (v0.2.2.2.1, ()))))))))))
def spec_ActivityIndex (x : (D_Project × ((List UInt8) × Unit))) (c : Unit) : (Option (Int × Unit)) :=
  (Option.bind (loopN (A := (Int × (Int × ((List D_Activity) × ((List UInt8) × Unit))))) big spec_ActivityIndex_L0 (0, ((lenI x.1.2.1), (x.1.2.1, (x.2.1, ()))))) fun v2 => (match v2 with | Out.norm v3 => none | Out.exit v4 => (match ((match v4 with | Sum.inl v7 => (Sum.inl ()) | Sum.inr v8 => (Empty.elim v8)) : (Unit ⊕ Empty)) with | Sum.inl v5 => (some ((-1), ())) | Sum.inr v6 => none) | Out.ret v9 => (some v9)))
def H_spec_ActivityIndex : Hd := ⟨[.st [.int .i64, .sl 52 (.st [.str, .int .i64, .sl 54 (.st [.int .i64, .sl 3 (.int .i64), .sl 3 (.int .i64)])]), .sl 92 (.st [.int .i64, .int .i64, .bool, .int .i64]), .sl 60 (.st [.sl 85 (.st [.int .i64, .int .i64]), .sl 25 (.sl 3 (.int .i64))]), .sl 3 (.int .i64)], .str], [], none, .p, .int .i64, .p, []⟩
def T_spec_ActivityIndex : FSig := ⟨H_spec_ActivityIndex.ps, H_spec_ActivityIndex.cs, H_spec_ActivityIndex.io, H_spec_ActivityIndex.im, H_spec_ActivityIndex.R, H_spec_ActivityIndex.m, spec_ActivityIndex⟩
theorem E_spec_ActivityIndex : fnOf tys [] Try.f49 H_spec_ActivityIndex = T_spec_ActivityIndex := by kernel_rfl
theorem K_spec_ActivityIndex : SigOk Try.prog 49 T_spec_ActivityIndex := (congrArg (SigOk Try.prog 49) E_spec_ActivityIndex).mp (fnOf_ok rfl tysOk trivial Try.func49 (by decide) rfl (fun _ h => by cases h) (nilEq_of (by kernel_rfl)))
def spec_StepsOk_L0 : (Int × (Int × ((List D_Step) × ((List D_Step) × Unit)))) → Option (Out (Int × (Int × ((List D_Step) × ((List D_Step) × Unit)))) ((Bool × (Int × (Int × ((List D_Step) × ((List D_Step) × Unit))))) ⊕ Empty) (Bool × Unit)) :=
  (fun v0 => (if (ltZ v0.1 v0.2.1) = true then (Option.bind (getI v0.2.2.1 v0.1) fun v1 => (Option.bind ((Option.bind (spec_l01In (v1.1, (0, (60, ()))) ()) fun v2 => (some v2.1)) : (Option Bool)) fun v3 => (Option.bind ((if (notB v3) = true then (some (true, (v0.1, (v0.2.1, (v0.2.2.1, (v0.2.2.2.1, ())))))) else (Option.bind ((Option.bind (spec_l01In (v1.2.1, (0, (20, ()))) ()) fun v4 => (some v4.1)) : (Option Bool)) fun v5 => (Option.bind ((if (notB v5) = true then (some (true, (v0.1, (v0.2.1, (v0.2.2.1, (v0.2.2.2.1, ())))))) else (Option.bind ((if (ltZ 0 v0.1) = true then (Option.bind (getI v0.2.2.2.1 (subZ .i64 v0.1 1)) fun v6 => (some ((leZ v1.1 v6.1), (v0.1, (v0.2.1, (v0.2.2.1, (v0.2.2.2.1, ()))))))) else (some (false, (v0.1, (v0.2.1, (v0.2.2.1, (v0.2.2.2.1, ()))))))) : (Option (Bool × (Int × (Int × ((List D_Step) × ((List D_Step) × Unit))))))) fun v7 => (some (v7.1, (v7.2.1, (v7.2.2.1, (v7.2.2.2.1, (v7.2.2.2.2.1, ())))))))) : (Option (Bool × (Int × (Int × ((List D_Step) × ((List D_Step) × Unit))))))) fun v8 => (some (v8.1, (v8.2.1, (v8.2.2.1, (v8.2.2.2.1, (v8.2.2.2.2.1, ()))))))))) : (Option (Bool × (Int × (Int × ((List D_Step) × ((List D_Step) × Unit))))))) fun v9 => (if v9.1 = true then (some (Out.ret (false, ()))) else (some (Out.norm ((addZ .i64 v9.2.1 1), (v9.2.2.1, (v9.2.2.2.1, (v9.2.2.2.2.1, ())))))))))) else (some (Out.exit (Sum.inl ((ltZ v0.1 v0.2.1), (v0.1, (v0.2.1, (v0.2.2.1, (v0.2.2.2.1, ()))))))))))
def spec_StepsOk (x : ((List D_Step) × Unit)) (c : Unit) : (Option (Bool × Unit)) :=
  (Option.bind (loopN (A := (Int × (Int × ((List D_Step) × ((List D_Step) × Unit))))) big spec_StepsOk_L0 (0, ((lenI x.1), (x.1, (x.1, ()))))) fun v10 => (match v10 with | Out.norm v11 => none | Out.exit v12 => (match ((match v12 with | Sum.inl v19 => (Sum.inl (v19.2.2.2.2.1, ())) | Sum.inr v20 => (Empty.elim v20)) : (((List D_Step) × Unit) ⊕ Empty)) with | Sum.inl v13 => (Option.bind ((Option.bind (spec_l01In ((lenI v13.1), (1, (8, ()))) ()) fun v14 => (some v14.1)) : (Option Bool)) fun v15 => (Option.bind ((if v15 = true then (Option.bind (getI v13.1 0) fun v16 => (some ((eqZ v16.1 0), ()))) else (some (false, ()))) : (Option (Bool × Unit))) fun v17 => (some (v17.1, ())))) | Sum.inr v18 => none) | Out.ret v21 => (some v21)))
def H_spec_StepsOk : Hd := ⟨[.sl 85 (.st [.int .i64, .int .i64])], [], none, .p, .bool, .p, []⟩
def T_spec_StepsOk : FSig := ⟨H_spec_StepsOk.ps, H_spec_StepsOk.cs, H_spec_StepsOk.io, H_spec_StepsOk.im, H_spec_StepsOk.R, H_spec_StepsOk.m, spec_StepsOk⟩
theorem E_spec_StepsOk : fnOf tys [(43, T_spec_l01In)] Try.f83 H_spec_StepsOk = T_spec_StepsOk := by kernel_rfl
theorem K_spec_StepsOk : SigOk Try.prog 83 T_spec_StepsOk := (congrArg (SigOk Try.prog 83) E_spec_StepsOk).mp (fnOf_ok rfl tysOk ⟨K_spec_l01In, trivial⟩ Try.func83 (by decide) rfl (fun _ h => by cases h) (nilEq_of (by kernel_rfl)))
def spec_ResourceOk_L0 : (Int × (Int × ((List Int) × (Int × (Int × ((List (List Int)) × (D_Resource × Unit))))))) → Option (Out (Int × (Int × ((List Int) × (Int × (Int × ((List (List Int)) × (D_Resource × Unit))))))) ((Bool × (Int × (Int × ((List Int) × (Int × (Int × ((List (List Int)) × (D_Resource × Unit)))))))) ⊕ Empty) (Bool × Unit)) :=
  (fun v2 => (if (ltZ v2.1 v2.2.1) = true then (Option.bind (getI v2.2.2.1 v2.1) fun v3 => (Option.bind ((Option.bind (spec_l01In (v3, (0, (12, ()))) ()) fun v4 => (some v4.1)) : (Option Bool)) fun v5 => (if (notB v5) = true then (some (Out.ret (false, ()))) else (some (Out.norm ((addZ .i64 v2.1 1), (v2.2.1, (v2.2.2.1, (v2.2.2.2.1, (v2.2.2.2.2.1, (v2.2.2.2.2.2.1, (v2.2.2.2.2.2.2.1, ())))))))))))) else (some (Out.exit (Sum.inl ((ltZ v2.1 v2.2.1), (v2.1, (v2.2.1, (v2.2.2.1, (v2.2.2.2.1, (v2.2.2.2.2.1, (v2.2.2.2.2.2.1, (v2.2.2.2.2.2.2.1, ())))))))))))))
def spec_ResourceOk_L1 : (Int × (Int × ((List (List Int)) × (D_Resource × Unit)))) → Option (Out (Int × (Int × ((List (List Int)) × (D_Resource × Unit)))) ((Bool × (Int × (Int × ((List (List Int)) × (D_Resource × Unit))))) ⊕ Empty) (Bool × Unit)) :=
  (fun v0 => (if (ltZ v0.1 v0.2.1) = true then (Option.bind (getI v0.2.2.1 v0.1) fun v1 => (if (notB (eqZ (lenI v1) 4)) = true then (some (Out.ret (false, ()))) else (Option.bind (loopN (A := (Int × (Int × ((List Int) × (Int × (Int × ((List (List Int)) × (D_Resource × Unit)))))))) big spec_ResourceOk_L0 (0, ((lenI v1), (v1, (v0.1, (v0.2.1, (v0.2.2.1, (v0.2.2.2.1, ())))))))) fun v6 => (match v6 with | Out.norm v7 => none | Out.exit v8 => (match ((match v8 with | Sum.inl v13 => (Sum.inl (v13.2.2.2.2.1, (v13.2.2.2.2.2.1, (v13.2.2.2.2.2.2.1, (v13.2.2.2.2.2.2.2.1, ()))))) | Sum.inr v14 => (Empty.elim v14)) : ((Int × (Int × ((List (List Int)) × (D_Resource × Unit)))) ⊕ Empty)) with | Sum.inl v9 => (some (Out.norm ((addZ .i64 v9.1 1), (v9.2.1, (v9.2.2.1, (v9.2.2.2.1, ())))))) | Sum.inr v10 => (match ((Empty.elim v10) : ((Int × (Int × ((List (List Int)) × (D_Resource × Unit)))) ⊕ Empty)) with | Sum.inl v11 => (some (Out.norm ((addZ .i64 v11.1 1), (v11.2.1, (v11.2.2.1, (v11.2.2.2.1, ())))))) | Sum.inr v12 => (some (Out.exit (Sum.inr (Empty.elim v12)))))) | Out.ret v15 => (some (Out.ret v15)))))) else (some (Out.exit (Sum.inl ((ltZ v0.1 v0.2.1), (v0.1, (v0.2.1, (v0.2.2.1, (v0.2.2.2.1, ()))))))))))
def spec_ResourceOk (x : (D_Resource × Unit)) (c : Unit) : (Option (Bool × Unit)) :=
  (Option.bind (loopN (A := (Int × (Int × ((List (List Int)) × (D_Resource × Unit))))) big spec_ResourceOk_L1 (0, ((lenI x.1.2.1), (x.1.2.1, (x.1, ()))))) fun v16 => (match v16 with | Out.norm v17 => none | Out.exit v18 => (match ((match v18 with | Sum.inl v25 => (Sum.inl (v25.2.2.2.2.1, ())) | Sum.inr v26 => (Empty.elim v26)) : ((D_Resource × Unit) ⊕ Empty)) with | Sum.inl v19 => (Option.bind ((Option.bind (spec_StepsOk (v19.1.1, ()) ()) fun v20 => (some v20.1)) : (Option Bool)) fun v21 => (Option.bind ((if v21 = true then (Option.bind ((if (eqZ (lenI v19.1.2.1) 0) = true then (some (true, ())) else (some ((eqZ (lenI v19.1.2.1) 4), ()))) : (Option (Bool × Unit))) fun v22 => (some (v22.1, ()))) else (some (false, ()))) : (Option (Bool × Unit))) fun v23 => (some (v23.1, ())))) | Sum.inr v24 => none) | Out.ret v27 => (some v27)))
def H_spec_ResourceOk : Hd := ⟨[.st [.sl 85 (.st [.int .i64, .int .i64]), .sl 25 (.sl 3 (.int .i64))]], [], none, .p, .bool, .p, []⟩
def T_spec_ResourceOk : FSig := ⟨H_spec_ResourceOk.ps, H_spec_ResourceOk.cs, H_spec_ResourceOk.io, H_spec_ResourceOk.im, H_spec_ResourceOk.R, H_spec_ResourceOk.m, spec_ResourceOk⟩
theorem E_spec_ResourceOk : fnOf tys [(43, T_spec_l01In), (83, T_spec_StepsOk)] Try.f50 H_spec_ResourceOk = T_spec_ResourceOk := by kernel_rfl
theorem K_spec_ResourceOk : SigOk Try.prog 50 T_spec_ResourceOk := (congrArg (SigOk Try.prog 50) E_spec_ResourceOk).mp (fnOf_ok rfl tysOk ⟨K_spec_l01In, K_spec_StepsOk, trivial⟩ Try.func50 (by decide) rfl (fun _ h => by cases h) (nilEq_of (by kernel_rfl)))
def spec_ProjectOk_L0 : (Int × (Int × ((List D_Activity) × (D_Project × (Int × Unit))))) → Option (Out (Int × (Int × ((List D_Activity) × (D_Project × (Int × Unit))))) ((Bool × (Int × (Int × ((List D_Activity) × (D_Project × (Int × Unit)))))) ⊕ Empty) (Bool × Unit)) :=
  (fun v8 => (if (ltZ v8.1 v8.2.1) = true then (Option.bind (getI v8.2.2.1 v8.1) fun v9 => (Option.bind ((Option.bind (spec_ActivityOk (v9, ((lenI v8.2.2.2.1.2.2.2.1), ((lenI v8.2.2.2.1.2.2.2.2.1), ()))) ()) fun v10 => (some v10.1)) : (Option Bool)) fun v11 => (Option.bind ((if (notB v11) = true then (some (true, (v8.1, (v8.2.1, (v8.2.2.1, (v8.2.2.2.1, (v8.2.2.2.2.1, ()))))))) else (Option.bind ((Option.bind (spec_ActivityIndex (v8.2.2.2.1, (v9.1, ())) ()) fun v12 => (some v12.1)) : (Option Int)) fun v13 => (some ((notB (eqZ v13 v8.1)), (v8.1, (v8.2.1, (v8.2.2.1, (v8.2.2.2.1, (v8.2.2.2.2.1, ()))))))))) : (Option (Bool × (Int × (Int × ((List D_Activity) × (D_Project × (Int × Unit)))))))) fun v14 => (if v14.1 = true then (some (Out.ret (false, ()))) else (some (Out.norm ((addZ .i64 v14.2.1 1), (v14.2.2.1, (v14.2.2.2.1, (v14.2.2.2.2.1, (v14.2.2.2.2.2.1, ()))))))))))) else (some (Out.exit (Sum.inl ((ltZ v8.1 v8.2.1), (v8.1, (v8.2.1, (v8.2.2.1, (v8.2.2.2.1, (v8.2.2.2.2.1, ())))))))))))
def spec_ProjectOk_L1 : (Int × (Int × ((List D_Resource) × (D_Project × (Int × Unit))))) → Option (Out (Int × (Int × ((List D_Resource) × (D_Project × (Int × Unit))))) ((Bool × (Int × (Int × ((List D_Resource) × (D_Project × (Int × Unit)))))) ⊕ Empty) (Bool × Unit)) :=
  (fun v19 => (if (ltZ v19.1 v19.2.1) = true then (Option.bind (getI v19.2.2.1 v19.1) fun v20 => (Option.bind ((Option.bind (spec_ResourceOk (v20, ()) ()) fun v21 => (some v21.1)) : (Option Bool)) fun v22 => (if (notB v22) = true then (some (Out.ret (false, ()))) else (some (Out.norm ((addZ .i64 v19.1 1), (v19.2.1, (v19.2.2.1, (v19.2.2.2.1, (v19.2.2.2.2.1, ())))))))))) else (some (Out.exit (Sum.inl ((ltZ v19.1 v19.2.1), (v19.1, (v19.2.1, (v19.2.2.1, (v19.2.2.2.1, (v19.2.2.2.2.1, ())))))))))))
def spec_ProjectOk_L2 : (Int × (Int × ((List Int) × (D_Project × (Int × Unit))))) → Option (Out (Int × (Int × ((List Int) × (D_Project × (Int × Unit))))) ((Bool × (Int × (Int × ((List Int) × (D_Project × (Int × Unit)))))) ⊕ Empty) (Bool × Unit)) :=
  (fun v27 => (if (ltZ v27.1 v27.2.1) = true then (Option.bind (getI v27.2.2.1 v27.1) fun v28 => (Option.bind ((Option.bind (spec_l01In (v28, (0, (100, ()))) ()) fun v29 => (some v29.1)) : (Option Bool)) fun v30 => (if (notB v30) = true then (some (Out.ret (false, ()))) else (some (Out.norm ((addZ .i64 v27.1 1), (v27.2.1, (v27.2.2.1, (v27.2.2.2.1, (v27.2.2.2.2.1, ())))))))))) else (some (Out.exit (Sum.inl ((ltZ v27.1 v27.2.1), (v27.1, (v27.2.1, (v27.2.2.1, (v27.2.2.2.1, (v27.2.2.2.2.1, ())))))))))))
def spec_ProjectOk_L3 : (Int × (Int × ((List D_Link) × (Int × Unit)))) → Option (Out (Int × (Int × ((List D_Link) × (Int × Unit)))) ((Bool × (Int × (Int × ((List D_Link) × (Int × Unit))))) ⊕ Empty) (Bool × Unit)) :=
  (fun v35 => (if (ltZ v35.1 v35.2.1) = true then (Option.bind (getI v35.2.2.1 v35.1) fun v36 => (Option.bind ((Option.bind (spec_l01In (v36.1, (0, ((subZ .i64 v35.2.2.2.1 1), ()))) ()) fun v37 => (some v37.1)) : (Option Bool)) fun v38 => (Option.bind ((if (notB v38) = true then (some (true, (v35.1, (v35.2.1, (v35.2.2.1, (v35.2.2.2.1, ())))))) else (Option.bind ((Option.bind (spec_l01In (v36.2.1, (0, ((subZ .i64 v35.2.2.2.1 1), ()))) ()) fun v39 => (some v39.1)) : (Option Bool)) fun v40 => (Option.bind ((if (notB v40) = true then (some (true, (v35.1, (v35.2.1, (v35.2.2.1, (v35.2.2.2.1, ())))))) else (Option.bind ((if (eqZ v36.1 v36.2.1) = true then (some (true, (v35.1, (v35.2.1, (v35.2.2.1, (v35.2.2.2.1, ())))))) else (Option.bind ((Option.bind (spec_l01In (v36.2.2.2.1, ((-60), (60, ()))) ()) fun v41 => (some v41.1)) : (Option Bool)) fun v42 => (some ((notB v42), (v35.1, (v35.2.1, (v35.2.2.1, (v35.2.2.2.1, ())))))))) : (Option (Bool × (Int × (Int × ((List D_Link) × (Int × Unit))))))) fun v43 => (some (v43.1, (v43.2.1, (v43.2.2.1, (v43.2.2.2.1, (v43.2.2.2.2.1, ())))))))) : (Option (Bool × (Int × (Int × ((List D_Link) × (Int × Unit))))))) fun v44 => (some (v44.1, (v44.2.1, (v44.2.2.1, (v44.2.2.2.1, (v44.2.2.2.2.1, ()))))))))) : (Option (Bool × (Int × (Int × ((List D_Link) × (Int × Unit))))))) fun v45 => (if v45.1 = true then (some (Out.ret (false, ()))) else (some (Out.norm ((addZ .i64 v45.2.1 1), (v45.2.2.1, (v45.2.2.2.1, (v45.2.2.2.2.1, ())))))))))) else (some (Out.exit (Sum.inl ((ltZ v35.1 v35.2.1), (v35.1, (v35.2.1, (v35.2.2.1, (v35.2.2.2.1, ()))))))))))
def spec_ProjectOk (x : (D_Project × Unit)) (c : Unit) : (Option (Bool × Unit)) :=
  (Option.bind ((Option.bind (spec_l01In (x.1.1, (1, (60, ()))) ()) fun v0 => (some v0.1)) : (Option Bool)) fun v1 => (Option.bind ((if (notB v1) = true then (some (true, (x.1, ((lenI x.1.2.1), ())))) else (Option.bind ((Option.bind (spec_l01In ((lenI x.1.2.1), (1, (6, ()))) ()) fun v2 => (some v2.1)) : (Option Bool)) fun v3 => (Option.bind ((if (notB v3) = true then (some (true, (x.1, ((lenI x.1.2.1), ())))) else (Option.bind ((if (ltZ 3 (lenI x.1.2.2.2.1)) = true then (some (true, (x.1, ((lenI x.1.2.1), ())))) else (Option.bind ((if (ltZ 2 (lenI x.1.2.2.2.2.1)) = true then (some (true, (x.1, ((lenI x.1.2.1), ())))) else (some ((ltZ 12 (lenI x.1.2.2.1)), (x.1, ((lenI x.1.2.1), ()))))) : (Option (Bool × (D_Project × (Int × Unit))))) fun v4 => (some (v4.1, (v4.2.1, (v4.2.2.1, ())))))) : (Option (Bool × (D_Project × (Int × Unit))))) fun v5 => (some (v5.1, (v5.2.1, (v5.2.2.1, ())))))) : (Option (Bool × (D_Project × (Int × Unit))))) fun v6 => (some (v6.1, (v6.2.1, (v6.2.2.1, ()))))))) : (Option (Bool × (D_Project × (Int × Unit))))) fun v7 => (if v7.1 = true then (some (false, ())) else (Option.bind (loopN (A := (Int × (Int × ((List D_Activity) × (D_Project × (Int × Unit)))))) big spec_ProjectOk_L0 (0, ((lenI v7.2.1.2.1), (v7.2.1.2.1, (v7.2.1, (v7.2.2.1, ())))))) fun v15 => (match v15 with | Out.norm v16 => none | Out.exit v17 => (match ((match v17 with | Sum.inl v63 => (Sum.inl (v63.2.2.2.2.1, (v63.2.2.2.2.2.1, ()))) | Sum.inr v64 => (Empty.elim v64)) : ((D_Project × (Int × Unit)) ⊕ Empty)) with | Sum.inl v18 => (Option.bind (loopN (A := (Int × (Int × ((List D_Resource) × (D_Project × (Int × Unit)))))) big spec_ProjectOk_L1 (0, ((lenI v18.1.2.2.2.1), (v18.1.2.2.2.1, (v18.1, (v18.2.1, ())))))) fun v23 => (match v23 with | Out.norm v24 => none | Out.exit v25 => (match ((match v25 with | Sum.inl v59 => (Sum.inl (v59.2.2.2.2.1, (v59.2.2.2.2.2.1, ()))) | Sum.inr v60 => (Empty.elim v60)) : ((D_Project × (Int × Unit)) ⊕ Empty)) with | Sum.inl v26 => (Option.bind (loopN (A := (Int × (Int × ((List Int) × (D_Project × (Int × Unit)))))) big spec_ProjectOk_L2 (0, ((lenI v26.1.2.2.2.2.1), (v26.1.2.2.2.2.1, (v26.1, (v26.2.1, ())))))) fun v31 => (match v31 with | Out.norm v32 => none | Out.exit v33 => (match ((match v33 with | Sum.inl v55 => (Sum.inl (v55.2.2.2.2.1, (v55.2.2.2.2.2.1, ()))) | Sum.inr v56 => (Empty.elim v56)) : ((D_Project × (Int × Unit)) ⊕ Empty)) with | Sum.inl v34 => (Option.bind (loopN (A := (Int × (Int × ((List D_Link) × (Int × Unit))))) big spec_ProjectOk_L3 (0, ((lenI v34.1.2.2.1), (v34.1.2.2.1, (v34.2.1, ()))))) fun v46 => (match v46 with | Out.norm v47 => none | Out.exit v48 => (match ((match v48 with | Sum.inl v51 => (Sum.inl ()) | Sum.inr v52 => (Empty.elim v52)) : (Unit ⊕ Empty)) with | Sum.inl v49 => (some (true, ())) | Sum.inr v50 => none) | Out.ret v53 => (some v53))) | Sum.inr v54 => none) | Out.ret v57 => (some v57))) | Sum.inr v58 => none) | Out.ret v61 => (some v61))) | Sum.inr v62 => none) | Out.ret v65 => (some v65))))))
def H_spec_ProjectOk : Hd := ⟨[.st [.int .i64, .sl 52 (.st [.str, .int .i64, .sl 54 (.st [.int .i64, .sl 3 (.int .i64), .sl 3 (.int .i64)])]), .sl 92 (.st [.int .i64, .int .i64, .bool, .int .i64]), .sl 60 (.st [.sl 85 (.st [.int .i64, .int .i64]), .sl 25 (.sl 3 (.int .i64))]), .sl 3 (.int .i64)]], [], none, .p, .bool, .p, []⟩
def T_spec_ProjectOk : FSig := ⟨H_spec_ProjectOk.ps, H_spec_ProjectOk.cs, H_spec_ProjectOk.io, H_spec_ProjectOk.im, H_spec_ProjectOk.R, H_spec_ProjectOk.m, spec_ProjectOk⟩
theorem E_spec_ProjectOk : fnOf tys [(43, T_spec_l01In), (48, T_spec_ActivityOk), (49, T_spec_ActivityIndex), (50, T_spec_ResourceOk)] Try.f20 H_spec_ProjectOk = T_spec_ProjectOk := by kernel_rfl
theorem K_spec_ProjectOk : SigOk Try.prog 20 T_spec_ProjectOk := (congrArg (SigOk Try.prog 20) E_spec_ProjectOk).mp (fnOf_ok rfl tysOk ⟨K_spec_l01In, K_spec_ActivityOk, K_spec_ActivityIndex, K_spec_ResourceOk, trivial⟩ Try.func20 (by decide) rfl (fun _ h => by cases h) (nilEq_of (by kernel_rfl)))
def spec_DelayOk (x : (D_Project × (D_Delay × Unit))) (c : Unit) : (Option (Bool × Unit)) :=
  (Option.bind ((Option.bind (spec_ProjectOk (x.1, ()) ()) fun v0 => (some v0.1)) : (Option Bool)) fun v1 => (Option.bind ((if (notB v1) = true then (some (true, (x.1, (x.2.1, ())))) else (Option.bind ((Option.bind (spec_l01In (x.2.1.2.2.2.1, (0, (60, ()))) ()) fun v2 => (some v2.1)) : (Option Bool)) fun v3 => (some ((notB v3), (x.1, (x.2.1, ())))))) : (Option (Bool × (D_Project × (D_Delay × Unit))))) fun v4 => (if v4.1 = true then (some (false, ())) else (if (eqZ v4.2.2.1.1 1) = true then (Option.bind ((Option.bind (spec_l01In (v4.2.2.1.2.1, (0, ((subZ .i64 (lenI v4.2.1.2.1) 1), ()))) ()) fun v5 => (some v5.1)) : (Option Bool)) fun v6 => (Option.bind ((if v6 = true then (Option.bind ((Option.bind (spec_l01In (v4.2.2.1.2.2.1, (0, (60, ()))) ()) fun v7 => (some v7.1)) : (Option Bool)) fun v8 => (some (v8, ()))) else (some (false, ()))) : (Option (Bool × Unit))) fun v9 => (some (v9.1, ())))) else (if (eqZ v4.2.2.1.1 2) = true then (Option.bind ((Option.bind (spec_l01In (v4.2.2.1.2.1, (0, ((subZ .i64 (lenI v4.2.1.2.1) 1), ()))) ()) fun v10 => (some v10.1)) : (Option Bool)) fun v11 => (Option.bind ((if v11 = true then (Option.bind ((Option.bind (spec_l01In (v4.2.2.1.2.2.1, (1, (12, ()))) ()) fun v12 => (some v12.1)) : (Option Bool)) fun v13 => (some (v13, ()))) else (some (false, ()))) : (Option (Bool × Unit))) fun v14 => (some (v14.1, ())))) else (if (eqZ v4.2.2.1.1 3) = true then (Option.bind ((Option.bind (spec_l01In (v4.2.2.1.2.1, (0, ((subZ .i64 (lenI v4.2.1.2.2.2.1) 1), ()))) ()) fun v15 => (some v15.1)) : (Option Bool)) fun v16 => (Option.bind ((if v16 = true then (Option.bind ((Option.bind (spec_l01In (v4.2.2.1.2.2.1, (1, (20, ()))) ()) fun v17 => (some v17.1)) : (Option Bool)) fun v18 => (some (v18, ()))) else (some (false, ()))) : (Option (Bool × Unit))) fun v19 => (some (v19.1, ())))) else (some (false, ()))))))))
def H_spec_DelayOk : Hd := ⟨[.st [.int .i64, .sl 52 (.st [.str, .int .i64, .sl 54 (.st [.int .i64, .sl 3 (.int .i64), .sl 3 (.int .i64)])]), .sl 92 (.st [.int .i64, .int .i64, .bool, .int .i64]), .sl 60 (.st [.sl 85 (.st [.int .i64, .int .i64]), .sl 25 (.sl 3 (.int .i64))]), .sl 3 (.int .i64)], .st [.int .i64, .int .i64, .int .i64, .int .i64]], [], none, .p, .bool, .p, []⟩
def T_spec_DelayOk : FSig := ⟨H_spec_DelayOk.ps, H_spec_DelayOk.cs, H_spec_DelayOk.io, H_spec_DelayOk.im, H_spec_DelayOk.R, H_spec_DelayOk.m, spec_DelayOk⟩
theorem E_spec_DelayOk : fnOf tys [(20, T_spec_ProjectOk), (43, T_spec_l01In)] Try.f16 H_spec_DelayOk = T_spec_DelayOk := by kernel_rfl
theorem K_spec_DelayOk : SigOk Try.prog 16 T_spec_DelayOk := (congrArg (SigOk Try.prog 16) E_spec_DelayOk).mp (fnOf_ok rfl tysOk ⟨K_spec_ProjectOk, K_spec_l01In, trivial⟩ Try.func16 (by decide) rfl (fun _ h => by cases h) (nilEq_of (by kernel_rfl)))
def spec_l04Copy_L0 : (Int × (Int × ((List D_Mode) × (D_Activity × (D_Activity × Unit))))) → Option (Out (Int × (Int × ((List D_Mode) × (D_Activity × (D_Activity × Unit))))) ((Bool × (Int × (Int × ((List D_Mode) × (D_Activity × (D_Activity × Unit)))))) ⊕ Empty) (D_Activity × Unit)) :=
  (fun v0 => (if (ltZ v0.1 v0.2.1) = true then (Option.bind (getI v0.2.2.1 v0.1) fun v1 => (Option.bind (addI [] v1.2.1) fun v2 => (Option.bind (addI [] v1.2.2.1) fun v3 => (Option.bind (addI v0.2.2.2.1.2.2.1 ((v1.1, (v2, (v3, ()))) :: [])) fun v4 => (some (Out.norm ((addZ .i64 v0.1 1), (v0.2.1, (v0.2.2.1, ((v0.2.2.2.1.1, (v0.2.2.2.1.2.1, (v4, v0.2.2.2.1.2.2.2))), (v0.2.2.2.2.1, ()))))))))))) else (some (Out.exit (Sum.inl ((ltZ v0.1 v0.2.1), (v0.1, (v0.2.1, (v0.2.2.1, (v0.2.2.2.1, (v0.2.2.2.2.1, ())))))))))))
def spec_l04Copy (x : (D_Activity × Unit)) (c : Unit) : (Option (D_Activity × Unit)) :=
  (Option.bind (loopN (A := (Int × (Int × ((List D_Mode) × (D_Activity × (D_Activity × Unit)))))) big spec_l04Copy_L0 (0, ((lenI x.1.2.2.1), (x.1.2.2.1, ((x.1.1, (x.1.2.1, ([], ()))), (([], (0, ([], ()))), ())))))) fun v5 => (match v5 with | Out.norm v6 => none | Out.exit v7 => (match ((match v7 with | Sum.inl v10 => (Sum.inl (v10.2.2.2.2.1, (v10.2.2.2.2.2.1, ()))) | Sum.inr v11 => (Empty.elim v11)) : ((D_Activity × (D_Activity × Unit)) ⊕ Empty)) with | Sum.inl v8 => (some (v8.1, ())) | Sum.inr v9 => none) | Out.ret v12 => (some v12)))
def H_spec_l04Copy : Hd := ⟨[.st [.str, .int .i64, .sl 54 (.st [.int .i64, .sl 3 (.int .i64), .sl 3 (.int .i64)])]], [], none, .p, .st [.str, .int .i64, .sl 54 (.st [.int .i64, .sl 3 (.int .i64), .sl 3 (.int .i64)])], (Ty.all (.st [.str, .int .i64, .sl 54 (.st [.int .i64, .sl 3 (.int .i64), .sl 3 (.int .i64)])])), []⟩
def T_spec_l04Copy : FSig := ⟨H_spec_l04Copy.ps, H_spec_l04Copy.cs, H_spec_l04Copy.io, H_spec_l04Copy.im, H_spec_l04Copy.R, H_spec_l04Copy.m, spec_l04Copy⟩
theorem E_spec_l04Copy : fnOf tys [] Try.f44 H_spec_l04Copy = T_spec_l04Copy := by kernel_rfl
theorem K_spec_l04Copy : SigOk Try.prog 44 T_spec_l04Copy := (congrArg (SigOk Try.prog 44) E_spec_l04Copy).mp (fnOf_ok rfl tysOk trivial Try.func44 (by decide) rfl (fun _ h => by cases h) (nilEq_of (by kernel_rfl)))
def spec_l05Copy_L0 : (Int × (Int × ((List D_Activity) × (D_Project × (D_Project × (D_Project × Unit)))))) → Option (Out (Int × (Int × ((List D_Activity) × (D_Project × (D_Project × (D_Project × Unit)))))) ((Bool × (Int × (Int × ((List D_Activity) × (D_Project × (D_Project × (D_Project × Unit))))))) ⊕ Empty) (D_Project × Unit)) :=
  (fun v2 => (if (ltZ v2.1 v2.2.1) = true then (Option.bind (getI v2.2.2.1 v2.1) fun v3 => (Option.bind ((Option.bind (spec_l04Copy (v3, ()) ()) fun v4 => (some v4.1)) : (Option D_Activity)) fun v5 => (Option.bind (addI v2.2.2.2.2.1.2.1 (v5 :: [])) fun v6 => (some (Out.norm ((addZ .i64 v2.1 1), (v2.2.1, (v2.2.2.1, (v2.2.2.2.1, ((v2.2.2.2.2.1.1, (v6, v2.2.2.2.2.1.2.2)), (v2.2.2.2.2.2.1, ()))))))))))) else (some (Out.exit (Sum.inl ((ltZ v2.1 v2.2.1), (v2.1, (v2.2.1, (v2.2.2.1, (v2.2.2.2.1, (v2.2.2.2.2.1, (v2.2.2.2.2.2.1, ()))))))))))))
def spec_l05Copy_L1 : (Int × (Int × ((List (List Int)) × (D_Resource × (Int × (Int × ((List D_Resource) × (D_Project × (D_Project × Unit))))))))) → Option (Out (Int × (Int × ((List (List Int)) × (D_Resource × (Int × (Int × ((List D_Resource) × (D_Project × (D_Project × Unit))))))))) ((Bool × (Int × (Int × ((List (List Int)) × (D_Resource × (Int × (Int × ((List D_Resource) × (D_Project × (D_Project × Unit)))))))))) ⊕ Empty) (D_Project × Unit)) :=
  (fun v14 => (if (ltZ v14.1 v14.2.1) = true then (Option.bind (getI v14.2.2.1 v14.1) fun v15 => (Option.bind (addI [] v15) fun v16 => (Option.bind (addI v14.2.2.2.1.2.1 (v16 :: [])) fun v17 => (some (Out.norm ((addZ .i64 v14.1 1), (v14.2.1, (v14.2.2.1, ((v14.2.2.2.1.1, (v17, v14.2.2.2.1.2.2)), (v14.2.2.2.2.1, (v14.2.2.2.2.2.1, (v14.2.2.2.2.2.2.1, (v14.2.2.2.2.2.2.2.1, (v14.2.2.2.2.2.2.2.2.1, ())))))))))))))) else (some (Out.exit (Sum.inl ((ltZ v14.1 v14.2.1), (v14.1, (v14.2.1, (v14.2.2.1, (v14.2.2.2.1, (v14.2.2.2.2.1, (v14.2.2.2.2.2.1, (v14.2.2.2.2.2.2.1, (v14.2.2.2.2.2.2.2.1, (v14.2.2.2.2.2.2.2.2.1, ())))))))))))))))
def spec_l05Copy_L2 : (Int × (Int × ((List D_Resource) × (D_Project × (D_Project × Unit))))) → Option (Out (Int × (Int × ((List D_Resource) × (D_Project × (D_Project × Unit))))) ((Bool × (Int × (Int × ((List D_Resource) × (D_Project × (D_Project × Unit)))))) ⊕ Empty) (D_Project × Unit)) :=
  (fun v11 => (if (ltZ v11.1 v11.2.1) = true then (Option.bind (getI v11.2.2.1 v11.1) fun v12 => (Option.bind (addI [] v12.1) fun v13 => (Option.bind (loopN (A := (Int × (Int × ((List (List Int)) × (D_Resource × (Int × (Int × ((List D_Resource) × (D_Project × (D_Project × Unit)))))))))) big spec_l05Copy_L1 (0, ((lenI v12.2.1), (v12.2.1, ((v13, ([], ())), (v11.1, (v11.2.1, (v11.2.2.1, (v11.2.2.2.1, (v11.2.2.2.2.1, ())))))))))) fun v18 => (match v18 with | Out.norm v19 => none | Out.exit v20 => (match ((match v20 with | Sum.inl v26 => (Sum.inl (v26.2.2.2.2.1, (v26.2.2.2.2.2.1, (v26.2.2.2.2.2.2.1, (v26.2.2.2.2.2.2.2.1, (v26.2.2.2.2.2.2.2.2.1, (v26.2.2.2.2.2.2.2.2.2.1, ()))))))) | Sum.inr v27 => (Empty.elim v27)) : ((D_Resource × (Int × (Int × ((List D_Resource) × (D_Project × (D_Project × Unit)))))) ⊕ Empty)) with | Sum.inl v21 => (Option.bind (addI v21.2.2.2.2.1.2.2.2.1 (v21.1 :: [])) fun v22 => (some (Out.norm ((addZ .i64 v21.2.1 1), (v21.2.2.1, (v21.2.2.2.1, ((v21.2.2.2.2.1.1, (v21.2.2.2.2.1.2.1, (v21.2.2.2.2.1.2.2.1, (v22, v21.2.2.2.2.1.2.2.2.2)))), (v21.2.2.2.2.2.1, ())))))))) | Sum.inr v23 => (match ((Empty.elim (Empty.elim v23)) : ((Int × (Int × ((List D_Resource) × (D_Project × (D_Project × Unit))))) ⊕ Empty)) with | Sum.inl v24 => (some (Out.norm ((addZ .i64 v24.1 1), (v24.2.1, (v24.2.2.1, (v24.2.2.2.1, (v24.2.2.2.2.1, ()))))))) | Sum.inr v25 => (some (Out.exit (Sum.inr (Empty.elim v25)))))) | Out.ret v28 => (some (Out.ret v28)))))) else (some (Out.exit (Sum.inl ((ltZ v11.1 v11.2.1), (v11.1, (v11.2.1, (v11.2.2.1, (v11.2.2.2.1, (v11.2.2.2.2.1, ())))))))))))
def spec_l05Copy (x : (D_Project × Unit)) (c : Unit) : (Option (D_Project × Unit)) :=
  (Option.bind (addI [] x.1.2.2.1) fun v0 => (Option.bind (addI [] x.1.2.2.2.2.1) fun v1 => (Option.bind (loopN (A := (Int × (Int × ((List D_Activity) × (D_Project × (D_Project × (D_Project × Unit))))))) big spec_l05Copy_L0 (0, ((lenI x.1.2.1), (x.1.2.1, (x.1, ((x.1.1, ([], (v0, ([], (v1, ()))))), ((0, ([], ([], ([], ([], ()))))), ()))))))) fun v7 => (match v7 with | Out.norm v8 => none | Out.exit v9 => (match ((match v9 with | Sum.inl v38 => (Sum.inl (v38.2.2.2.2.1, (v38.2.2.2.2.2.1, (v38.2.2.2.2.2.2.1, ())))) | Sum.inr v39 => (Empty.elim v39)) : ((D_Project × (D_Project × (D_Project × Unit))) ⊕ Empty)) with | Sum.inl v10 => (Option.bind (loopN (A := (Int × (Int × ((List D_Resource) × (D_Project × (D_Project × Unit)))))) big spec_l05Copy_L2 (0, ((lenI v10.1.2.2.2.1), (v10.1.2.2.2.1, (v10.2.1, (v10.2.2.1, ())))))) fun v29 => (match v29 with | Out.norm v30 => none | Out.exit v31 => (match ((match v31 with | Sum.inl v34 => (Sum.inl (v34.2.2.2.2.1, (v34.2.2.2.2.2.1, ()))) | Sum.inr v35 => (Empty.elim v35)) : ((D_Project × (D_Project × Unit)) ⊕ Empty)) with | Sum.inl v32 => (some (v32.1, ())) | Sum.inr v33 => none) | Out.ret v36 => (some v36))) | Sum.inr v37 => none) | Out.ret v40 => (some v40)))))
def H_spec_l05Copy : Hd := ⟨[.st [.int .i64, .sl 52 (.st [.str, .int .i64, .sl 54 (.st [.int .i64, .sl 3 (.int .i64), .sl 3 (.int .i64)])]), .sl 92 (.st [.int .i64, .int .i64, .bool, .int .i64]), .sl 60 (.st [.sl 85 (.st [.int .i64, .int .i64]), .sl 25 (.sl 3 (.int .i64))]), .sl 3 (.int .i64)]], [], none, .p, .st [.int .i64, .sl 52 (.st [.str, .int .i64, .sl 54 (.st [.int .i64, .sl 3 (.int .i64), .sl 3 (.int .i64)])]), .sl 92 (.st [.int .i64, .int .i64, .bool, .int .i64]), .sl 60 (.st [.sl 85 (.st [.int .i64, .int .i64]), .sl 25 (.sl 3 (.int .i64))]), .sl 3 (.int .i64)], (Ty.all (.st [.int .i64, .sl 52 (.st [.str, .int .i64, .sl 54 (.st [.int .i64, .sl 3 (.int .i64), .sl 3 (.int .i64)])]), .sl 92 (.st [.int .i64, .int .i64, .bool, .int .i64]), .sl 60 (.st [.sl 85 (.st [.int .i64, .int .i64]), .sl 25 (.sl 3 (.int .i64))]), .sl 3 (.int .i64)])), []⟩
def T_spec_l05Copy : FSig := ⟨H_spec_l05Copy.ps, H_spec_l05Copy.cs, H_spec_l05Copy.io, H_spec_l05Copy.im, H_spec_l05Copy.R, H_spec_l05Copy.m, spec_l05Copy⟩
theorem E_spec_l05Copy : fnOf tys [(44, T_spec_l04Copy)] Try.f17 H_spec_l05Copy = T_spec_l05Copy := by kernel_rfl
theorem K_spec_l05Copy : SigOk Try.prog 17 T_spec_l05Copy := (congrArg (SigOk Try.prog 17) E_spec_l05Copy).mp (fnOf_ok rfl tysOk ⟨K_spec_l04Copy, trivial⟩ Try.func17 (by decide) rfl (fun _ h => by cases h) (nilEq_of (by kernel_rfl)))
def spec_l02Min (x : D_Step) (c : Unit) : (Option (Int × Unit)) :=
  (if (ltZ x.1 x.2.1) = true then (some (x.1, ())) else (some (x.2.1, ())))
def H_spec_l02Min : Hd := ⟨[.int .i64, .int .i64], [], none, .p, .int .i64, .p, []⟩
def T_spec_l02Min : FSig := ⟨H_spec_l02Min.ps, H_spec_l02Min.cs, H_spec_l02Min.io, H_spec_l02Min.im, H_spec_l02Min.R, H_spec_l02Min.m, spec_l02Min⟩
theorem E_spec_l02Min : fnOf tys [] Try.f18 H_spec_l02Min = T_spec_l02Min := by kernel_rfl
theorem K_spec_l02Min : SigOk Try.prog 18 T_spec_l02Min := (congrArg (SigOk Try.prog 18) E_spec_l02Min).mp (fnOf_ok rfl tysOk trivial Try.func18 (by decide) rfl (fun _ h => by cases h) (nilEq_of (by kernel_rfl)))
def spec_l02Max (x : D_Step) (c : Unit) : (Option (Int × Unit)) :=
  (if (ltZ x.2.1 x.1) = true then (some (x.1, ())) else (some (x.2.1, ())))
def H_spec_l02Max : Hd := ⟨[.int .i64, .int .i64], [], none, .p, .int .i64, .p, []⟩
def T_spec_l02Max : FSig := ⟨H_spec_l02Max.ps, H_spec_l02Max.cs, H_spec_l02Max.io, H_spec_l02Max.im, H_spec_l02Max.R, H_spec_l02Max.m, spec_l02Max⟩
theorem E_spec_l02Max : fnOf tys [] Try.f45 H_spec_l02Max = T_spec_l02Max := by kernel_rfl
theorem K_spec_l02Max : SigOk Try.prog 45 T_spec_l02Max := (congrArg (SigOk Try.prog 45) E_spec_l02Max).mp (fnOf_ok rfl tysOk trivial Try.func45 (by decide) rfl (fun _ h => by cases h) (nilEq_of (by kernel_rfl)))
def spec_l03At_L0 : (Int × (Int × ((List D_Step) × D_Step))) → Option (Out (Int × (Int × ((List D_Step) × D_Step))) ((Bool × (Int × (Int × ((List D_Step) × D_Step)))) ⊕ Empty) (Int × Unit)) :=
  (fun v0 => (if (ltZ v0.1 v0.2.1) = true then (Option.bind (getI v0.2.2.1 v0.1) fun v1 => (Option.bind ((if (leZ v1.1 v0.2.2.2.1) = true then (some (Out.norm (v0.1, (v0.2.1, (v0.2.2.1, (v0.2.2.2.1, (v1.2.1, ()))))))) else (some (Out.norm (v0.1, (v0.2.1, (v0.2.2.1, (v0.2.2.2.1, (v0.2.2.2.2.1, ())))))))) : (Option (Out (Int × (Int × ((List D_Step) × D_Step))) Empty (Int × Unit)))) fun v2 => (match ((match ((match v2 with | Out.norm v11 => (Out.norm v11) | Out.exit v12 => (Out.exit v12) | Out.ret v13 => (Out.ret v13)) : (Out (Int × (Int × ((List D_Step) × D_Step))) Empty (Int × Unit))) with | Out.norm v8 => (Out.norm v8) | Out.exit v9 => (Out.exit v9) | Out.ret v10 => (Out.ret v10)) : (Out (Int × (Int × ((List D_Step) × D_Step))) Empty (Int × Unit))) with | Out.norm v3 => (some (Out.norm ((addZ .i64 v3.1 1), (v3.2.1, (v3.2.2.1, (v3.2.2.2.1, (v3.2.2.2.2.1, ()))))))) | Out.exit v4 => (match ((Empty.elim v4) : ((Int × (Int × ((List D_Step) × D_Step))) ⊕ Empty)) with | Sum.inl v5 => (some (Out.norm ((addZ .i64 v5.1 1), (v5.2.1, (v5.2.2.1, (v5.2.2.2.1, (v5.2.2.2.2.1, ()))))))) | Sum.inr v6 => (some (Out.exit (Sum.inr (Empty.elim v6))))) | Out.ret v7 => (some (Out.ret v7))))) else (some (Out.exit (Sum.inl ((ltZ v0.1 v0.2.1), (v0.1, (v0.2.1, (v0.2.2.1, (v0.2.2.2.1, (v0.2.2.2.2.1, ())))))))))))
def spec_l03At (x : ((List D_Step) × (Int × Unit))) (c : Unit) : (Option (Int × Unit)) :=
  (Option.bind (loopN (A := (Int × (Int × ((List D_Step) × D_Step)))) big spec_l03At_L0 (0, ((lenI x.1), (x.1, (x.2.1, (0, ())))))) fun v14 => (match v14 with | Out.norm v15 => none | Out.exit v16 => (match ((match v16 with | Sum.inl v19 => (Sum.inl (v19.2.2.2.2.2.1, ())) | Sum.inr v20 => (Empty.elim v20)) : ((Int × Unit) ⊕ Empty)) with | Sum.inl v17 => (some (v17.1, ())) | Sum.inr v18 => none) | Out.ret v21 => (some v21)))
def H_spec_l03At : Hd := ⟨[.sl 85 (.st [.int .i64, .int .i64]), .int .i64], [], none, .p, .int .i64, .p, []⟩
def T_spec_l03At : FSig := ⟨H_spec_l03At.ps, H_spec_l03At.cs, H_spec_l03At.io, H_spec_l03At.im, H_spec_l03At.R, H_spec_l03At.m, spec_l03At⟩
theorem E_spec_l03At : fnOf tys [] Try.f46 H_spec_l03At = T_spec_l03At := by kernel_rfl
theorem K_spec_l03At : SigOk Try.prog 46 T_spec_l03At := (congrArg (SigOk Try.prog 46) E_spec_l03At).mp (fnOf_ok rfl tysOk trivial Try.func46 (by decide) rfl (fun _ h => by cases h) (nilEq_of (by kernel_rfl)))
def spec_l03Low_L0 : (Int × (Int × ((List D_Step) × ((List D_Step) × Unit)))) → Option (Out (Int × (Int × ((List D_Step) × ((List D_Step) × Unit)))) ((Bool × (Int × (Int × ((List D_Step) × ((List D_Step) × Unit))))) ⊕ Empty) ((List D_Step) × Unit)) :=
  (fun v0 => (if (ltZ v0.1 v0.2.1) = true then (Option.bind (getI v0.2.2.1 v0.1) fun v1 => (Option.bind ((if (eqZ (lenI v0.2.2.2.1) 0) = true then (some (true, (v1, (v0.1, (v0.2.1, (v0.2.2.1, (v0.2.2.2.1, ()))))))) else (Option.bind ((Option.bind (getI v0.2.2.2.1 (subZ .i64 (lenI v0.2.2.2.1) 1)) fun v2 => (some ())) : (Option Unit)) fun v3 => (Option.bind ((Option.bind (getI v0.2.2.2.1 (subZ .i64 (lenI v0.2.2.2.1) 1)) fun v4 => (some v4.2.1)) : (Option Int)) fun v5 => (some ((notB (eqZ v5 v1.2.1)), (v1, (v0.1, (v0.2.1, (v0.2.2.1, (v0.2.2.2.1, ())))))))))) : (Option (Bool × (D_Step × (Int × (Int × ((List D_Step) × ((List D_Step) × Unit)))))))) fun v6 => (Option.bind ((if v6.1 = true then (Option.bind (addI v6.2.2.2.2.2.1 (v6.2.1 :: [])) fun v7 => (some (Out.norm (v6.2.2.1, (v6.2.2.2.1, (v6.2.2.2.2.1, (v7, ()))))))) else (some (Out.norm (v6.2.2.1, (v6.2.2.2.1, (v6.2.2.2.2.1, (v6.2.2.2.2.2.1, ()))))))) : (Option (Out (Int × (Int × ((List D_Step) × ((List D_Step) × Unit)))) Empty ((List D_Step) × Unit)))) fun v8 => (match ((match ((match v8 with | Out.norm v17 => (Out.norm v17) | Out.exit v18 => (Out.exit v18) | Out.ret v19 => (Out.ret v19)) : (Out (Int × (Int × ((List D_Step) × ((List D_Step) × Unit)))) Empty ((List D_Step) × Unit))) with | Out.norm v14 => (Out.norm v14) | Out.exit v15 => (Out.exit v15) | Out.ret v16 => (Out.ret v16)) : (Out (Int × (Int × ((List D_Step) × ((List D_Step) × Unit)))) Empty ((List D_Step) × Unit))) with | Out.norm v9 => (some (Out.norm ((addZ .i64 v9.1 1), (v9.2.1, (v9.2.2.1, (v9.2.2.2.1, ())))))) | Out.exit v10 => (match ((Empty.elim v10) : ((Int × (Int × ((List D_Step) × ((List D_Step) × Unit)))) ⊕ Empty)) with | Sum.inl v11 => (some (Out.norm ((addZ .i64 v11.1 1), (v11.2.1, (v11.2.2.1, (v11.2.2.2.1, ())))))) | Sum.inr v12 => (some (Out.exit (Sum.inr (Empty.elim v12))))) | Out.ret v13 => (some (Out.ret v13)))))) else (some (Out.exit (Sum.inl ((ltZ v0.1 v0.2.1), (v0.1, (v0.2.1, (v0.2.2.1, (v0.2.2.2.1, ()))))))))))
def spec_l03Low (x : ((List D_Step) × Unit)) (c : Unit) : (Option ((List D_Step) × Unit)) :=
  (Option.bind (loopN (A := (Int × (Int × ((List D_Step) × ((List D_Step) × Unit))))) big spec_l03Low_L0 (0, ((lenI x.1), (x.1, ([], ()))))) fun v20 => (match v20 with | Out.norm v21 => none | Out.exit v22 => (match ((match v22 with | Sum.inl v25 => (Sum.inl (v25.2.2.2.2.1, ())) | Sum.inr v26 => (Empty.elim v26)) : (((List D_Step) × Unit) ⊕ Empty)) with | Sum.inl v23 => (some (v23.1, ())) | Sum.inr v24 => none) | Out.ret v27 => (some v27)))
def H_spec_l03Low : Hd := ⟨[.sl 85 (.st [.int .i64, .int .i64])], [], none, .p, .sl 85 (.st [.int .i64, .int .i64]), (Ty.all (.sl 85 (.st [.int .i64, .int .i64]))), []⟩
def T_spec_l03Low : FSig := ⟨H_spec_l03Low.ps, H_spec_l03Low.cs, H_spec_l03Low.io, H_spec_l03Low.im, H_spec_l03Low.R, H_spec_l03Low.m, spec_l03Low⟩
theorem E_spec_l03Low : fnOf tys [] Try.f47 H_spec_l03Low = T_spec_l03Low := by kernel_rfl
theorem K_spec_l03Low : SigOk Try.prog 47 T_spec_l03Low := (congrArg (SigOk Try.prog 47) E_spec_l03Low).mp (fnOf_ok rfl tysOk trivial Try.func47 (by decide) rfl (fun _ h => by cases h) (nilEq_of (by kernel_rfl)))
def spec_l31Less_L0 : (Int × (Int × ((List D_Step) × ((List D_Step) × ((List D_Step) × D_Step))))) → Option (Out (Int × (Int × ((List D_Step) × ((List D_Step) × ((List D_Step) × D_Step))))) ((Bool × (Int × (Int × ((List D_Step) × ((List D_Step) × ((List D_Step) × D_Step)))))) ⊕ Empty) ((List D_Step) × Unit)) :=
  (fun v0 => (if (ltZ v0.1 v0.2.1) = true then (Option.bind (getI v0.2.2.1 v0.1) fun v1 => (Option.bind ((if (ltZ v1.1 v0.2.2.2.2.2.1) = true then (Option.bind (addI v0.2.2.2.1 (v1 :: [])) fun v2 => (some (Out.norm (v0.1, (v0.2.1, (v0.2.2.1, (v2, (v0.2.2.2.2.1, (v0.2.2.2.2.2.1, (v0.2.2.2.2.2.2.1, ())))))))))) else (some (Out.norm (v0.1, (v0.2.1, (v0.2.2.1, (v0.2.2.2.1, (v0.2.2.2.2.1, (v0.2.2.2.2.2.1, (v0.2.2.2.2.2.2.1, ())))))))))) : (Option (Out (Int × (Int × ((List D_Step) × ((List D_Step) × ((List D_Step) × D_Step))))) Empty ((List D_Step) × Unit)))) fun v3 => (match ((match ((match v3 with | Out.norm v12 => (Out.norm v12) | Out.exit v13 => (Out.exit v13) | Out.ret v14 => (Out.ret v14)) : (Out (Int × (Int × ((List D_Step) × ((List D_Step) × ((List D_Step) × D_Step))))) Empty ((List D_Step) × Unit))) with | Out.norm v9 => (Out.norm v9) | Out.exit v10 => (Out.exit v10) | Out.ret v11 => (Out.ret v11)) : (Out (Int × (Int × ((List D_Step) × ((List D_Step) × ((List D_Step) × D_Step))))) Empty ((List D_Step) × Unit))) with | Out.norm v4 => (some (Out.norm ((addZ .i64 v4.1 1), (v4.2.1, (v4.2.2.1, (v4.2.2.2.1, (v4.2.2.2.2.1, (v4.2.2.2.2.2.1, (v4.2.2.2.2.2.2.1, ()))))))))) | Out.exit v5 => (match ((Empty.elim v5) : ((Int × (Int × ((List D_Step) × ((List D_Step) × ((List D_Step) × D_Step))))) ⊕ Empty)) with | Sum.inl v6 => (some (Out.norm ((addZ .i64 v6.1 1), (v6.2.1, (v6.2.2.1, (v6.2.2.2.1, (v6.2.2.2.2.1, (v6.2.2.2.2.2.1, (v6.2.2.2.2.2.2.1, ()))))))))) | Sum.inr v7 => (some (Out.exit (Sum.inr (Empty.elim v7))))) | Out.ret v8 => (some (Out.ret v8))))) else (some (Out.exit (Sum.inl ((ltZ v0.1 v0.2.1), (v0.1, (v0.2.1, (v0.2.2.1, (v0.2.2.2.1, (v0.2.2.2.2.1, (v0.2.2.2.2.2.1, (v0.2.2.2.2.2.2.1, ())))))))))))))
def spec_l31Less_L1 : (Int × (Int × ((List D_Step) × (Int × (Int × ((List D_Step) × Unit)))))) → Option (Out (Int × (Int × ((List D_Step) × (Int × (Int × ((List D_Step) × Unit)))))) ((Bool × (Int × (Int × ((List D_Step) × (Int × (Int × ((List D_Step) × Unit))))))) ⊕ Empty) ((List D_Step) × Unit)) :=
  (fun v24 => (if (ltZ v24.1 v24.2.1) = true then (Option.bind (getI v24.2.2.1 v24.1) fun v25 => (Option.bind ((if (ltZ v24.2.2.2.1 v25.1) = true then (Option.bind ((Option.bind (spec_l02Max (0, ((subZ .i64 v25.2.1 v24.2.2.2.2.1), ())) ()) fun v26 => (some v26.1)) : (Option Int)) fun v27 => (Option.bind (addI v24.2.2.2.2.2.1 ((v25.1, (v27, ())) :: [])) fun v28 => (some (Out.norm (v24.1, (v24.2.1, (v24.2.2.1, (v24.2.2.2.1, (v24.2.2.2.2.1, (v28, ())))))))))) else (some (Out.norm (v24.1, (v24.2.1, (v24.2.2.1, (v24.2.2.2.1, (v24.2.2.2.2.1, (v24.2.2.2.2.2.1, ()))))))))) : (Option (Out (Int × (Int × ((List D_Step) × (Int × (Int × ((List D_Step) × Unit)))))) Empty ((List D_Step) × Unit)))) fun v29 => (match ((match ((match v29 with | Out.norm v38 => (Out.norm v38) | Out.exit v39 => (Out.exit v39) | Out.ret v40 => (Out.ret v40)) : (Out (Int × (Int × ((List D_Step) × (Int × (Int × ((List D_Step) × Unit)))))) Empty ((List D_Step) × Unit))) with | Out.norm v35 => (Out.norm v35) | Out.exit v36 => (Out.exit v36) | Out.ret v37 => (Out.ret v37)) : (Out (Int × (Int × ((List D_Step) × (Int × (Int × ((List D_Step) × Unit)))))) Empty ((List D_Step) × Unit))) with | Out.norm v30 => (some (Out.norm ((addZ .i64 v30.1 1), (v30.2.1, (v30.2.2.1, (v30.2.2.2.1, (v30.2.2.2.2.1, (v30.2.2.2.2.2.1, ())))))))) | Out.exit v31 => (match ((Empty.elim v31) : ((Int × (Int × ((List D_Step) × (Int × (Int × ((List D_Step) × Unit)))))) ⊕ Empty)) with | Sum.inl v32 => (some (Out.norm ((addZ .i64 v32.1 1), (v32.2.1, (v32.2.2.1, (v32.2.2.2.1, (v32.2.2.2.2.1, (v32.2.2.2.2.2.1, ())))))))) | Sum.inr v33 => (some (Out.exit (Sum.inr (Empty.elim v33))))) | Out.ret v34 => (some (Out.ret v34))))) else (some (Out.exit (Sum.inl ((ltZ v24.1 v24.2.1), (v24.1, (v24.2.1, (v24.2.2.1, (v24.2.2.2.1, (v24.2.2.2.2.1, (v24.2.2.2.2.2.1, ()))))))))))))
def spec_l31Less (x : ((List D_Step) × D_Step)) (c : Unit) : (Option ((List D_Step) × Unit)) :=
  (Option.bind (loopN (A := (Int × (Int × ((List D_Step) × ((List D_Step) × ((List D_Step) × D_Step)))))) big spec_l31Less_L0 (0, ((lenI x.1), (x.1, ([], (x.1, (x.2.1, (x.2.2.1, ())))))))) fun v15 => (match v15 with | Out.norm v16 => none | Out.exit v17 => (match ((match v17 with | Sum.inl v52 => (Sum.inl (v52.2.2.2.2.1, (v52.2.2.2.2.2.1, (v52.2.2.2.2.2.2.1, (v52.2.2.2.2.2.2.2.1, ()))))) | Sum.inr v53 => (Empty.elim v53)) : (((List D_Step) × ((List D_Step) × D_Step)) ⊕ Empty)) with | Sum.inl v18 => (Option.bind ((Option.bind (spec_l03At (v18.2.1, (v18.2.2.1, ())) ()) fun v19 => (some v19.1)) : (Option Int)) fun v20 => (Option.bind ((Option.bind (spec_l02Max (0, ((subZ .i64 v20 v18.2.2.2.1), ())) ()) fun v21 => (some v21.1)) : (Option Int)) fun v22 => (Option.bind (addI v18.1 ((v18.2.2.1, (v22, ())) :: [])) fun v23 => (Option.bind (loopN (A := (Int × (Int × ((List D_Step) × (Int × (Int × ((List D_Step) × Unit))))))) big spec_l31Less_L1 (0, ((lenI v18.2.1), (v18.2.1, (v18.2.2.1, (v18.2.2.2.1, (v23, ()))))))) fun v41 => (match v41 with | Out.norm v42 => none | Out.exit v43 => (match ((match v43 with | Sum.inl v48 => (Sum.inl (v48.2.2.2.2.2.2.1, ())) | Sum.inr v49 => (Empty.elim v49)) : (((List D_Step) × Unit) ⊕ Empty)) with | Sum.inl v44 => (Option.bind ((Option.bind (spec_l03Low (v44.1, ()) ()) fun v45 => (some v45.1)) : (Option (List D_Step))) fun v46 => (some (v46, ()))) | Sum.inr v47 => none) | Out.ret v50 => (some v50)))))) | Sum.inr v51 => none) | Out.ret v54 => (some v54)))
def H_spec_l31Less : Hd := ⟨[.sl 85 (.st [.int .i64, .int .i64]), .int .i64, .int .i64], [], none, .p, .sl 85 (.st [.int .i64, .int .i64]), (Ty.all (.sl 85 (.st [.int .i64, .int .i64]))), []⟩
def T_spec_l31Less : FSig := ⟨H_spec_l31Less.ps, H_spec_l31Less.cs, H_spec_l31Less.io, H_spec_l31Less.im, H_spec_l31Less.R, H_spec_l31Less.m, spec_l31Less⟩
theorem E_spec_l31Less : fnOf tys [(45, T_spec_l02Max), (46, T_spec_l03At), (47, T_spec_l03Low)] Try.f19 H_spec_l31Less = T_spec_l31Less := by kernel_rfl
theorem K_spec_l31Less : SigOk Try.prog 19 T_spec_l31Less := (congrArg (SigOk Try.prog 19) E_spec_l31Less).mp (fnOf_ok rfl tysOk ⟨K_spec_l02Max, K_spec_l03At, K_spec_l03Low, trivial⟩ Try.func19 (by decide) rfl (fun _ h => by cases h) (nilEq_of (by kernel_rfl)))
def spec_ApplyDelay_L0 : (Int × (Int × ((List D_Mode) × (D_Project × (D_Delay × (D_Project × (D_Project × Unit))))))) → Option (Out (Int × (Int × ((List D_Mode) × (D_Project × (D_Delay × (D_Project × (D_Project × Unit))))))) ((Bool × (Int × (Int × ((List D_Mode) × (D_Project × (D_Delay × (D_Project × (D_Project × Unit)))))))) ⊕ Empty) ((D_Project × (Bool × Unit)) × Unit)) :=
  (fun v5 => (if (ltZ v5.1 v5.2.1) = true then (Option.bind (getI v5.2.2.1 v5.1) fun v6 => (Option.bind ((Option.bind (getI v5.2.2.2.2.2.1.2.1 v5.2.2.2.2.1.2.1) fun v7 => (some ())) : (Option Unit)) fun v8 => (Option.bind ((Option.bind (getI v5.2.2.2.2.2.1.2.1 v5.2.2.2.2.1.2.1) fun v9 => (some v9.2.2.1)) : (Option (List D_Mode))) fun v10 => (Option.bind ((Option.bind (spec_l02Min (12, ((addZ .i64 v6.1 v5.2.2.2.2.1.2.2.1), ())) ()) fun v11 => (some v11.1)) : (Option Int)) fun v12 => (Option.bind ((Option.bind ((Option.bind (getI v5.2.2.2.2.2.1.2.1 v5.2.2.2.2.1.2.1) fun v13 => (some v13.2.2.1)) : (Option (List D_Mode))) fun v14 => (Option.bind (getI v14 v5.1) fun v15 => (some ()))) : (Option Unit)) fun v16 => (Option.bind ((Option.bind ((Option.bind (getI v5.2.2.2.2.2.1.2.1 v5.2.2.2.2.1.2.1) fun v17 => (Option.bind (getI v17.2.2.1 v5.1) fun v18 => (some v18.1))) : (Option Int)) fun v19 => (some v12)) : (Option Int)) fun v20 => (some (Out.norm ((addZ .i64 v5.1 1), (v5.2.1, (v5.2.2.1, (v5.2.2.2.1, (v5.2.2.2.2.1, ((v5.2.2.2.2.2.1.1, ((setI v5.2.2.2.2.2.1.2.1 v5.2.2.2.2.1.2.1 (fun v21 => (v21.1, (v21.2.1, ((setI v21.2.2.1 v5.1 (fun v22 => (v20, v22.2))), v21.2.2.2))))), v5.2.2.2.2.2.1.2.2)), (v5.2.2.2.2.2.2.1, ()))))))))))))))) else (some (Out.exit (Sum.inl ((ltZ v5.1 v5.2.1), (v5.1, (v5.2.1, (v5.2.2.1, (v5.2.2.2.1, (v5.2.2.2.2.1, (v5.2.2.2.2.2.1, (v5.2.2.2.2.2.2.1, ())))))))))))))
def spec_ApplyDelay (x : (D_Project × (D_Delay × Unit))) (c : Unit) : (Option ((D_Project × (Bool × Unit)) × Unit)) :=
  (Option.bind ((Option.bind (spec_DelayOk (x.1, (x.2.1, ())) ()) fun v0 => (some v0.1)) : (Option Bool)) fun v1 => (if (notB v1) = true then (some (((0, ([], ([], ([], ([], ()))))), (false, ())), ())) else (Option.bind ((Option.bind (spec_l05Copy (x.1, ()) ()) fun v2 => (some v2.1)) : (Option D_Project)) fun v3 => (Option.bind ((if (eqZ x.2.1.1 2) = true then (Option.bind (getI x.1.2.1 x.2.1.2.1) fun v4 => (Option.bind (loopN (A := (Int × (Int × ((List D_Mode) × (D_Project × (D_Delay × (D_Project × (D_Project × Unit)))))))) big spec_ApplyDelay_L0 (0, ((lenI v4.2.2.1), (v4.2.2.1, (x.1, (x.2.1, (v3, ((0, ([], ([], ([], ([], ()))))), ())))))))) fun v23 => (match v23 with | Out.norm v24 => none | Out.exit v25 => (match ((match v25 with | Sum.inl v28 => (Sum.inl (v28.2.2.2.2.1, (v28.2.2.2.2.2.1, (v28.2.2.2.2.2.2.1, (v28.2.2.2.2.2.2.2.1, ()))))) | Sum.inr v29 => (Empty.elim v29)) : ((D_Project × (D_Delay × (D_Project × (D_Project × Unit)))) ⊕ Empty)) with | Sum.inl v26 => (some (Out.norm (v26.1, (v26.2.1, (v26.2.2.1, (v26.2.2.2.1, ())))))) | Sum.inr v27 => (some (Out.exit (Empty.elim v27)))) | Out.ret v30 => (some (Out.ret v30))))) else (some (Out.norm (x.1, (x.2.1, (v3, ((0, ([], ([], ([], ([], ()))))), ()))))))) : (Option (Out (D_Project × (D_Delay × (D_Project × (D_Project × Unit)))) Empty ((D_Project × (Bool × Unit)) × Unit)))) fun v31 => (match ((match v31 with | Out.norm v53 => (Out.norm v53) | Out.exit v54 => (Out.exit v54) | Out.ret v55 => (Out.ret v55)) : (Out (D_Project × (D_Delay × (D_Project × (D_Project × Unit)))) Empty ((D_Project × (Bool × Unit)) × Unit))) with | Out.norm v32 => (Option.bind ((if (eqZ v32.2.1.1 3) = true then (Option.bind (getI v32.1.2.2.2.1 v32.2.1.2.1) fun v33 => (Option.bind ((Option.bind (spec_l31Less (v33.1, (v32.2.1.2.2.2.1, (v32.2.1.2.2.1, ()))) ()) fun v34 => (some v34.1)) : (Option (List D_Step))) fun v35 => (Option.bind ((Option.bind (getI v32.2.2.1.2.2.2.1 v32.2.1.2.1) fun v36 => (some ())) : (Option Unit)) fun v37 => (Option.bind ((Option.bind ((Option.bind (getI v32.2.2.1.2.2.2.1 v32.2.1.2.1) fun v38 => (some v38.1)) : (Option (List D_Step))) fun v39 => (some v35)) : (Option (List D_Step))) fun v40 => (some (Out.norm ((v32.2.2.1.1, (v32.2.2.1.2.1, (v32.2.2.1.2.2.1, ((setI v32.2.2.1.2.2.2.1 v32.2.1.2.1 (fun v41 => (v40, v41.2))), v32.2.2.1.2.2.2.2)))), (v32.2.2.2.1, ())))))))) else (some (Out.norm (v32.2.2.1, (v32.2.2.2.1, ()))))) : (Option (Out (D_Project × (D_Project × Unit)) Empty ((D_Project × (Bool × Unit)) × Unit)))) fun v42 => (match ((match v42 with | Out.norm v48 => (Out.norm v48) | Out.exit v49 => (Out.exit v49) | Out.ret v50 => (Out.ret v50)) : (Out (D_Project × (D_Project × Unit)) Empty ((D_Project × (Bool × Unit)) × Unit))) with | Out.norm v43 => (Option.bind ((Option.bind (spec_ProjectOk (v43.1, ()) ()) fun v44 => (some v44.1)) : (Option Bool)) fun v45 => (if (notB v45) = true then (some (((0, ([], ([], ([], ([], ()))))), (false, ())), ())) else (some ((v43.1, (true, ())), ())))) | Out.exit v46 => none | Out.ret v47 => (some v47))) | Out.exit v51 => none | Out.ret v52 => (some v52))))))
def H_spec_ApplyDelay : Hd := ⟨[.st [.int .i64, .sl 52 (.st [.str, .int .i64, .sl 54 (.st [.int .i64, .sl 3 (.int .i64), .sl 3 (.int .i64)])]), .sl 92 (.st [.int .i64, .int .i64, .bool, .int .i64]), .sl 60 (.st [.sl 85 (.st [.int .i64, .int .i64]), .sl 25 (.sl 3 (.int .i64))]), .sl 3 (.int .i64)], .st [.int .i64, .int .i64, .int .i64, .int .i64]], [], none, .p, .tup [.st [.int .i64, .sl 52 (.st [.str, .int .i64, .sl 54 (.st [.int .i64, .sl 3 (.int .i64), .sl 3 (.int .i64)])]), .sl 92 (.st [.int .i64, .int .i64, .bool, .int .i64]), .sl 60 (.st [.sl 85 (.st [.int .i64, .int .i64]), .sl 25 (.sl 3 (.int .i64))]), .sl 3 (.int .i64)], .bool], (Ty.all (.tup [.st [.int .i64, .sl 52 (.st [.str, .int .i64, .sl 54 (.st [.int .i64, .sl 3 (.int .i64), .sl 3 (.int .i64)])]), .sl 92 (.st [.int .i64, .int .i64, .bool, .int .i64]), .sl 60 (.st [.sl 85 (.st [.int .i64, .int .i64]), .sl 25 (.sl 3 (.int .i64))]), .sl 3 (.int .i64)], .bool])), []⟩
def T_spec_ApplyDelay : FSig := ⟨H_spec_ApplyDelay.ps, H_spec_ApplyDelay.cs, H_spec_ApplyDelay.io, H_spec_ApplyDelay.im, H_spec_ApplyDelay.R, H_spec_ApplyDelay.m, spec_ApplyDelay⟩
theorem E_spec_ApplyDelay : fnOf tys [(16, T_spec_DelayOk), (17, T_spec_l05Copy), (18, T_spec_l02Min), (19, T_spec_l31Less), (20, T_spec_ProjectOk)] Try.f5 H_spec_ApplyDelay = T_spec_ApplyDelay := by kernel_rfl
theorem K_spec_ApplyDelay : SigOk Try.prog 5 T_spec_ApplyDelay := (congrArg (SigOk Try.prog 5) E_spec_ApplyDelay).mp (fnOf_ok rfl tysOk ⟨K_spec_DelayOk, K_spec_l05Copy, K_spec_l02Min, K_spec_l31Less, K_spec_ProjectOk, trivial⟩ Try.func5 (by decide) rfl (fun _ h => by cases h) (nilEq_of (by kernel_rfl)))
def laws_toIntS_L0 : D_Mode → Option (Out D_Mode ((Bool × D_Mode) ⊕ Empty) ((List Int) × Unit)) :=
  (fun v1 => (if (ltZ v1.1 (lenI v1.2.1)) = true then (Option.bind (getI v1.2.1 v1.1) fun v2 => (Option.bind ((Option.bind (getI v1.2.2.1 v1.1) fun v3 => (some ())) : (Option Unit)) fun v4 => (Option.bind ((Option.bind ((Option.bind (getI v1.2.2.1 v1.1) fun v5 => (some v5)) : (Option Int)) fun v6 => (some v2)) : (Option Int)) fun v7 => (some (Out.norm ((addZ .i64 v1.1 1), (v1.2.1, ((setI v1.2.2.1 v1.1 (fun v8 => v7)), ())))))))) else (some (Out.exit (Sum.inl ((ltZ v1.1 (lenI v1.2.1)), (v1.1, (v1.2.1, (v1.2.2.1, ())))))))))
def laws_toIntS (x : ((List Int) × Unit)) (c : Unit) : (Option ((List Int) × Unit)) :=
  (Option.bind ((if (eqZ (lenI x.1) (lenI x.1)) = true then (zerosI (lenI x.1) 0) else none) : (Option (List Int))) fun v0 => (Option.bind (loopN (A := D_Mode) big laws_toIntS_L0 (0, (x.1, (v0, ())))) fun v9 => (match v9 with | Out.norm v10 => none | Out.exit v11 => (match ((match v11 with | Sum.inl v14 => (Sum.inl (v14.2.2.2.1, ())) | Sum.inr v15 => (Empty.elim v15)) : (((List Int) × Unit) ⊕ Empty)) with | Sum.inl v12 => (some (v12.1, ())) | Sum.inr v13 => none) | Out.ret v16 => (some v16))))
def H_laws_toIntS : Hd := ⟨[.sl 3 (.int .i64)], [], none, .p, .sl 3 (.int .i64), (Ty.all (.sl 3 (.int .i64))), []⟩
def T_laws_toIntS : FSig := ⟨H_laws_toIntS.ps, H_laws_toIntS.cs, H_laws_toIntS.io, H_laws_toIntS.im, H_laws_toIntS.R, H_laws_toIntS.m, laws_toIntS⟩
theorem E_laws_toIntS : fnOf tys [] Try.f24 H_laws_toIntS = T_laws_toIntS := by kernel_rfl
theorem K_laws_toIntS : SigOk Try.prog 24 T_laws_toIntS := (congrArg (SigOk Try.prog 24) E_laws_toIntS).mp (fnOf_ok rfl tysOk trivial Try.func24 (by decide) rfl (fun _ h => by cases h) (nilEq_of (by kernel_rfl)))
def laws_toMode (x : (D_Mode × Unit)) (c : Unit) : (Option (D_Mode × Unit)) :=
  (Option.bind ((Option.bind (laws_toIntS (x.1.2.1, ()) ()) fun v0 => (some v0.1)) : (Option (List Int))) fun v1 => (Option.bind ((Option.bind (laws_toIntS (x.1.2.2.1, ()) ()) fun v2 => (some v2.1)) : (Option (List Int))) fun v3 => (some ((x.1.1, (v1, (v3, ()))), ()))))
def H_laws_toMode : Hd := ⟨[.st [.int .i64, .sl 3 (.int .i64), .sl 3 (.int .i64)]], [], none, .p, .st [.int .i64, .sl 3 (.int .i64), .sl 3 (.int .i64)], (Ty.all (.st [.int .i64, .sl 3 (.int .i64), .sl 3 (.int .i64)])), []⟩
def T_laws_toMode : FSig := ⟨H_laws_toMode.ps, H_laws_toMode.cs, H_laws_toMode.io, H_laws_toMode.im, H_laws_toMode.R, H_laws_toMode.m, laws_toMode⟩
theorem E_laws_toMode : fnOf tys [(24, T_laws_toIntS)] Try.f98 H_laws_toMode = T_laws_toMode := by kernel_rfl
theorem K_laws_toMode : SigOk Try.prog 98 T_laws_toMode := (congrArg (SigOk Try.prog 98) E_laws_toMode).mp (fnOf_ok rfl tysOk ⟨K_laws_toIntS, trivial⟩ Try.func98 (by decide) rfl (fun _ h => by cases h) (nilEq_of (by kernel_rfl)))
def laws_toModeS_L0 : (Int × ((List D_Mode) × ((List D_Mode) × Unit))) → Option (Out (Int × ((List D_Mode) × ((List D_Mode) × Unit))) ((Bool × (Int × ((List D_Mode) × ((List D_Mode) × Unit)))) ⊕ Empty) ((List D_Mode) × Unit)) :=
  (fun v1 => (if (ltZ v1.1 (lenI v1.2.1)) = true then (Option.bind (getI v1.2.1 v1.1) fun v2 => (Option.bind ((Option.bind (laws_toMode (v2, ()) ()) fun v3 => (some v3.1)) : (Option D_Mode)) fun v4 => (Option.bind ((Option.bind (getI v1.2.2.1 v1.1) fun v5 => (some ())) : (Option Unit)) fun v6 => (Option.bind ((Option.bind ((Option.bind (getI v1.2.2.1 v1.1) fun v7 => (some v7)) : (Option D_Mode)) fun v8 => (some v4)) : (Option D_Mode)) fun v9 => (some (Out.norm ((addZ .i64 v1.1 1), (v1.2.1, ((setI v1.2.2.1 v1.1 (fun v10 => v9)), ()))))))))) else (some (Out.exit (Sum.inl ((ltZ v1.1 (lenI v1.2.1)), (v1.1, (v1.2.1, (v1.2.2.1, ())))))))))
def laws_toModeS (x : ((List D_Mode) × Unit)) (c : Unit) : (Option ((List D_Mode) × Unit)) :=
  (Option.bind ((if (eqZ (lenI x.1) (lenI x.1)) = true then (zerosI (lenI x.1) (0, ([], ([], ())))) else none) : (Option (List D_Mode))) fun v0 => (Option.bind (loopN (A := (Int × ((List D_Mode) × ((List D_Mode) × Unit)))) big laws_toModeS_L0 (0, (x.1, (v0, ())))) fun v11 => (match v11 with | Out.norm v12 => none | Out.exit v13 => (match ((match v13 with | Sum.inl v16 => (Sum.inl (v16.2.2.2.1, ())) | Sum.inr v17 => (Empty.elim v17)) : (((List D_Mode) × Unit) ⊕ Empty)) with | Sum.inl v14 => (some (v14.1, ())) | Sum.inr v15 => none) | Out.ret v18 => (some v18))))
def H_laws_toModeS : Hd := ⟨[.sl 123 (.st [.int .i64, .sl 3 (.int .i64), .sl 3 (.int .i64)])], [], none, .p, .sl 54 (.st [.int .i64, .sl 3 (.int .i64), .sl 3 (.int .i64)]), (Ty.all (.sl 54 (.st [.int .i64, .sl 3 (.int .i64), .sl 3 (.int .i64)]))), []⟩
def T_laws_toModeS : FSig := ⟨H_laws_toModeS.ps, H_laws_toModeS.cs, H_laws_toModeS.io, H_laws_toModeS.im, H_laws_toModeS.R, H_laws_toModeS.m, laws_toModeS⟩
theorem E_laws_toModeS : fnOf tys [(98, T_laws_toMode)] Try.f84 H_laws_toModeS = T_laws_toModeS := by kernel_rfl
theorem K_laws_toModeS : SigOk Try.prog 84 T_laws_toModeS := (congrArg (SigOk Try.prog 84) E_laws_toModeS).mp (fnOf_ok rfl tysOk ⟨K_laws_toMode, trivial⟩ Try.func84 (by decide) rfl (fun _ h => by cases h) (nilEq_of (by kernel_rfl)))
end Go.Proofs.Ytjgmjljdhgfdhaa