/-
  The functions of this seat as plain Lean functions, and that the program computes them. No condition.
-/
import Derived.Test.YtmbknefcilojkaaN37
import Derived.Test.YtmbknefcilojkaaProg
import Derived.KernelRfl
namespace Go.Proofs.Ytmbknefcilojkaa
open Go.Abs
set_option linter.unusedVariables false
set_option maxRecDepth 100000
abbrev D_Mode : Type := (Int × ((List Int) × ((List Int) × Unit)))
abbrev D_Activity : Type := ((List UInt8) × (Int × ((List D_Mode) × Unit)))
abbrev D_Link : Type := (Int × (Int × (Bool × (Int × Unit))))
abbrev D_Step : Type := (Int × (Int × Unit))
abbrev D_Resource : Type := ((List D_Step) × ((List (List Int)) × Unit))
abbrev D_Project : Type := (Int × ((List D_Activity) × ((List D_Link) × ((List D_Resource) × ((List Int) × Unit)))))
abbrev D_Schedule : Type := ((List Int) × ((List Int) × Unit))
abbrev D_Domain : Type := ((List Int) × ((List Int) × ((List (List Int)) × Unit)))
abbrev D_Literal : Type := (Int × D_Step)
abbrev D_l01Cur : Type := ((List Int) × D_Step)
abbrev D_Rule : Type := (Int × D_Literal)
theorem tn3 : TnOk Try.prog 3 (.int .i64) := ⟨Try.underlying3, fun _ h => (by cases h), Try.t3, rfl, rfl, fun _ _ => rfl⟩
theorem tn4 : TnOk Try.prog 4 (.bool) := ⟨Try.underlying4, fun _ h => (by cases h), Try.t4, rfl, rfl, fun _ _ => rfl⟩
theorem tn5 : TnOk Try.prog 5 (.int .u8) := ⟨Try.underlying5, fun _ h => (by cases h), Try.t5, rfl, rfl, fun _ _ => rfl⟩
theorem tn9 : TnOk Try.prog 9 (.str) := ⟨Try.underlying9, fun _ h => (by cases h), Try.t9, rfl, rfl, fun _ _ => rfl⟩
theorem tn22 : TnOk Try.prog 22 (.sl 5 (.int .u8)) := ⟨⟨Try.underlying22, Try.t5, _, rfl, rfl, rfl, rfl, by decide, by decide, fun _ _ => rfl, fun k h => by cases h; exact Try.underlying5⟩, fun _ h => (by cases h), Try.t22, rfl, rfl, fun _ _ => rfl⟩
theorem tn23 : TnOk Try.prog 23 (.sl 35 (.st [.str, .int .i64, .sl 37 (.st [.int .i64, .sl 3 (.int .i64), .sl 3 (.int .i64)])])) := ⟨⟨Try.underlying23, Try.t35, _, rfl, rfl, rfl, rfl, by decide, by decide, fun _ _ => rfl, fun k h => by cases h⟩, fun _ h => (by cases h), Try.t23, rfl, rfl, fun _ _ => rfl⟩
theorem tn24 : TnOk Try.prog 24 (.sl 94 (.st [.int .i64, .int .i64, .bool, .int .i64])) := ⟨⟨Try.underlying24, Try.t94, _, rfl, rfl, rfl, rfl, by decide, by decide, fun _ _ => rfl, fun k h => by cases h⟩, fun _ h => (by cases h), Try.t24, rfl, rfl, fun _ _ => rfl⟩
theorem tn25 : TnOk Try.prog 25 (.sl 44 (.st [.sl 139 (.st [.int .i64, .int .i64]), .sl 26 (.sl 3 (.int .i64))])) := ⟨⟨Try.underlying25, Try.t44, _, rfl, rfl, rfl, rfl, by decide, by decide, fun _ _ => rfl, fun k h => by cases h⟩, fun _ h => (by cases h), Try.t25, rfl, rfl, fun _ _ => rfl⟩
theorem tn26 : TnOk Try.prog 26 (.sl 3 (.int .i64)) := ⟨⟨Try.underlying26, Try.t3, _, rfl, rfl, rfl, rfl, by decide, by decide, fun _ _ => rfl, fun k h => by cases h; exact Try.underlying3⟩, fun _ h => (by cases h), Try.t26, rfl, rfl, fun _ _ => rfl⟩
theorem tn27 : TnOk Try.prog 27 (.st [.int .i64, .sl 35 (.st [.str, .int .i64, .sl 37 (.st [.int .i64, .sl 3 (.int .i64), .sl 3 (.int .i64)])]), .sl 94 (.st [.int .i64, .int .i64, .bool, .int .i64]), .sl 44 (.st [.sl 139 (.st [.int .i64, .int .i64]), .sl 26 (.sl 3 (.int .i64))]), .sl 3 (.int .i64)]) := ⟨⟨_, Try.underlying27, Try.eqGuardType27, Try.stoodInHeld27, rfl, fun j τ h => by
    cases j with
    | zero => cases h; exact ⟨_, _, rfl, rfl, by decide, by decide, Try.underlying3, rfl, fun us h => by cases h⟩
    | succ j =>
     cases j with
     | zero => cases h; exact ⟨_, _, rfl, rfl, by decide, by decide, Try.underlying23, rfl, fun us h => by cases h⟩
     | succ j =>
      cases j with
      | zero => cases h; exact ⟨_, _, rfl, rfl, by decide, by decide, Try.underlying24, rfl, fun us h => by cases h⟩
      | succ j =>
       cases j with
       | zero => cases h; exact ⟨_, _, rfl, rfl, by decide, by decide, Try.underlying25, rfl, fun us h => by cases h⟩
       | succ j =>
        cases j with
        | zero => cases h; exact ⟨_, _, rfl, rfl, by decide, by decide, Try.underlying26, rfl, fun us h => by cases h⟩
        | succ j =>
         cases h⟩, (fun us hus fs hfs j τ h f hf => by
    cases hus
    rw [Try.underlying27] at hfs
    cases hfs
    cases j with
    | zero => cases h; cases hf; exact ⟨fun k e => by cases e; exact Try.underlying3, fun e => (by cases e), fun e => (by cases e)⟩
    | succ j =>
     cases j with
     | zero => cases h; cases hf; exact ⟨fun k e => (by cases e), fun e => (by cases e), fun e => (by cases e)⟩
     | succ j =>
      cases j with
      | zero => cases h; cases hf; exact ⟨fun k e => (by cases e), fun e => (by cases e), fun e => (by cases e)⟩
      | succ j =>
       cases j with
       | zero => cases h; cases hf; exact ⟨fun k e => (by cases e), fun e => (by cases e), fun e => (by cases e)⟩
       | succ j =>
        cases j with
        | zero => cases h; cases hf; exact ⟨fun k e => (by cases e), fun e => (by cases e), fun e => (by cases e)⟩
        | succ j =>
         cases h), Try.t27, rfl, rfl, fun _ _ => rfl⟩
theorem tn28 : TnOk Try.prog 28 (.st [.int .i64, .sl 35 (.st [.str, .int .i64, .sl 37 (.st [.int .i64, .sl 3 (.int .i64), .sl 3 (.int .i64)])]), .sl 94 (.st [.int .i64, .int .i64, .bool, .int .i64]), .sl 44 (.st [.sl 139 (.st [.int .i64, .int .i64]), .sl 26 (.sl 3 (.int .i64))]), .sl 3 (.int .i64)]) := ⟨⟨_, Try.underlying28, Try.eqGuardType28, Try.stoodInHeld28, rfl, fun j τ h => by
    cases j with
    | zero => cases h; exact ⟨_, _, rfl, rfl, by decide, by decide, Try.underlying3, rfl, fun us h => by cases h⟩
    | succ j =>
     cases j with
     | zero => cases h; exact ⟨_, _, rfl, rfl, by decide, by decide, Try.underlying23, rfl, fun us h => by cases h⟩
     | succ j =>
      cases j with
      | zero => cases h; exact ⟨_, _, rfl, rfl, by decide, by decide, Try.underlying24, rfl, fun us h => by cases h⟩
      | succ j =>
       cases j with
       | zero => cases h; exact ⟨_, _, rfl, rfl, by decide, by decide, Try.underlying25, rfl, fun us h => by cases h⟩
       | succ j =>
        cases j with
        | zero => cases h; exact ⟨_, _, rfl, rfl, by decide, by decide, Try.underlying26, rfl, fun us h => by cases h⟩
        | succ j =>
         cases h⟩, (fun us hus fs hfs j τ h f hf => by
    cases hus
    rw [Try.underlying28] at hfs
    cases hfs
    cases j with
    | zero => cases h; cases hf; exact ⟨fun k e => by cases e; exact Try.underlying3, fun e => (by cases e), fun e => (by cases e)⟩
    | succ j =>
     cases j with
     | zero => cases h; cases hf; exact ⟨fun k e => (by cases e), fun e => (by cases e), fun e => (by cases e)⟩
     | succ j =>
      cases j with
      | zero => cases h; cases hf; exact ⟨fun k e => (by cases e), fun e => (by cases e), fun e => (by cases e)⟩
      | succ j =>
       cases j with
       | zero => cases h; cases hf; exact ⟨fun k e => (by cases e), fun e => (by cases e), fun e => (by cases e)⟩
       | succ j =>
        cases j with
        | zero => cases h; cases hf; exact ⟨fun k e => (by cases e), fun e => (by cases e), fun e => (by cases e)⟩
        | succ j =>
         cases h), Try.t28, rfl, rfl, fun _ _ => rfl⟩
theorem tn29 : TnOk Try.prog 29 (.fn [.sl 5 (.int .u8)] (.st [.int .i64, .sl 35 (.st [.str, .int .i64, .sl 37 (.st [.int .i64, .sl 3 (.int .i64), .sl 3 (.int .i64)])]), .sl 94 (.st [.int .i64, .int .i64, .bool, .int .i64]), .sl 44 (.st [.sl 139 (.st [.int .i64, .int .i64]), .sl 26 (.sl 3 (.int .i64))]), .sl 3 (.int .i64)])) := ⟨⟨_, _, _, Try.underlying29⟩, fun _ h => (by cases h), Try.t29, rfl, rfl, fun _ h => by cases h⟩
theorem tn33 : TnOk Try.prog 33 (.sl 37 (.st [.int .i64, .sl 3 (.int .i64), .sl 3 (.int .i64)])) := ⟨⟨Try.underlying33, Try.t37, _, rfl, rfl, rfl, rfl, by decide, by decide, fun _ _ => rfl, fun k h => by cases h⟩, fun _ h => (by cases h), Try.t33, rfl, rfl, fun _ _ => rfl⟩
theorem tn34 : TnOk Try.prog 34 (.st [.str, .int .i64, .sl 37 (.st [.int .i64, .sl 3 (.int .i64), .sl 3 (.int .i64)])]) := ⟨⟨_, Try.underlying34, Try.eqGuardType34, Try.stoodInHeld34, rfl, fun j τ h => by
    cases j with
    | zero => cases h; exact ⟨_, _, rfl, rfl, by decide, by decide, Try.underlying9, rfl, fun us h => by cases h⟩
    | succ j =>
     cases j with
     | zero => cases h; exact ⟨_, _, rfl, rfl, by decide, by decide, Try.underlying3, rfl, fun us h => by cases h⟩
     | succ j =>
      cases j with
      | zero => cases h; exact ⟨_, _, rfl, rfl, by decide, by decide, Try.underlying33, rfl, fun us h => by cases h⟩
      | succ j =>
       cases h⟩, (fun us hus fs hfs j τ h f hf => by
    cases hus
    rw [Try.underlying34] at hfs
    cases hfs
    cases j with
    | zero => cases h; cases hf; exact ⟨fun k e => (by cases e), fun e => (by cases e), fun _ => Try.underlying9⟩
    | succ j =>
     cases j with
     | zero => cases h; cases hf; exact ⟨fun k e => by cases e; exact Try.underlying3, fun e => (by cases e), fun e => (by cases e)⟩
     | succ j =>
      cases j with
      | zero => cases h; cases hf; exact ⟨fun k e => (by cases e), fun e => (by cases e), fun e => (by cases e)⟩
      | succ j =>
       cases h), Try.t34, rfl, rfl, fun _ _ => rfl⟩
theorem tn35 : TnOk Try.prog 35 (.st [.str, .int .i64, .sl 37 (.st [.int .i64, .sl 3 (.int .i64), .sl 3 (.int .i64)])]) := ⟨⟨_, Try.underlying35, Try.eqGuardType35, Try.stoodInHeld35, rfl, fun j τ h => by
    cases j with
    | zero => cases h; exact ⟨_, _, rfl, rfl, by decide, by decide, Try.underlying9, rfl, fun us h => by cases h⟩
    | succ j =>
     cases j with
     | zero => cases h; exact ⟨_, _, rfl, rfl, by decide, by decide, Try.underlying3, rfl, fun us h => by cases h⟩
     | succ j =>
      cases j with
      | zero => cases h; exact ⟨_, _, rfl, rfl, by decide, by decide, Try.underlying33, rfl, fun us h => by cases h⟩
      | succ j =>
       cases h⟩, (fun us hus fs hfs j τ h f hf => by
    cases hus
    rw [Try.underlying35] at hfs
    cases hfs
    cases j with
    | zero => cases h; cases hf; exact ⟨fun k e => (by cases e), fun e => (by cases e), fun _ => Try.underlying9⟩
    | succ j =>
     cases j with
     | zero => cases h; cases hf; exact ⟨fun k e => by cases e; exact Try.underlying3, fun e => (by cases e), fun e => (by cases e)⟩
     | succ j =>
      cases j with
      | zero => cases h; cases hf; exact ⟨fun k e => (by cases e), fun e => (by cases e), fun e => (by cases e)⟩
      | succ j =>
       cases h), Try.t35, rfl, rfl, fun _ _ => rfl⟩
theorem tn36 : TnOk Try.prog 36 (.st [.int .i64, .sl 3 (.int .i64), .sl 3 (.int .i64)]) := ⟨⟨_, Try.underlying36, Try.eqGuardType36, Try.stoodInHeld36, rfl, fun j τ h => by
    cases j with
    | zero => cases h; exact ⟨_, _, rfl, rfl, by decide, by decide, Try.underlying3, rfl, fun us h => by cases h⟩
    | succ j =>
     cases j with
     | zero => cases h; exact ⟨_, _, rfl, rfl, by decide, by decide, Try.underlying26, rfl, fun us h => by cases h⟩
     | succ j =>
      cases j with
      | zero => cases h; exact ⟨_, _, rfl, rfl, by decide, by decide, Try.underlying26, rfl, fun us h => by cases h⟩
      | succ j =>
       cases h⟩, (fun us hus fs hfs j τ h f hf => by
    cases hus
    rw [Try.underlying36] at hfs
    cases hfs
    cases j with
    | zero => cases h; cases hf; exact ⟨fun k e => by cases e; exact Try.underlying3, fun e => (by cases e), fun e => (by cases e)⟩
    | succ j =>
     cases j with
     | zero => cases h; cases hf; exact ⟨fun k e => (by cases e), fun e => (by cases e), fun e => (by cases e)⟩
     | succ j =>
      cases j with
      | zero => cases h; cases hf; exact ⟨fun k e => (by cases e), fun e => (by cases e), fun e => (by cases e)⟩
      | succ j =>
       cases h), Try.t36, rfl, rfl, fun _ _ => rfl⟩
theorem tn37 : TnOk Try.prog 37 (.st [.int .i64, .sl 3 (.int .i64), .sl 3 (.int .i64)]) := ⟨⟨_, Try.underlying37, Try.eqGuardType37, Try.stoodInHeld37, rfl, fun j τ h => by
    cases j with
    | zero => cases h; exact ⟨_, _, rfl, rfl, by decide, by decide, Try.underlying3, rfl, fun us h => by cases h⟩
    | succ j =>
     cases j with
     | zero => cases h; exact ⟨_, _, rfl, rfl, by decide, by decide, Try.underlying26, rfl, fun us h => by cases h⟩
     | succ j =>
      cases j with
      | zero => cases h; exact ⟨_, _, rfl, rfl, by decide, by decide, Try.underlying26, rfl, fun us h => by cases h⟩
      | succ j =>
       cases h⟩, (fun us hus fs hfs j τ h f hf => by
    cases hus
    rw [Try.underlying37] at hfs
    cases hfs
    cases j with
    | zero => cases h; cases hf; exact ⟨fun k e => by cases e; exact Try.underlying3, fun e => (by cases e), fun e => (by cases e)⟩
    | succ j =>
     cases j with
     | zero => cases h; cases hf; exact ⟨fun k e => (by cases e), fun e => (by cases e), fun e => (by cases e)⟩
     | succ j =>
      cases j with
      | zero => cases h; cases hf; exact ⟨fun k e => (by cases e), fun e => (by cases e), fun e => (by cases e)⟩
      | succ j =>
       cases h), Try.t37, rfl, rfl, fun _ _ => rfl⟩
theorem tn38 : TnOk Try.prog 38 (.fn [.sl 3 (.int .i64), .int .i64] (.bool)) := ⟨⟨_, _, _, Try.underlying38⟩, fun _ h => (by cases h), Try.t38, rfl, rfl, fun _ h => by cases h⟩
theorem tn40 : TnOk Try.prog 40 (.fn [.st [.sl 139 (.st [.int .i64, .int .i64]), .sl 26 (.sl 3 (.int .i64))]] (.bool)) := ⟨⟨_, _, _, Try.underlying40⟩, fun _ h => (by cases h), Try.t40, rfl, rfl, fun _ h => by cases h⟩
theorem tn41 : TnOk Try.prog 41 (.sl 139 (.st [.int .i64, .int .i64])) := ⟨⟨Try.underlying41, Try.t139, _, rfl, rfl, rfl, rfl, by decide, by decide, fun _ _ => rfl, fun k h => by cases h⟩, fun _ h => (by cases h), Try.t41, rfl, rfl, fun _ _ => rfl⟩
theorem tn42 : TnOk Try.prog 42 (.sl 26 (.sl 3 (.int .i64))) := ⟨⟨Try.underlying42, Try.t26, _, rfl, rfl, rfl, rfl, by decide, by decide, fun _ _ => rfl, fun k h => by cases h⟩, fun _ h => (by cases h), Try.t42, rfl, rfl, fun _ _ => rfl⟩
theorem tn43 : TnOk Try.prog 43 (.st [.sl 139 (.st [.int .i64, .int .i64]), .sl 26 (.sl 3 (.int .i64))]) := ⟨⟨_, Try.underlying43, Try.eqGuardType43, Try.stoodInHeld43, rfl, fun j τ h => by
    cases j with
    | zero => cases h; exact ⟨_, _, rfl, rfl, by decide, by decide, Try.underlying41, rfl, fun us h => by cases h⟩
    | succ j =>
     cases j with
     | zero => cases h; exact ⟨_, _, rfl, rfl, by decide, by decide, Try.underlying42, rfl, fun us h => by cases h⟩
     | succ j =>
      cases h⟩, (fun us hus fs hfs j τ h f hf => by
    cases hus
    rw [Try.underlying43] at hfs
    cases hfs
    cases j with
    | zero => cases h; cases hf; exact ⟨fun k e => (by cases e), fun e => (by cases e), fun e => (by cases e)⟩
    | succ j =>
     cases j with
     | zero => cases h; cases hf; exact ⟨fun k e => (by cases e), fun e => (by cases e), fun e => (by cases e)⟩
     | succ j =>
      cases h), Try.t43, rfl, rfl, fun _ _ => rfl⟩
theorem tn44 : TnOk Try.prog 44 (.st [.sl 139 (.st [.int .i64, .int .i64]), .sl 26 (.sl 3 (.int .i64))]) := ⟨⟨_, Try.underlying44, Try.eqGuardType44, Try.stoodInHeld44, rfl, fun j τ h => by
    cases j with
    | zero => cases h; exact ⟨_, _, rfl, rfl, by decide, by decide, Try.underlying41, rfl, fun us h => by cases h⟩
    | succ j =>
     cases j with
     | zero => cases h; exact ⟨_, _, rfl, rfl, by decide, by decide, Try.underlying42, rfl, fun us h => by cases h⟩
     | succ j =>
      cases h⟩, (fun us hus fs hfs j τ h f hf => by
    cases hus
    rw [Try.underlying44] at hfs
    cases hfs
    cases j with
    | zero => cases h; cases hf; exact ⟨fun k e => (by cases e), fun e => (by cases e), fun e => (by cases e)⟩
    | succ j =>
     cases j with
     | zero => cases h; cases hf; exact ⟨fun k e => (by cases e), fun e => (by cases e), fun e => (by cases e)⟩
     | succ j =>
      cases h), Try.t44, rfl, rfl, fun _ _ => rfl⟩
theorem tn45 : TnOk Try.prog 45 (.fn [.st [.int .i64, .sl 35 (.st [.str, .int .i64, .sl 37 (.st [.int .i64, .sl 3 (.int .i64), .sl 3 (.int .i64)])]), .sl 94 (.st [.int .i64, .int .i64, .bool, .int .i64]), .sl 44 (.st [.sl 139 (.st [.int .i64, .int .i64]), .sl 26 (.sl 3 (.int .i64))]), .sl 3 (.int .i64)], .int .i64] (.bool)) := ⟨⟨_, _, _, Try.underlying45⟩, fun _ h => (by cases h), Try.t45, rfl, rfl, fun _ h => by cases h⟩
theorem tn47 : TnOk Try.prog 47 (.fn [.sl 5 (.int .u8)] (.bool)) := ⟨⟨_, _, _, Try.underlying47⟩, fun _ h => (by cases h), Try.t47, rfl, rfl, fun _ h => by cases h⟩
theorem tn48 : TnOk Try.prog 48 (.st [.sl 3 (.int .i64), .sl 3 (.int .i64)]) := ⟨⟨_, Try.underlying48, Try.eqGuardType48, Try.stoodInHeld48, rfl, fun j τ h => by
    cases j with
    | zero => cases h; exact ⟨_, _, rfl, rfl, by decide, by decide, Try.underlying26, rfl, fun us h => by cases h⟩
    | succ j =>
     cases j with
     | zero => cases h; exact ⟨_, _, rfl, rfl, by decide, by decide, Try.underlying26, rfl, fun us h => by cases h⟩
     | succ j =>
      cases h⟩, (fun us hus fs hfs j τ h f hf => by
    cases hus
    rw [Try.underlying48] at hfs
    cases hfs
    cases j with
    | zero => cases h; cases hf; exact ⟨fun k e => (by cases e), fun e => (by cases e), fun e => (by cases e)⟩
    | succ j =>
     cases j with
     | zero => cases h; cases hf; exact ⟨fun k e => (by cases e), fun e => (by cases e), fun e => (by cases e)⟩
     | succ j =>
      cases h), Try.t48, rfl, rfl, fun _ _ => rfl⟩
theorem tn49 : TnOk Try.prog 49 (.st [.sl 3 (.int .i64), .sl 3 (.int .i64)]) := ⟨⟨_, Try.underlying49, Try.eqGuardType49, Try.stoodInHeld49, rfl, fun j τ h => by
    cases j with
    | zero => cases h; exact ⟨_, _, rfl, rfl, by decide, by decide, Try.underlying26, rfl, fun us h => by cases h⟩
    | succ j =>
     cases j with
     | zero => cases h; exact ⟨_, _, rfl, rfl, by decide, by decide, Try.underlying26, rfl, fun us h => by cases h⟩
     | succ j =>
      cases h⟩, (fun us hus fs hfs j τ h f hf => by
    cases hus
    rw [Try.underlying49] at hfs
    cases hfs
    cases j with
    | zero => cases h; cases hf; exact ⟨fun k e => (by cases e), fun e => (by cases e), fun e => (by cases e)⟩
    | succ j =>
     cases j with
     | zero => cases h; cases hf; exact ⟨fun k e => (by cases e), fun e => (by cases e), fun e => (by cases e)⟩
     | succ j =>
      cases h), Try.t49, rfl, rfl, fun _ _ => rfl⟩
theorem tn51 : TnOk Try.prog 51 (.fn [.st [.int .i64, .sl 35 (.st [.str, .int .i64, .sl 37 (.st [.int .i64, .sl 3 (.int .i64), .sl 3 (.int .i64)])]), .sl 94 (.st [.int .i64, .int .i64, .bool, .int .i64]), .sl 44 (.st [.sl 139 (.st [.int .i64, .int .i64]), .sl 26 (.sl 3 (.int .i64))]), .sl 3 (.int .i64)], .st [.sl 3 (.int .i64), .sl 3 (.int .i64)], .int .i64] (.int .i64)) := ⟨⟨_, _, _, Try.underlying51⟩, fun _ h => (by cases h), Try.t51, rfl, rfl, fun _ h => by cases h⟩
theorem tn52 : TnOk Try.prog 52 (.fn [.st [.int .i64, .sl 35 (.st [.str, .int .i64, .sl 37 (.st [.int .i64, .sl 3 (.int .i64), .sl 3 (.int .i64)])]), .sl 94 (.st [.int .i64, .int .i64, .bool, .int .i64]), .sl 44 (.st [.sl 139 (.st [.int .i64, .int .i64]), .sl 26 (.sl 3 (.int .i64))]), .sl 3 (.int .i64)], .st [.sl 3 (.int .i64), .sl 3 (.int .i64)]] (.int .i64)) := ⟨⟨_, _, _, Try.underlying52⟩, fun _ h => (by cases h), Try.t52, rfl, rfl, fun _ h => by cases h⟩
theorem tn55 : TnOk Try.prog 55 (.fn [.st [.int .i64, .sl 35 (.st [.str, .int .i64, .sl 37 (.st [.int .i64, .sl 3 (.int .i64), .sl 3 (.int .i64)])]), .sl 94 (.st [.int .i64, .int .i64, .bool, .int .i64]), .sl 44 (.st [.sl 139 (.st [.int .i64, .int .i64]), .sl 26 (.sl 3 (.int .i64))]), .sl 3 (.int .i64)], .st [.sl 3 (.int .i64), .sl 3 (.int .i64)]] (.bool)) := ⟨⟨_, _, _, Try.underlying55⟩, fun _ h => (by cases h), Try.t55, rfl, rfl, fun _ h => by cases h⟩
theorem tn56 : TnOk Try.prog 56 (.st [.sl 3 (.int .i64), .sl 3 (.int .i64), .sl 26 (.sl 3 (.int .i64))]) := ⟨⟨_, Try.underlying56, Try.eqGuardType56, Try.stoodInHeld56, rfl, fun j τ h => by
    cases j with
    | zero => cases h; exact ⟨_, _, rfl, rfl, by decide, by decide, Try.underlying26, rfl, fun us h => by cases h⟩
    | succ j =>
     cases j with
     | zero => cases h; exact ⟨_, _, rfl, rfl, by decide, by decide, Try.underlying26, rfl, fun us h => by cases h⟩
     | succ j =>
      cases j with
      | zero => cases h; exact ⟨_, _, rfl, rfl, by decide, by decide, Try.underlying42, rfl, fun us h => by cases h⟩
      | succ j =>
       cases h⟩, (fun us hus fs hfs j τ h f hf => by
    cases hus
    rw [Try.underlying56] at hfs
    cases hfs
    cases j with
    | zero => cases h; cases hf; exact ⟨fun k e => (by cases e), fun e => (by cases e), fun e => (by cases e)⟩
    | succ j =>
     cases j with
     | zero => cases h; cases hf; exact ⟨fun k e => (by cases e), fun e => (by cases e), fun e => (by cases e)⟩
     | succ j =>
      cases j with
      | zero => cases h; cases hf; exact ⟨fun k e => (by cases e), fun e => (by cases e), fun e => (by cases e)⟩
      | succ j =>
       cases h), Try.t56, rfl, rfl, fun _ _ => rfl⟩
theorem tn57 : TnOk Try.prog 57 (.st [.sl 3 (.int .i64), .sl 3 (.int .i64), .sl 26 (.sl 3 (.int .i64))]) := ⟨⟨_, Try.underlying57, Try.eqGuardType57, Try.stoodInHeld57, rfl, fun j τ h => by
    cases j with
    | zero => cases h; exact ⟨_, _, rfl, rfl, by decide, by decide, Try.underlying26, rfl, fun us h => by cases h⟩
    | succ j =>
     cases j with
     | zero => cases h; exact ⟨_, _, rfl, rfl, by decide, by decide, Try.underlying26, rfl, fun us h => by cases h⟩
     | succ j =>
      cases j with
      | zero => cases h; exact ⟨_, _, rfl, rfl, by decide, by decide, Try.underlying42, rfl, fun us h => by cases h⟩
      | succ j =>
       cases h⟩, (fun us hus fs hfs j τ h f hf => by
    cases hus
    rw [Try.underlying57] at hfs
    cases hfs
    cases j with
    | zero => cases h; cases hf; exact ⟨fun k e => (by cases e), fun e => (by cases e), fun e => (by cases e)⟩
    | succ j =>
     cases j with
     | zero => cases h; cases hf; exact ⟨fun k e => (by cases e), fun e => (by cases e), fun e => (by cases e)⟩
     | succ j =>
      cases j with
      | zero => cases h; cases hf; exact ⟨fun k e => (by cases e), fun e => (by cases e), fun e => (by cases e)⟩
      | succ j =>
       cases h), Try.t57, rfl, rfl, fun _ _ => rfl⟩
theorem tn58 : TnOk Try.prog 58 (.fn [.sl 5 (.int .u8), .st [.int .i64, .sl 35 (.st [.str, .int .i64, .sl 37 (.st [.int .i64, .sl 3 (.int .i64), .sl 3 (.int .i64)])]), .sl 94 (.st [.int .i64, .int .i64, .bool, .int .i64]), .sl 44 (.st [.sl 139 (.st [.int .i64, .int .i64]), .sl 26 (.sl 3 (.int .i64))]), .sl 3 (.int .i64)]] (.st [.sl 3 (.int .i64), .sl 3 (.int .i64), .sl 26 (.sl 3 (.int .i64))])) := ⟨⟨_, _, _, Try.underlying58⟩, fun _ h => (by cases h), Try.t58, rfl, rfl, fun _ h => by cases h⟩
theorem tn59 : TnOk Try.prog 59 (.st [.int .i64, .int .i64, .int .i64]) := ⟨⟨_, Try.underlying59, Try.eqGuardType59, Try.stoodInHeld59, rfl, fun j τ h => by
    cases j with
    | zero => cases h; exact ⟨_, _, rfl, rfl, by decide, by decide, Try.underlying3, rfl, fun us h => by cases h⟩
    | succ j =>
     cases j with
     | zero => cases h; exact ⟨_, _, rfl, rfl, by decide, by decide, Try.underlying3, rfl, fun us h => by cases h⟩
     | succ j =>
      cases j with
      | zero => cases h; exact ⟨_, _, rfl, rfl, by decide, by decide, Try.underlying3, rfl, fun us h => by cases h⟩
      | succ j =>
       cases h⟩, (fun us hus fs hfs j τ h f hf => by
    cases hus
    rw [Try.underlying59] at hfs
    cases hfs
    cases j with
    | zero => cases h; cases hf; exact ⟨fun k e => by cases e; exact Try.underlying3, fun e => (by cases e), fun e => (by cases e)⟩
    | succ j =>
     cases j with
     | zero => cases h; cases hf; exact ⟨fun k e => by cases e; exact Try.underlying3, fun e => (by cases e), fun e => (by cases e)⟩
     | succ j =>
      cases j with
      | zero => cases h; cases hf; exact ⟨fun k e => by cases e; exact Try.underlying3, fun e => (by cases e), fun e => (by cases e)⟩
      | succ j =>
       cases h), Try.t59, rfl, rfl, fun _ _ => rfl⟩
theorem tn60 : TnOk Try.prog 60 (.st [.int .i64, .int .i64, .int .i64]) := ⟨⟨_, Try.underlying60, Try.eqGuardType60, Try.stoodInHeld60, rfl, fun j τ h => by
    cases j with
    | zero => cases h; exact ⟨_, _, rfl, rfl, by decide, by decide, Try.underlying3, rfl, fun us h => by cases h⟩
    | succ j =>
     cases j with
     | zero => cases h; exact ⟨_, _, rfl, rfl, by decide, by decide, Try.underlying3, rfl, fun us h => by cases h⟩
     | succ j =>
      cases j with
      | zero => cases h; exact ⟨_, _, rfl, rfl, by decide, by decide, Try.underlying3, rfl, fun us h => by cases h⟩
      | succ j =>
       cases h⟩, (fun us hus fs hfs j τ h f hf => by
    cases hus
    rw [Try.underlying60] at hfs
    cases hfs
    cases j with
    | zero => cases h; cases hf; exact ⟨fun k e => by cases e; exact Try.underlying3, fun e => (by cases e), fun e => (by cases e)⟩
    | succ j =>
     cases j with
     | zero => cases h; cases hf; exact ⟨fun k e => by cases e; exact Try.underlying3, fun e => (by cases e), fun e => (by cases e)⟩
     | succ j =>
      cases j with
      | zero => cases h; cases hf; exact ⟨fun k e => by cases e; exact Try.underlying3, fun e => (by cases e), fun e => (by cases e)⟩
      | succ j =>
       cases h), Try.t60, rfl, rfl, fun _ _ => rfl⟩
theorem tn62 : TnOk Try.prog 62 (.fn [.st [.sl 3 (.int .i64), .sl 3 (.int .i64), .sl 26 (.sl 3 (.int .i64))], .st [.int .i64, .int .i64, .int .i64]] (.st [.sl 3 (.int .i64), .sl 3 (.int .i64), .sl 26 (.sl 3 (.int .i64))])) := ⟨⟨_, _, _, Try.underlying62⟩, fun _ h => (by cases h), Try.t62, rfl, rfl, fun _ h => by cases h⟩
theorem tn64 : TnOk Try.prog 64 (.fn [.st [.sl 3 (.int .i64), .sl 3 (.int .i64), .sl 26 (.sl 3 (.int .i64))], .st [.sl 3 (.int .i64), .sl 3 (.int .i64)]] (.bool)) := ⟨⟨_, _, _, Try.underlying64⟩, fun _ h => (by cases h), Try.t64, rfl, rfl, fun _ h => by cases h⟩
theorem tn71 : TnOk Try.prog 71 (.fn [.st [.sl 3 (.int .i64), .sl 3 (.int .i64)], .st [.sl 3 (.int .i64), .sl 3 (.int .i64)]] (.bool)) := ⟨⟨_, _, _, Try.underlying71⟩, fun _ h => (by cases h), Try.t71, rfl, rfl, fun _ h => by cases h⟩
theorem tn72 : TnOk Try.prog 72 (.fn [.st [.sl 3 (.int .i64), .sl 3 (.int .i64), .sl 26 (.sl 3 (.int .i64))]] (.bool)) := ⟨⟨_, _, _, Try.underlying72⟩, fun _ h => (by cases h), Try.t72, rfl, rfl, fun _ h => by cases h⟩
theorem tn78 : TnOk Try.prog 78 (.sl 49 (.st [.sl 3 (.int .i64), .sl 3 (.int .i64)])) := ⟨⟨Try.underlying78, Try.t49, _, rfl, rfl, rfl, rfl, by decide, by decide, fun _ _ => rfl, fun k h => by cases h⟩, fun _ h => (by cases h), Try.t78, rfl, rfl, fun _ _ => rfl⟩
theorem tn79 : TnOk Try.prog 79 (.fn [.st [.int .i64, .sl 35 (.st [.str, .int .i64, .sl 37 (.st [.int .i64, .sl 3 (.int .i64), .sl 3 (.int .i64)])]), .sl 94 (.st [.int .i64, .int .i64, .bool, .int .i64]), .sl 44 (.st [.sl 139 (.st [.int .i64, .int .i64]), .sl 26 (.sl 3 (.int .i64))]), .sl 3 (.int .i64)], .int .i64] (.sl 49 (.st [.sl 3 (.int .i64), .sl 3 (.int .i64)]))) := ⟨⟨_, _, _, Try.underlying79⟩, fun _ h => (by cases h), Try.t79, rfl, rfl, fun _ h => by cases h⟩
theorem tn80 : TnOk Try.prog 80 (.fn [.st [.int .i64, .sl 35 (.st [.str, .int .i64, .sl 37 (.st [.int .i64, .sl 3 (.int .i64), .sl 3 (.int .i64)])]), .sl 94 (.st [.int .i64, .int .i64, .bool, .int .i64]), .sl 44 (.st [.sl 139 (.st [.int .i64, .int .i64]), .sl 26 (.sl 3 (.int .i64))]), .sl 3 (.int .i64)], .int .i64] (.tup [.st [.sl 3 (.int .i64), .sl 3 (.int .i64)], .bool])) := ⟨⟨_, _, _, Try.underlying80⟩, fun _ h => (by cases h), Try.t80, rfl, rfl, fun _ h => by cases h⟩
theorem tn81 : TnOk Try.prog 81 (.fn [.st [.int .i64, .sl 35 (.st [.str, .int .i64, .sl 37 (.st [.int .i64, .sl 3 (.int .i64), .sl 3 (.int .i64)])]), .sl 94 (.st [.int .i64, .int .i64, .bool, .int .i64]), .sl 44 (.st [.sl 139 (.st [.int .i64, .int .i64]), .sl 26 (.sl 3 (.int .i64))]), .sl 3 (.int .i64)], .st [.sl 3 (.int .i64), .sl 3 (.int .i64), .sl 26 (.sl 3 (.int .i64))], .int .i64] (.int .i64)) := ⟨⟨_, _, _, Try.underlying81⟩, fun _ h => (by cases h), Try.t81, rfl, rfl, fun _ h => by cases h⟩
theorem tn82 : TnOk Try.prog 82 (.fn [.st [.int .i64, .sl 35 (.st [.str, .int .i64, .sl 37 (.st [.int .i64, .sl 3 (.int .i64), .sl 3 (.int .i64)])]), .sl 94 (.st [.int .i64, .int .i64, .bool, .int .i64]), .sl 44 (.st [.sl 139 (.st [.int .i64, .int .i64]), .sl 26 (.sl 3 (.int .i64))]), .sl 3 (.int .i64)]] (.sl 26 (.sl 3 (.int .i64)))) := ⟨⟨_, _, _, Try.underlying82⟩, fun _ h => (by cases h), Try.t82, rfl, rfl, fun _ h => by cases h⟩
theorem tn83 : TnOk Try.prog 83 (.ptr (.st [.sl 5 (.int .u8), .int .i64, .int .i64])) := ⟨⟨_, Try.underlying83⟩, fun _ h => (by cases h), Try.t83, rfl, rfl, fun _ h => by cases h⟩
theorem tn84 : TnOk Try.prog 84 (.fn [.sl 5 (.int .u8)] (.ptr (.st [.sl 5 (.int .u8), .int .i64, .int .i64]))) := ⟨⟨_, _, _, Try.underlying84⟩, fun _ h => (by cases h), Try.t84, rfl, rfl, fun _ h => by cases h⟩
theorem tn85 : TnOk Try.prog 85 (.fn [.ptr (.st [.sl 5 (.int .u8), .int .i64, .int .i64]), .int .i64] (.st [.int .i64, .sl 35 (.st [.str, .int .i64, .sl 37 (.st [.int .i64, .sl 3 (.int .i64), .sl 3 (.int .i64)])]), .sl 94 (.st [.int .i64, .int .i64, .bool, .int .i64]), .sl 44 (.st [.sl 139 (.st [.int .i64, .int .i64]), .sl 26 (.sl 3 (.int .i64))]), .sl 3 (.int .i64)])) := ⟨⟨_, _, _, Try.underlying85⟩, fun _ h => (by cases h), Try.t85, rfl, rfl, fun _ h => by cases h⟩
theorem tn86 : TnOk Try.prog 86 (.fn [.st [.int .i64, .sl 35 (.st [.str, .int .i64, .sl 37 (.st [.int .i64, .sl 3 (.int .i64), .sl 3 (.int .i64)])]), .sl 94 (.st [.int .i64, .int .i64, .bool, .int .i64]), .sl 44 (.st [.sl 139 (.st [.int .i64, .int .i64]), .sl 26 (.sl 3 (.int .i64))]), .sl 3 (.int .i64)]] (.bool)) := ⟨⟨_, _, _, Try.underlying86⟩, fun _ h => (by cases h), Try.t86, rfl, rfl, fun _ h => by cases h⟩
theorem tn87 : TnOk Try.prog 87 (.fn [.int .i64] (.bool)) := ⟨⟨_, _, _, Try.underlying87⟩, fun _ h => (by cases h), Try.t87, rfl, rfl, fun _ h => by cases h⟩
theorem tn93 : TnOk Try.prog 93 (.st [.int .i64, .int .i64, .bool, .int .i64]) := ⟨⟨_, Try.underlying93, Try.eqGuardType93, Try.stoodInHeld93, rfl, fun j τ h => by
    cases j with
    | zero => cases h; exact ⟨_, _, rfl, rfl, by decide, by decide, Try.underlying3, rfl, fun us h => by cases h⟩
    | succ j =>
     cases j with
     | zero => cases h; exact ⟨_, _, rfl, rfl, by decide, by decide, Try.underlying3, rfl, fun us h => by cases h⟩
     | succ j =>
      cases j with
      | zero => cases h; exact ⟨_, _, rfl, rfl, by decide, by decide, Try.underlying4, rfl, fun us h => by cases h⟩
      | succ j =>
       cases j with
       | zero => cases h; exact ⟨_, _, rfl, rfl, by decide, by decide, Try.underlying3, rfl, fun us h => by cases h⟩
       | succ j =>
        cases h⟩, (fun us hus fs hfs j τ h f hf => by
    cases hus
    rw [Try.underlying93] at hfs
    cases hfs
    cases j with
    | zero => cases h; cases hf; exact ⟨fun k e => by cases e; exact Try.underlying3, fun e => (by cases e), fun e => (by cases e)⟩
    | succ j =>
     cases j with
     | zero => cases h; cases hf; exact ⟨fun k e => by cases e; exact Try.underlying3, fun e => (by cases e), fun e => (by cases e)⟩
     | succ j =>
      cases j with
      | zero => cases h; cases hf; exact ⟨fun k e => (by cases e), fun _ => Try.underlying4, fun e => (by cases e)⟩
      | succ j =>
       cases j with
       | zero => cases h; cases hf; exact ⟨fun k e => by cases e; exact Try.underlying3, fun e => (by cases e), fun e => (by cases e)⟩
       | succ j =>
        cases h), Try.t93, rfl, rfl, fun _ _ => rfl⟩
theorem tn94 : TnOk Try.prog 94 (.st [.int .i64, .int .i64, .bool, .int .i64]) := ⟨⟨_, Try.underlying94, Try.eqGuardType94, Try.stoodInHeld94, rfl, fun j τ h => by
    cases j with
    | zero => cases h; exact ⟨_, _, rfl, rfl, by decide, by decide, Try.underlying3, rfl, fun us h => by cases h⟩
    | succ j =>
     cases j with
     | zero => cases h; exact ⟨_, _, rfl, rfl, by decide, by decide, Try.underlying3, rfl, fun us h => by cases h⟩
     | succ j =>
      cases j with
      | zero => cases h; exact ⟨_, _, rfl, rfl, by decide, by decide, Try.underlying4, rfl, fun us h => by cases h⟩
      | succ j =>
       cases j with
       | zero => cases h; exact ⟨_, _, rfl, rfl, by decide, by decide, Try.underlying3, rfl, fun us h => by cases h⟩
       | succ j =>
        cases h⟩, (fun us hus fs hfs j τ h f hf => by
    cases hus
    rw [Try.underlying94] at hfs
    cases hfs
    cases j with
    | zero => cases h; cases hf; exact ⟨fun k e => by cases e; exact Try.underlying3, fun e => (by cases e), fun e => (by cases e)⟩
    | succ j =>
     cases j with
     | zero => cases h; cases hf; exact ⟨fun k e => by cases e; exact Try.underlying3, fun e => (by cases e), fun e => (by cases e)⟩
     | succ j =>
      cases j with
      | zero => cases h; cases hf; exact ⟨fun k e => (by cases e), fun _ => Try.underlying4, fun e => (by cases e)⟩
      | succ j =>
       cases j with
       | zero => cases h; cases hf; exact ⟨fun k e => by cases e; exact Try.underlying3, fun e => (by cases e), fun e => (by cases e)⟩
       | succ j =>
        cases h), Try.t94, rfl, rfl, fun _ _ => rfl⟩
theorem tn97 : TnOk Try.prog 97 (.fn [.sl 3 (.int .i64), .sl 3 (.int .i64)] (.bool)) := ⟨⟨_, _, _, Try.underlying97⟩, fun _ h => (by cases h), Try.t97, rfl, rfl, fun _ h => by cases h⟩
theorem tn98 : TnOk Try.prog 98 (.fn [.int .i64, .int .i64, .int .i64] (.bool)) := ⟨⟨_, _, _, Try.underlying98⟩, fun _ h => (by cases h), Try.t98, rfl, rfl, fun _ h => by cases h⟩
theorem tn99 : TnOk Try.prog 99 (.fn [.sl 139 (.st [.int .i64, .int .i64])] (.bool)) := ⟨⟨_, _, _, Try.underlying99⟩, fun _ h => (by cases h), Try.t99, rfl, rfl, fun _ h => by cases h⟩
theorem tn102 : TnOk Try.prog 102 (.st [.sl 5 (.int .u8), .int .i64, .int .i64]) := ⟨⟨_, Try.underlying102, Try.eqGuardType102, Try.stoodInHeld102, rfl, fun j τ h => by
    cases j with
    | zero => cases h; exact ⟨_, _, rfl, rfl, by decide, by decide, Try.underlying22, rfl, fun us h => by cases h⟩
    | succ j =>
     cases j with
     | zero => cases h; exact ⟨_, _, rfl, rfl, by decide, by decide, Try.underlying3, rfl, fun us h => by cases h⟩
     | succ j =>
      cases j with
      | zero => cases h; exact ⟨_, _, rfl, rfl, by decide, by decide, Try.underlying3, rfl, fun us h => by cases h⟩
      | succ j =>
       cases h⟩, (fun us hus fs hfs j τ h f hf => by
    cases hus
    rw [Try.underlying102] at hfs
    cases hfs
    cases j with
    | zero => cases h; cases hf; exact ⟨fun k e => (by cases e), fun e => (by cases e), fun e => (by cases e)⟩
    | succ j =>
     cases j with
     | zero => cases h; cases hf; exact ⟨fun k e => by cases e; exact Try.underlying3, fun e => (by cases e), fun e => (by cases e)⟩
     | succ j =>
      cases j with
      | zero => cases h; cases hf; exact ⟨fun k e => by cases e; exact Try.underlying3, fun e => (by cases e), fun e => (by cases e)⟩
      | succ j =>
       cases h), Try.t102, rfl, rfl, fun _ _ => rfl⟩
theorem tn103 : TnOk Try.prog 103 (.st [.sl 5 (.int .u8), .int .i64, .int .i64]) := ⟨⟨_, Try.underlying103, Try.eqGuardType103, Try.stoodInHeld103, rfl, fun j τ h => by
    cases j with
    | zero => cases h; exact ⟨_, _, rfl, rfl, by decide, by decide, Try.underlying22, rfl, fun us h => by cases h⟩
    | succ j =>
     cases j with
     | zero => cases h; exact ⟨_, _, rfl, rfl, by decide, by decide, Try.underlying3, rfl, fun us h => by cases h⟩
     | succ j =>
      cases j with
      | zero => cases h; exact ⟨_, _, rfl, rfl, by decide, by decide, Try.underlying3, rfl, fun us h => by cases h⟩
      | succ j =>
       cases h⟩, (fun us hus fs hfs j τ h f hf => by
    cases hus
    rw [Try.underlying103] at hfs
    cases hfs
    cases j with
    | zero => cases h; cases hf; exact ⟨fun k e => (by cases e), fun e => (by cases e), fun e => (by cases e)⟩
    | succ j =>
     cases j with
     | zero => cases h; cases hf; exact ⟨fun k e => by cases e; exact Try.underlying3, fun e => (by cases e), fun e => (by cases e)⟩
     | succ j =>
      cases j with
      | zero => cases h; cases hf; exact ⟨fun k e => by cases e; exact Try.underlying3, fun e => (by cases e), fun e => (by cases e)⟩
      | succ j =>
       cases h), Try.t103, rfl, rfl, fun _ _ => rfl⟩
theorem tn105 : TnOk Try.prog 105 (.fn [.st [.sl 3 (.int .i64), .sl 3 (.int .i64)], .int .i64] (.int .i64)) := ⟨⟨_, _, _, Try.underlying105⟩, fun _ h => (by cases h), Try.t105, rfl, rfl, fun _ h => by cases h⟩
theorem tn106 : TnOk Try.prog 106 (.fn [.st [.sl 3 (.int .i64), .sl 3 (.int .i64)], .int .i64, .int .i64] (.int .i64)) := ⟨⟨_, _, _, Try.underlying106⟩, fun _ h => (by cases h), Try.t106, rfl, rfl, fun _ h => by cases h⟩
theorem tn107 : TnOk Try.prog 107 (.fn [.st [.sl 3 (.int .i64), .sl 3 (.int .i64)], .int .i64] (.sl 3 (.int .i64))) := ⟨⟨_, _, _, Try.underlying107⟩, fun _ h => (by cases h), Try.t107, rfl, rfl, fun _ h => by cases h⟩
theorem tn108 : TnOk Try.prog 108 (.fn [.sl 139 (.st [.int .i64, .int .i64]), .int .i64] (.int .i64)) := ⟨⟨_, _, _, Try.underlying108⟩, fun _ h => (by cases h), Try.t108, rfl, rfl, fun _ h => by cases h⟩
theorem tn109 : TnOk Try.prog 109 (.fn [.st [.sl 3 (.int .i64), .sl 3 (.int .i64)], .int .i64] (.st [.int .i64, .sl 3 (.int .i64), .sl 3 (.int .i64)])) := ⟨⟨_, _, _, Try.underlying109⟩, fun _ h => (by cases h), Try.t109, rfl, rfl, fun _ h => by cases h⟩
theorem tn110 : TnOk Try.prog 110 (.fn [.st [.int .i64, .sl 35 (.st [.str, .int .i64, .sl 37 (.st [.int .i64, .sl 3 (.int .i64), .sl 3 (.int .i64)])]), .sl 94 (.st [.int .i64, .int .i64, .bool, .int .i64]), .sl 44 (.st [.sl 139 (.st [.int .i64, .int .i64]), .sl 26 (.sl 3 (.int .i64))]), .sl 3 (.int .i64)]] (.st [.sl 3 (.int .i64), .sl 3 (.int .i64), .sl 26 (.sl 3 (.int .i64))])) := ⟨⟨_, _, _, Try.underlying110⟩, fun _ h => (by cases h), Try.t110, rfl, rfl, fun _ h => by cases h⟩
theorem tn111 : TnOk Try.prog 111 (.fn [.ptr (.st [.sl 5 (.int .u8), .int .i64, .int .i64]), .int .i64] (.int .i64)) := ⟨⟨_, _, _, Try.underlying111⟩, fun _ h => (by cases h), Try.t111, rfl, rfl, fun _ h => by cases h⟩
theorem tn114 : TnOk Try.prog 114 (.fn [.int .i64] (.int .i64)) := ⟨⟨_, _, _, Try.underlying114⟩, fun _ h => (by cases h), Try.t114, rfl, rfl, fun _ h => by cases h⟩
theorem tn115 : TnOk Try.prog 115 (.fn [.sl 3 (.int .i64), .fn [.int .i64] (.bool)] (.sl 3 (.int .i64))) := ⟨⟨_, _, _, Try.underlying115⟩, fun _ h => (by cases h), Try.t115, rfl, rfl, fun _ h => by cases h⟩
theorem tn116 : TnOk Try.prog 116 (.fn [.sl 3 (.int .i64), .int .i64] (.sl 3 (.int .i64))) := ⟨⟨_, _, _, Try.underlying116⟩, fun _ h => (by cases h), Try.t116, rfl, rfl, fun _ h => by cases h⟩
theorem tn119 : TnOk Try.prog 119 (.fn [.st [.str, .int .i64, .sl 37 (.st [.int .i64, .sl 3 (.int .i64), .sl 3 (.int .i64)])]] (.sl 3 (.int .i64))) := ⟨⟨_, _, _, Try.underlying119⟩, fun _ h => (by cases h), Try.t119, rfl, rfl, fun _ h => by cases h⟩
theorem tn120 : TnOk Try.prog 120 (.fn [.sl 3 (.int .i64)] (.sl 3 (.int .i64))) := ⟨⟨_, _, _, Try.underlying120⟩, fun _ h => (by cases h), Try.t120, rfl, rfl, fun _ h => by cases h⟩
theorem tn123 : TnOk Try.prog 123 (.fn [.int .i64, .int .i64] (.sl 26 (.sl 3 (.int .i64)))) := ⟨⟨_, _, _, Try.underlying123⟩, fun _ h => (by cases h), Try.t123, rfl, rfl, fun _ h => by cases h⟩
theorem tn124 : TnOk Try.prog 124 (.fn [] (.st [.sl 3 (.int .i64), .sl 3 (.int .i64)])) := ⟨⟨_, _, _, Try.underlying124⟩, fun _ h => (by cases h), Try.t124, rfl, rfl, fun _ h => by cases h⟩
theorem tn125 : TnOk Try.prog 125 (.sl 151 (.st [.int .i64, .int .i64, .int .i64, .int .i64])) := ⟨⟨Try.underlying125, Try.t151, _, rfl, rfl, rfl, rfl, by decide, by decide, fun _ _ => rfl, fun k h => by cases h⟩, fun _ h => (by cases h), Try.t125, rfl, rfl, fun _ _ => rfl⟩
theorem tn126 : TnOk Try.prog 126 (.fn [.st [.int .i64, .sl 35 (.st [.str, .int .i64, .sl 37 (.st [.int .i64, .sl 3 (.int .i64), .sl 3 (.int .i64)])]), .sl 94 (.st [.int .i64, .int .i64, .bool, .int .i64]), .sl 44 (.st [.sl 139 (.st [.int .i64, .int .i64]), .sl 26 (.sl 3 (.int .i64))]), .sl 3 (.int .i64)], .st [.sl 3 (.int .i64), .sl 3 (.int .i64)]] (.sl 151 (.st [.int .i64, .int .i64, .int .i64, .int .i64]))) := ⟨⟨_, _, _, Try.underlying126⟩, fun _ h => (by cases h), Try.t126, rfl, rfl, fun _ h => by cases h⟩
theorem tn127 : TnOk Try.prog 127 (.fn [.ptr (.st [.sl 5 (.int .u8), .int .i64, .int .i64])] (.sl 139 (.st [.int .i64, .int .i64]))) := ⟨⟨_, _, _, Try.underlying127⟩, fun _ h => (by cases h), Try.t127, rfl, rfl, fun _ h => by cases h⟩
theorem tn128 : TnOk Try.prog 128 (.fn [.ptr (.st [.sl 5 (.int .u8), .int .i64, .int .i64]), .int .i64] (.bool)) := ⟨⟨_, _, _, Try.underlying128⟩, fun _ h => (by cases h), Try.t128, rfl, rfl, fun _ h => by cases h⟩
theorem tn129 : TnOk Try.prog 129 (.fn [.ptr (.st [.sl 5 (.int .u8), .int .i64, .int .i64])] (.sl 26 (.sl 3 (.int .i64)))) := ⟨⟨_, _, _, Try.underlying129⟩, fun _ h => (by cases h), Try.t129, rfl, rfl, fun _ h => by cases h⟩
theorem tn130 : TnOk Try.prog 130 (.fn [.ptr (.st [.sl 5 (.int .u8), .int .i64, .int .i64]), .int .i64, .int .i64, .int .i64] (.st [.str, .int .i64, .sl 37 (.st [.int .i64, .sl 3 (.int .i64), .sl 3 (.int .i64)])])) := ⟨⟨_, _, _, Try.underlying130⟩, fun _ h => (by cases h), Try.t130, rfl, rfl, fun _ h => by cases h⟩
theorem tn131 : TnOk Try.prog 131 (.fn [.st [.str, .int .i64, .sl 37 (.st [.int .i64, .sl 3 (.int .i64), .sl 3 (.int .i64)])], .int .i64, .int .i64] (.bool)) := ⟨⟨_, _, _, Try.underlying131⟩, fun _ h => (by cases h), Try.t131, rfl, rfl, fun _ h => by cases h⟩
theorem tn132 : TnOk Try.prog 132 (.fn [.st [.int .i64, .sl 35 (.st [.str, .int .i64, .sl 37 (.st [.int .i64, .sl 3 (.int .i64), .sl 3 (.int .i64)])]), .sl 94 (.st [.int .i64, .int .i64, .bool, .int .i64]), .sl 44 (.st [.sl 139 (.st [.int .i64, .int .i64]), .sl 26 (.sl 3 (.int .i64))]), .sl 3 (.int .i64)], .str] (.int .i64)) := ⟨⟨_, _, _, Try.underlying132⟩, fun _ h => (by cases h), Try.t132, rfl, rfl, fun _ h => by cases h⟩
theorem tn133 : TnOk Try.prog 133 (.fn [.sl 94 (.st [.int .i64, .int .i64, .bool, .int .i64]), .fn [.st [.int .i64, .int .i64, .bool, .int .i64]] (.bool)] (.bool)) := ⟨⟨_, _, _, Try.underlying133⟩, fun _ h => (by cases h), Try.t133, rfl, rfl, fun _ h => by cases h⟩
theorem tn134 : TnOk Try.prog 134 (.fn [.st [.int .i64, .int .i64, .bool, .int .i64]] (.bool)) := ⟨⟨_, _, _, Try.underlying134⟩, fun _ h => (by cases h), Try.t134, rfl, rfl, fun _ h => by cases h⟩
theorem tn138 : TnOk Try.prog 138 (.st [.int .i64, .int .i64]) := ⟨⟨_, Try.underlying138, Try.eqGuardType138, Try.stoodInHeld138, rfl, fun j τ h => by
    cases j with
    | zero => cases h; exact ⟨_, _, rfl, rfl, by decide, by decide, Try.underlying3, rfl, fun us h => by cases h⟩
    | succ j =>
     cases j with
     | zero => cases h; exact ⟨_, _, rfl, rfl, by decide, by decide, Try.underlying3, rfl, fun us h => by cases h⟩
     | succ j =>
      cases h⟩, (fun us hus fs hfs j τ h f hf => by
    cases hus
    rw [Try.underlying138] at hfs
    cases hfs
    cases j with
    | zero => cases h; cases hf; exact ⟨fun k e => by cases e; exact Try.underlying3, fun e => (by cases e), fun e => (by cases e)⟩
    | succ j =>
     cases j with
     | zero => cases h; cases hf; exact ⟨fun k e => by cases e; exact Try.underlying3, fun e => (by cases e), fun e => (by cases e)⟩
     | succ j =>
      cases h), Try.t138, rfl, rfl, fun _ _ => rfl⟩
theorem tn139 : TnOk Try.prog 139 (.st [.int .i64, .int .i64]) := ⟨⟨_, Try.underlying139, Try.eqGuardType139, Try.stoodInHeld139, rfl, fun j τ h => by
    cases j with
    | zero => cases h; exact ⟨_, _, rfl, rfl, by decide, by decide, Try.underlying3, rfl, fun us h => by cases h⟩
    | succ j =>
     cases j with
     | zero => cases h; exact ⟨_, _, rfl, rfl, by decide, by decide, Try.underlying3, rfl, fun us h => by cases h⟩
     | succ j =>
      cases h⟩, (fun us hus fs hfs j τ h f hf => by
    cases hus
    rw [Try.underlying139] at hfs
    cases hfs
    cases j with
    | zero => cases h; cases hf; exact ⟨fun k e => by cases e; exact Try.underlying3, fun e => (by cases e), fun e => (by cases e)⟩
    | succ j =>
     cases j with
     | zero => cases h; cases hf; exact ⟨fun k e => by cases e; exact Try.underlying3, fun e => (by cases e), fun e => (by cases e)⟩
     | succ j =>
      cases h), Try.t139, rfl, rfl, fun _ _ => rfl⟩
theorem tn140 : TnOk Try.prog 140 (.fn [.sl 3 (.int .i64), .int .i64] (.int .i64)) := ⟨⟨_, _, _, Try.underlying140⟩, fun _ h => (by cases h), Try.t140, rfl, rfl, fun _ h => by cases h⟩
theorem tn142 : TnOk Try.prog 142 (.fn [.int .i64] (.sl 3 (.int .i64))) := ⟨⟨_, _, _, Try.underlying142⟩, fun _ h => (by cases h), Try.t142, rfl, rfl, fun _ h => by cases h⟩
theorem tn143 : TnOk Try.prog 143 (.fn [.ptr (.st [.sl 5 (.int .u8), .int .i64, .int .i64])] (.int .i64)) := ⟨⟨_, _, _, Try.underlying143⟩, fun _ h => (by cases h), Try.t143, rfl, rfl, fun _ h => by cases h⟩
theorem tn144 : TnOk Try.prog 144 (.fn [.st [.sl 3 (.int .i64), .sl 3 (.int .i64), .sl 26 (.sl 3 (.int .i64))]] (.st [.sl 3 (.int .i64), .sl 3 (.int .i64), .sl 26 (.sl 3 (.int .i64))])) := ⟨⟨_, _, _, Try.underlying144⟩, fun _ h => (by cases h), Try.t144, rfl, rfl, fun _ h => by cases h⟩
theorem tn145 : TnOk Try.prog 145 (.fn [.st [.sl 3 (.int .i64), .sl 3 (.int .i64), .sl 26 (.sl 3 (.int .i64))], .int .i64] (.bool)) := ⟨⟨_, _, _, Try.underlying145⟩, fun _ h => (by cases h), Try.t145, rfl, rfl, fun _ h => by cases h⟩
theorem tn146 : TnOk Try.prog 146 (.fn [.int .i64, .int .i64] (.int .i64)) := ⟨⟨_, _, _, Try.underlying146⟩, fun _ h => (by cases h), Try.t146, rfl, rfl, fun _ h => by cases h⟩
theorem tn147 : TnOk Try.prog 147 (.fn [.sl 3 (.int .i64), .sl 3 (.int .i64)] (.sl 3 (.int .i64))) := ⟨⟨_, _, _, Try.underlying147⟩, fun _ h => (by cases h), Try.t147, rfl, rfl, fun _ h => by cases h⟩
theorem tn149 : TnOk Try.prog 149 (.fn [] (.sl 151 (.st [.int .i64, .int .i64, .int .i64, .int .i64]))) := ⟨⟨_, _, _, Try.underlying149⟩, fun _ h => (by cases h), Try.t149, rfl, rfl, fun _ h => by cases h⟩
theorem tn150 : TnOk Try.prog 150 (.st [.int .i64, .int .i64, .int .i64, .int .i64]) := ⟨⟨_, Try.underlying150, Try.eqGuardType150, Try.stoodInHeld150, rfl, fun j τ h => by
    cases j with
    | zero => cases h; exact ⟨_, _, rfl, rfl, by decide, by decide, Try.underlying3, rfl, fun us h => by cases h⟩
    | succ j =>
     cases j with
     | zero => cases h; exact ⟨_, _, rfl, rfl, by decide, by decide, Try.underlying3, rfl, fun us h => by cases h⟩
     | succ j =>
      cases j with
      | zero => cases h; exact ⟨_, _, rfl, rfl, by decide, by decide, Try.underlying3, rfl, fun us h => by cases h⟩
      | succ j =>
       cases j with
       | zero => cases h; exact ⟨_, _, rfl, rfl, by decide, by decide, Try.underlying3, rfl, fun us h => by cases h⟩
       | succ j =>
        cases h⟩, (fun us hus fs hfs j τ h f hf => by
    cases hus
    rw [Try.underlying150] at hfs
    cases hfs
    cases j with
    | zero => cases h; cases hf; exact ⟨fun k e => by cases e; exact Try.underlying3, fun e => (by cases e), fun e => (by cases e)⟩
    | succ j =>
     cases j with
     | zero => cases h; cases hf; exact ⟨fun k e => by cases e; exact Try.underlying3, fun e => (by cases e), fun e => (by cases e)⟩
     | succ j =>
      cases j with
      | zero => cases h; cases hf; exact ⟨fun k e => by cases e; exact Try.underlying3, fun e => (by cases e), fun e => (by cases e)⟩
      | succ j =>
       cases j with
       | zero => cases h; cases hf; exact ⟨fun k e => by cases e; exact Try.underlying3, fun e => (by cases e), fun e => (by cases e)⟩
       | succ j =>
        cases h), Try.t150, rfl, rfl, fun _ _ => rfl⟩
theorem tn151 : TnOk Try.prog 151 (.st [.int .i64, .int .i64, .int .i64, .int .i64]) := ⟨⟨_, Try.underlying151, Try.eqGuardType151, Try.stoodInHeld151, rfl, fun j τ h => by
    cases j with
    | zero => cases h; exact ⟨_, _, rfl, rfl, by decide, by decide, Try.underlying3, rfl, fun us h => by cases h⟩
    | succ j =>
     cases j with
     | zero => cases h; exact ⟨_, _, rfl, rfl, by decide, by decide, Try.underlying3, rfl, fun us h => by cases h⟩
     | succ j =>
      cases j with
      | zero => cases h; exact ⟨_, _, rfl, rfl, by decide, by decide, Try.underlying3, rfl, fun us h => by cases h⟩
      | succ j =>
       cases j with
       | zero => cases h; exact ⟨_, _, rfl, rfl, by decide, by decide, Try.underlying3, rfl, fun us h => by cases h⟩
       | succ j =>
        cases h⟩, (fun us hus fs hfs j τ h f hf => by
    cases hus
    rw [Try.underlying151] at hfs
    cases hfs
    cases j with
    | zero => cases h; cases hf; exact ⟨fun k e => by cases e; exact Try.underlying3, fun e => (by cases e), fun e => (by cases e)⟩
    | succ j =>
     cases j with
     | zero => cases h; cases hf; exact ⟨fun k e => by cases e; exact Try.underlying3, fun e => (by cases e), fun e => (by cases e)⟩
     | succ j =>
      cases j with
      | zero => cases h; cases hf; exact ⟨fun k e => by cases e; exact Try.underlying3, fun e => (by cases e), fun e => (by cases e)⟩
      | succ j =>
       cases j with
       | zero => cases h; cases hf; exact ⟨fun k e => by cases e; exact Try.underlying3, fun e => (by cases e), fun e => (by cases e)⟩
       | succ j =>
        cases h), Try.t151, rfl, rfl, fun _ _ => rfl⟩
theorem tn152 : TnOk Try.prog 152 (.fn [.st [.sl 3 (.int .i64), .sl 3 (.int .i64)], .st [.int .i64, .int .i64, .int .i64, .int .i64]] (.bool)) := ⟨⟨_, _, _, Try.underlying152⟩, fun _ h => (by cases h), Try.t152, rfl, rfl, fun _ h => by cases h⟩
theorem tn153 : TnOk Try.prog 153 (.fn [.ptr (.st [.sl 5 (.int .u8), .int .i64, .int .i64]), .int .i64] (.str)) := ⟨⟨_, _, _, Try.underlying153⟩, fun _ h => (by cases h), Try.t153, rfl, rfl, fun _ h => by cases h⟩
theorem tn154 : TnOk Try.prog 154 (.fn [.st [.int .i64, .sl 3 (.int .i64), .sl 3 (.int .i64)], .int .i64, .int .i64] (.bool)) := ⟨⟨_, _, _, Try.underlying154⟩, fun _ h => (by cases h), Try.t154, rfl, rfl, fun _ h => by cases h⟩
theorem tn155 : TnOk Try.prog 155 (.fn [.str] (.bool)) := ⟨⟨_, _, _, Try.underlying155⟩, fun _ h => (by cases h), Try.t155, rfl, rfl, fun _ h => by cases h⟩
theorem tn156 : TnOk Try.prog 156 (.fn [.sl 35 (.st [.str, .int .i64, .sl 37 (.st [.int .i64, .sl 3 (.int .i64), .sl 3 (.int .i64)])]), .fn [.st [.str, .int .i64, .sl 37 (.st [.int .i64, .sl 3 (.int .i64), .sl 3 (.int .i64)])]] (.bool)] (.int .i64)) := ⟨⟨_, _, _, Try.underlying156⟩, fun _ h => (by cases h), Try.t156, rfl, rfl, fun _ h => by cases h⟩
theorem tn157 : TnOk Try.prog 157 (.fn [.st [.str, .int .i64, .sl 37 (.st [.int .i64, .sl 3 (.int .i64), .sl 3 (.int .i64)])]] (.bool)) := ⟨⟨_, _, _, Try.underlying157⟩, fun _ h => (by cases h), Try.t157, rfl, rfl, fun _ h => by cases h⟩
theorem tn158 : TnOk Try.prog 158 (.fn [.sl 94 (.st [.int .i64, .int .i64, .bool, .int .i64]), .fn [.st [.int .i64, .int .i64, .bool, .int .i64]] (.bool)] (.int .i64)) := ⟨⟨_, _, _, Try.underlying158⟩, fun _ h => (by cases h), Try.t158, rfl, rfl, fun _ h => by cases h⟩
theorem tn160 : TnOk Try.prog 160 (.fn [.st [.sl 3 (.int .i64), .sl 3 (.int .i64)], .st [.int .i64, .int .i64, .bool, .int .i64]] (.bool)) := ⟨⟨_, _, _, Try.underlying160⟩, fun _ h => (by cases h), Try.t160, rfl, rfl, fun _ h => by cases h⟩
theorem tn161 : TnOk Try.prog 161 (.fn [.st [.sl 3 (.int .i64), .sl 3 (.int .i64)], .int .i64, .int .i64, .int .i64] (.int .i64)) := ⟨⟨_, _, _, Try.underlying161⟩, fun _ h => (by cases h), Try.t161, rfl, rfl, fun _ h => by cases h⟩
theorem tn162 : TnOk Try.prog 162 (.fn [.sl 139 (.st [.int .i64, .int .i64]), .int .i64, .int .i64] (.int .i64)) := ⟨⟨_, _, _, Try.underlying162⟩, fun _ h => (by cases h), Try.t162, rfl, rfl, fun _ h => by cases h⟩
theorem tn163 : TnOk Try.prog 163 (.fn [.st [.sl 3 (.int .i64), .sl 3 (.int .i64)], .int .i64, .int .i64, .int .i64] (.bool)) := ⟨⟨_, _, _, Try.underlying163⟩, fun _ h => (by cases h), Try.t163, rfl, rfl, fun _ h => by cases h⟩
theorem tn164 : TnOk Try.prog 164 (.sl 9 (.str)) := ⟨⟨Try.underlying164, Try.t9, _, rfl, rfl, rfl, rfl, by decide, by decide, fun _ _ => rfl, fun k h => by cases h⟩, fun _ h => (by cases h), Try.t164, rfl, rfl, fun _ _ => rfl⟩
theorem tn165 : TnOk Try.prog 165 (.fn [.st [.int .i64, .sl 35 (.st [.str, .int .i64, .sl 37 (.st [.int .i64, .sl 3 (.int .i64), .sl 3 (.int .i64)])]), .sl 94 (.st [.int .i64, .int .i64, .bool, .int .i64]), .sl 44 (.st [.sl 139 (.st [.int .i64, .int .i64]), .sl 26 (.sl 3 (.int .i64))]), .sl 3 (.int .i64)], .int .i64, .int .i64, .int .i64] (.int .i64)) := ⟨⟨_, _, _, Try.underlying165⟩, fun _ h => (by cases h), Try.t165, rfl, rfl, fun _ h => by cases h⟩
def tys : List (Nat × Ty) := [(3, .int .i64), (4, .bool), (5, .int .u8), (9, .str), (22, .sl 5 (.int .u8)), (23, .sl 35 (.st [.str, .int .i64, .sl 37 (.st [.int .i64, .sl 3 (.int .i64), .sl 3 (.int .i64)])])), (24, .sl 94 (.st [.int .i64, .int .i64, .bool, .int .i64])), (25, .sl 44 (.st [.sl 139 (.st [.int .i64, .int .i64]), .sl 26 (.sl 3 (.int .i64))])), (26, .sl 3 (.int .i64)), (27, .st [.int .i64, .sl 35 (.st [.str, .int .i64, .sl 37 (.st [.int .i64, .sl 3 (.int .i64), .sl 3 (.int .i64)])]), .sl 94 (.st [.int .i64, .int .i64, .bool, .int .i64]), .sl 44 (.st [.sl 139 (.st [.int .i64, .int .i64]), .sl 26 (.sl 3 (.int .i64))]), .sl 3 (.int .i64)]), (28, .st [.int .i64, .sl 35 (.st [.str, .int .i64, .sl 37 (.st [.int .i64, .sl 3 (.int .i64), .sl 3 (.int .i64)])]), .sl 94 (.st [.int .i64, .int .i64, .bool, .int .i64]), .sl 44 (.st [.sl 139 (.st [.int .i64, .int .i64]), .sl 26 (.sl 3 (.int .i64))]), .sl 3 (.int .i64)]), (29, .fn [.sl 5 (.int .u8)] (.st [.int .i64, .sl 35 (.st [.str, .int .i64, .sl 37 (.st [.int .i64, .sl 3 (.int .i64), .sl 3 (.int .i64)])]), .sl 94 (.st [.int .i64, .int .i64, .bool, .int .i64]), .sl 44 (.st [.sl 139 (.st [.int .i64, .int .i64]), .sl 26 (.sl 3 (.int .i64))]), .sl 3 (.int .i64)])), (33, .sl 37 (.st [.int .i64, .sl 3 (.int .i64), .sl 3 (.int .i64)])), (34, .st [.str, .int .i64, .sl 37 (.st [.int .i64, .sl 3 (.int .i64), .sl 3 (.int .i64)])]), (35, .st [.str, .int .i64, .sl 37 (.st [.int .i64, .sl 3 (.int .i64), .sl 3 (.int .i64)])]), (36, .st [.int .i64, .sl 3 (.int .i64), .sl 3 (.int .i64)]), (37, .st [.int .i64, .sl 3 (.int .i64), .sl 3 (.int .i64)]), (38, .fn [.sl 3 (.int .i64), .int .i64] (.bool)), (40, .fn [.st [.sl 139 (.st [.int .i64, .int .i64]), .sl 26 (.sl 3 (.int .i64))]] (.bool)), (41, .sl 139 (.st [.int .i64, .int .i64])), (42, .sl 26 (.sl 3 (.int .i64))), (43, .st [.sl 139 (.st [.int .i64, .int .i64]), .sl 26 (.sl 3 (.int .i64))]), (44, .st [.sl 139 (.st [.int .i64, .int .i64]), .sl 26 (.sl 3 (.int .i64))]), (45, .fn [.st [.int .i64, .sl 35 (.st [.str, .int .i64, .sl 37 (.st [.int .i64, .sl 3 (.int .i64), .sl 3 (.int .i64)])]), .sl 94 (.st [.int .i64, .int .i64, .bool, .int .i64]), .sl 44 (.st [.sl 139 (.st [.int .i64, .int .i64]), .sl 26 (.sl 3 (.int .i64))]), .sl 3 (.int .i64)], .int .i64] (.bool)), (47, .fn [.sl 5 (.int .u8)] (.bool)), (48, .st [.sl 3 (.int .i64), .sl 3 (.int .i64)]), (49, .st [.sl 3 (.int .i64), .sl 3 (.int .i64)]), (51, .fn [.st [.int .i64, .sl 35 (.st [.str, .int .i64, .sl 37 (.st [.int .i64, .sl 3 (.int .i64), .sl 3 (.int .i64)])]), .sl 94 (.st [.int .i64, .int .i64, .bool, .int .i64]), .sl 44 (.st [.sl 139 (.st [.int .i64, .int .i64]), .sl 26 (.sl 3 (.int .i64))]), .sl 3 (.int .i64)], .st [.sl 3 (.int .i64), .sl 3 (.int .i64)], .int .i64] (.int .i64)), (52, .fn [.st [.int .i64, .sl 35 (.st [.str, .int .i64, .sl 37 (.st [.int .i64, .sl 3 (.int .i64), .sl 3 (.int .i64)])]), .sl 94 (.st [.int .i64, .int .i64, .bool, .int .i64]), .sl 44 (.st [.sl 139 (.st [.int .i64, .int .i64]), .sl 26 (.sl 3 (.int .i64))]), .sl 3 (.int .i64)], .st [.sl 3 (.int .i64), .sl 3 (.int .i64)]] (.int .i64)), (55, .fn [.st [.int .i64, .sl 35 (.st [.str, .int .i64, .sl 37 (.st [.int .i64, .sl 3 (.int .i64), .sl 3 (.int .i64)])]), .sl 94 (.st [.int .i64, .int .i64, .bool, .int .i64]), .sl 44 (.st [.sl 139 (.st [.int .i64, .int .i64]), .sl 26 (.sl 3 (.int .i64))]), .sl 3 (.int .i64)], .st [.sl 3 (.int .i64), .sl 3 (.int .i64)]] (.bool)), (56, .st [.sl 3 (.int .i64), .sl 3 (.int .i64), .sl 26 (.sl 3 (.int .i64))]), (57, .st [.sl 3 (.int .i64), .sl 3 (.int .i64), .sl 26 (.sl 3 (.int .i64))]), (58, .fn [.sl 5 (.int .u8), .st [.int .i64, .sl 35 (.st [.str, .int .i64, .sl 37 (.st [.int .i64, .sl 3 (.int .i64), .sl 3 (.int .i64)])]), .sl 94 (.st [.int .i64, .int .i64, .bool, .int .i64]), .sl 44 (.st [.sl 139 (.st [.int .i64, .int .i64]), .sl 26 (.sl 3 (.int .i64))]), .sl 3 (.int .i64)]] (.st [.sl 3 (.int .i64), .sl 3 (.int .i64), .sl 26 (.sl 3 (.int .i64))])), (59, .st [.int .i64, .int .i64, .int .i64]), (60, .st [.int .i64, .int .i64, .int .i64]), (62, .fn [.st [.sl 3 (.int .i64), .sl 3 (.int .i64), .sl 26 (.sl 3 (.int .i64))], .st [.int .i64, .int .i64, .int .i64]] (.st [.sl 3 (.int .i64), .sl 3 (.int .i64), .sl 26 (.sl 3 (.int .i64))])), (64, .fn [.st [.sl 3 (.int .i64), .sl 3 (.int .i64), .sl 26 (.sl 3 (.int .i64))], .st [.sl 3 (.int .i64), .sl 3 (.int .i64)]] (.bool)), (71, .fn [.st [.sl 3 (.int .i64), .sl 3 (.int .i64)], .st [.sl 3 (.int .i64), .sl 3 (.int .i64)]] (.bool)), (72, .fn [.st [.sl 3 (.int .i64), .sl 3 (.int .i64), .sl 26 (.sl 3 (.int .i64))]] (.bool)), (78, .sl 49 (.st [.sl 3 (.int .i64), .sl 3 (.int .i64)])), (79, .fn [.st [.int .i64, .sl 35 (.st [.str, .int .i64, .sl 37 (.st [.int .i64, .sl 3 (.int .i64), .sl 3 (.int .i64)])]), .sl 94 (.st [.int .i64, .int .i64, .bool, .int .i64]), .sl 44 (.st [.sl 139 (.st [.int .i64, .int .i64]), .sl 26 (.sl 3 (.int .i64))]), .sl 3 (.int .i64)], .int .i64] (.sl 49 (.st [.sl 3 (.int .i64), .sl 3 (.int .i64)]))), (80, .fn [.st [.int .i64, .sl 35 (.st [.str, .int .i64, .sl 37 (.st [.int .i64, .sl 3 (.int .i64), .sl 3 (.int .i64)])]), .sl 94 (.st [.int .i64, .int .i64, .bool, .int .i64]), .sl 44 (.st [.sl 139 (.st [.int .i64, .int .i64]), .sl 26 (.sl 3 (.int .i64))]), .sl 3 (.int .i64)], .int .i64] (.tup [.st [.sl 3 (.int .i64), .sl 3 (.int .i64)], .bool])), (81, .fn [.st [.int .i64, .sl 35 (.st [.str, .int .i64, .sl 37 (.st [.int .i64, .sl 3 (.int .i64), .sl 3 (.int .i64)])]), .sl 94 (.st [.int .i64, .int .i64, .bool, .int .i64]), .sl 44 (.st [.sl 139 (.st [.int .i64, .int .i64]), .sl 26 (.sl 3 (.int .i64))]), .sl 3 (.int .i64)], .st [.sl 3 (.int .i64), .sl 3 (.int .i64), .sl 26 (.sl 3 (.int .i64))], .int .i64] (.int .i64)), (82, .fn [.st [.int .i64, .sl 35 (.st [.str, .int .i64, .sl 37 (.st [.int .i64, .sl 3 (.int .i64), .sl 3 (.int .i64)])]), .sl 94 (.st [.int .i64, .int .i64, .bool, .int .i64]), .sl 44 (.st [.sl 139 (.st [.int .i64, .int .i64]), .sl 26 (.sl 3 (.int .i64))]), .sl 3 (.int .i64)]] (.sl 26 (.sl 3 (.int .i64)))), (83, .ptr (.st [.sl 5 (.int .u8), .int .i64, .int .i64])), (84, .fn [.sl 5 (.int .u8)] (.ptr (.st [.sl 5 (.int .u8), .int .i64, .int .i64]))), (85, .fn [.ptr (.st [.sl 5 (.int .u8), .int .i64, .int .i64]), .int .i64] (.st [.int .i64, .sl 35 (.st [.str, .int .i64, .sl 37 (.st [.int .i64, .sl 3 (.int .i64), .sl 3 (.int .i64)])]), .sl 94 (.st [.int .i64, .int .i64, .bool, .int .i64]), .sl 44 (.st [.sl 139 (.st [.int .i64, .int .i64]), .sl 26 (.sl 3 (.int .i64))]), .sl 3 (.int .i64)])), (86, .fn [.st [.int .i64, .sl 35 (.st [.str, .int .i64, .sl 37 (.st [.int .i64, .sl 3 (.int .i64), .sl 3 (.int .i64)])]), .sl 94 (.st [.int .i64, .int .i64, .bool, .int .i64]), .sl 44 (.st [.sl 139 (.st [.int .i64, .int .i64]), .sl 26 (.sl 3 (.int .i64))]), .sl 3 (.int .i64)]] (.bool)), (87, .fn [.int .i64] (.bool)), (93, .st [.int .i64, .int .i64, .bool, .int .i64]), (94, .st [.int .i64, .int .i64, .bool, .int .i64]), (97, .fn [.sl 3 (.int .i64), .sl 3 (.int .i64)] (.bool)), (98, .fn [.int .i64, .int .i64, .int .i64] (.bool)), (99, .fn [.sl 139 (.st [.int .i64, .int .i64])] (.bool)), (102, .st [.sl 5 (.int .u8), .int .i64, .int .i64]), (103, .st [.sl 5 (.int .u8), .int .i64, .int .i64]), (105, .fn [.st [.sl 3 (.int .i64), .sl 3 (.int .i64)], .int .i64] (.int .i64)), (106, .fn [.st [.sl 3 (.int .i64), .sl 3 (.int .i64)], .int .i64, .int .i64] (.int .i64)), (107, .fn [.st [.sl 3 (.int .i64), .sl 3 (.int .i64)], .int .i64] (.sl 3 (.int .i64))), (108, .fn [.sl 139 (.st [.int .i64, .int .i64]), .int .i64] (.int .i64)), (109, .fn [.st [.sl 3 (.int .i64), .sl 3 (.int .i64)], .int .i64] (.st [.int .i64, .sl 3 (.int .i64), .sl 3 (.int .i64)])), (110, .fn [.st [.int .i64, .sl 35 (.st [.str, .int .i64, .sl 37 (.st [.int .i64, .sl 3 (.int .i64), .sl 3 (.int .i64)])]), .sl 94 (.st [.int .i64, .int .i64, .bool, .int .i64]), .sl 44 (.st [.sl 139 (.st [.int .i64, .int .i64]), .sl 26 (.sl 3 (.int .i64))]), .sl 3 (.int .i64)]] (.st [.sl 3 (.int .i64), .sl 3 (.int .i64), .sl 26 (.sl 3 (.int .i64))])), (111, .fn [.ptr (.st [.sl 5 (.int .u8), .int .i64, .int .i64]), .int .i64] (.int .i64)), (114, .fn [.int .i64] (.int .i64)), (115, .fn [.sl 3 (.int .i64), .fn [.int .i64] (.bool)] (.sl 3 (.int .i64))), (116, .fn [.sl 3 (.int .i64), .int .i64] (.sl 3 (.int .i64))), (119, .fn [.st [.str, .int .i64, .sl 37 (.st [.int .i64, .sl 3 (.int .i64), .sl 3 (.int .i64)])]] (.sl 3 (.int .i64))), (120, .fn [.sl 3 (.int .i64)] (.sl 3 (.int .i64))), (123, .fn [.int .i64, .int .i64] (.sl 26 (.sl 3 (.int .i64)))), (124, .fn [] (.st [.sl 3 (.int .i64), .sl 3 (.int .i64)])), (125, .sl 151 (.st [.int .i64, .int .i64, .int .i64, .int .i64])), (126, .fn [.st [.int .i64, .sl 35 (.st [.str, .int .i64, .sl 37 (.st [.int .i64, .sl 3 (.int .i64), .sl 3 (.int .i64)])]), .sl 94 (.st [.int .i64, .int .i64, .bool, .int .i64]), .sl 44 (.st [.sl 139 (.st [.int .i64, .int .i64]), .sl 26 (.sl 3 (.int .i64))]), .sl 3 (.int .i64)], .st [.sl 3 (.int .i64), .sl 3 (.int .i64)]] (.sl 151 (.st [.int .i64, .int .i64, .int .i64, .int .i64]))), (127, .fn [.ptr (.st [.sl 5 (.int .u8), .int .i64, .int .i64])] (.sl 139 (.st [.int .i64, .int .i64]))), (128, .fn [.ptr (.st [.sl 5 (.int .u8), .int .i64, .int .i64]), .int .i64] (.bool)), (129, .fn [.ptr (.st [.sl 5 (.int .u8), .int .i64, .int .i64])] (.sl 26 (.sl 3 (.int .i64)))), (130, .fn [.ptr (.st [.sl 5 (.int .u8), .int .i64, .int .i64]), .int .i64, .int .i64, .int .i64] (.st [.str, .int .i64, .sl 37 (.st [.int .i64, .sl 3 (.int .i64), .sl 3 (.int .i64)])])), (131, .fn [.st [.str, .int .i64, .sl 37 (.st [.int .i64, .sl 3 (.int .i64), .sl 3 (.int .i64)])], .int .i64, .int .i64] (.bool)), (132, .fn [.st [.int .i64, .sl 35 (.st [.str, .int .i64, .sl 37 (.st [.int .i64, .sl 3 (.int .i64), .sl 3 (.int .i64)])]), .sl 94 (.st [.int .i64, .int .i64, .bool, .int .i64]), .sl 44 (.st [.sl 139 (.st [.int .i64, .int .i64]), .sl 26 (.sl 3 (.int .i64))]), .sl 3 (.int .i64)], .str] (.int .i64)), (133, .fn [.sl 94 (.st [.int .i64, .int .i64, .bool, .int .i64]), .fn [.st [.int .i64, .int .i64, .bool, .int .i64]] (.bool)] (.bool)), (134, .fn [.st [.int .i64, .int .i64, .bool, .int .i64]] (.bool)), (138, .st [.int .i64, .int .i64]), (139, .st [.int .i64, .int .i64]), (140, .fn [.sl 3 (.int .i64), .int .i64] (.int .i64)), (142, .fn [.int .i64] (.sl 3 (.int .i64))), (143, .fn [.ptr (.st [.sl 5 (.int .u8), .int .i64, .int .i64])] (.int .i64)), (144, .fn [.st [.sl 3 (.int .i64), .sl 3 (.int .i64), .sl 26 (.sl 3 (.int .i64))]] (.st [.sl 3 (.int .i64), .sl 3 (.int .i64), .sl 26 (.sl 3 (.int .i64))])), (145, .fn [.st [.sl 3 (.int .i64), .sl 3 (.int .i64), .sl 26 (.sl 3 (.int .i64))], .int .i64] (.bool)), (146, .fn [.int .i64, .int .i64] (.int .i64)), (147, .fn [.sl 3 (.int .i64), .sl 3 (.int .i64)] (.sl 3 (.int .i64))), (149, .fn [] (.sl 151 (.st [.int .i64, .int .i64, .int .i64, .int .i64]))), (150, .st [.int .i64, .int .i64, .int .i64, .int .i64]), (151, .st [.int .i64, .int .i64, .int .i64, .int .i64]), (152, .fn [.st [.sl 3 (.int .i64), .sl 3 (.int .i64)], .st [.int .i64, .int .i64, .int .i64, .int .i64]] (.bool)), (153, .fn [.ptr (.st [.sl 5 (.int .u8), .int .i64, .int .i64]), .int .i64] (.str)), (154, .fn [.st [.int .i64, .sl 3 (.int .i64), .sl 3 (.int .i64)], .int .i64, .int .i64] (.bool)), (155, .fn [.str] (.bool)), (156, .fn [.sl 35 (.st [.str, .int .i64, .sl 37 (.st [.int .i64, .sl 3 (.int .i64), .sl 3 (.int .i64)])]), .fn [.st [.str, .int .i64, .sl 37 (.st [.int .i64, .sl 3 (.int .i64), .sl 3 (.int .i64)])]] (.bool)] (.int .i64)), (157, .fn [.st [.str, .int .i64, .sl 37 (.st [.int .i64, .sl 3 (.int .i64), .sl 3 (.int .i64)])]] (.bool)), (158, .fn [.sl 94 (.st [.int .i64, .int .i64, .bool, .int .i64]), .fn [.st [.int .i64, .int .i64, .bool, .int .i64]] (.bool)] (.int .i64)), (160, .fn [.st [.sl 3 (.int .i64), .sl 3 (.int .i64)], .st [.int .i64, .int .i64, .bool, .int .i64]] (.bool)), (161, .fn [.st [.sl 3 (.int .i64), .sl 3 (.int .i64)], .int .i64, .int .i64, .int .i64] (.int .i64)), (162, .fn [.sl 139 (.st [.int .i64, .int .i64]), .int .i64, .int .i64] (.int .i64)), (163, .fn [.st [.sl 3 (.int .i64), .sl 3 (.int .i64)], .int .i64, .int .i64, .int .i64] (.bool)), (164, .sl 9 (.str)), (165, .fn [.st [.int .i64, .sl 35 (.st [.str, .int .i64, .sl 37 (.st [.int .i64, .sl 3 (.int .i64), .sl 3 (.int .i64)])]), .sl 94 (.st [.int .i64, .int .i64, .bool, .int .i64]), .sl 44 (.st [.sl 139 (.st [.int .i64, .int .i64]), .sl 26 (.sl 3 (.int .i64))]), .sl 3 (.int .i64)], .int .i64, .int .i64, .int .i64] (.int .i64))]
theorem tysOk : LkAll (TnOk Try.prog) tys := ⟨tn3, tn4, tn5, tn9, tn22, tn23, tn24, tn25, tn26, tn27, tn28, tn29, tn33, tn34, tn35, tn36, tn37, tn38, tn40, tn41, tn42, tn43, tn44, tn45, tn47, tn48, tn49, tn51, tn52, tn55, tn56, tn57, tn58, tn59, tn60, tn62, tn64, tn71, tn72, tn78, tn79, tn80, tn81, tn82, tn83, tn84, tn85, tn86, tn87, tn93, tn94, tn97, tn98, tn99, tn102, tn103, tn105, tn106, tn107, tn108, tn109, tn110, tn111, tn114, tn115, tn116, tn119, tn120, tn123, tn124, tn125, tn126, tn127, tn128, tn129, tn130, tn131, tn132, tn133, tn134, tn138, tn139, tn140, tn142, tn143, tn144, tn145, tn146, tn147, tn149, tn150, tn151, tn152, tn153, tn154, tn155, tn156, tn157, tn158, tn160, tn161, tn162, tn163, tn164, tn165, trivial⟩
def spec_l01New_L0 : (Int × ((List Int) × (Int × Unit))) → Option (Out (Int × ((List Int) × (Int × Unit))) ((Bool × (Int × ((List Int) × (Int × Unit)))) ⊕ Empty) (D_l01Cur × Unit)) :=
  (fun v0 => (Option.bind ((if (ltZ v0.1 (lenI v0.2.1)) = true then (some ((ltZ v0.1 4000), (v0.1, (v0.2.1, (v0.2.2.1, ()))))) else (some (false, (v0.1, (v0.2.1, (v0.2.2.1, ())))))) : (Option (Bool × (Int × ((List Int) × (Int × Unit)))))) fun v1 => (if v1.1 = true then (Option.bind (getI v1.2.2.1 v1.2.1) fun v2 => (some (Out.norm ((addZ .i64 v1.2.1 1), (v1.2.2.1, ((bitsI .and .i64 (addZ .i64 (addZ .i64 (mulZ .i64 v1.2.2.2.1 59) (wrapI .i64 v2)) 7) 1073741823), ())))))) else (some (Out.exit (Sum.inl v1))))))
def spec_l01New (x : ((List Int) × Unit)) (c : Unit) : (Option (D_l01Cur × Unit)) :=
  (Option.bind (loopN (A := (Int × ((List Int) × (Int × Unit)))) big spec_l01New_L0 (0, (x.1, ((addZ .i64 1950 (lenI x.1)), ())))) fun v3 => (match v3 with | Out.norm v4 => none | Out.exit v5 => (match ((match v5 with | Sum.inl v8 => (Sum.inl (v8.2.2.1, (v8.2.2.2.1, ()))) | Sum.inr v9 => (Empty.elim v9)) : (((List Int) × (Int × Unit)) ⊕ Empty)) with | Sum.inl v6 => (some ((v6.1, (0, (v6.2.1, ()))), ())) | Sum.inr v7 => none) | Out.ret v10 => (some v10)))
def H_spec_l01New : Hd := ⟨[.sl 5 (.int .u8)], [], none, .p, .ptr (.st [.sl 5 (.int .u8), .int .i64, .int .i64]), (.u (.s .p (.s .p (.s .p .p)))), []⟩
def T_spec_l01New : FSig := ⟨H_spec_l01New.ps, H_spec_l01New.cs, H_spec_l01New.io, H_spec_l01New.im, H_spec_l01New.R, H_spec_l01New.m, spec_l01New⟩
theorem E_spec_l01New : fnOf tys [] Try.f48 H_spec_l01New = T_spec_l01New := by kernel_rfl
theorem K_spec_l01New : SigOk Try.prog 48 T_spec_l01New := (congrArg (SigOk Try.prog 48) E_spec_l01New).mp (fnOf_ok rfl tysOk trivial Try.func48 (by decide) rfl (fun _ h => by cases h) (nilEq_of (by kernel_rfl)))
def spec_l01Byte (x : (D_l01Cur × Unit)) (c : Unit) : (Option (Int × D_l01Cur)) :=
  (Option.bind (shiftI false .i64 (addZ .i64 (mulZ .i64 x.1.2.2.1 6364136223846793005) 1442695040888963407) 33) fun v0 => (Option.bind (shiftI false .i64 (addZ .i64 (mulZ .i64 x.1.2.2.1 6364136223846793005) 1442695040888963407) 45) fun v1 => (Option.bind ((if (ltZ x.1.2.1 (lenI x.1.1)) = true then (Option.bind (getI x.1.1 x.1.2.1) fun v2 => (some (Out.norm ((bitsI .and .i64 (addZ .i64 (bitsI .and .i64 (bitsI .xor .i64 v0 v1) 255) (wrapI .i64 v2)) 255), ((x.1.1, ((addZ .i64 x.1.2.1 1), ((addZ .i64 (mulZ .i64 x.1.2.2.1 6364136223846793005) 1442695040888963407), x.1.2.2.2))), ()))))) else (some (Out.norm ((bitsI .and .i64 (bitsI .xor .i64 v0 v1) 255), ((x.1.1, (x.1.2.1, ((addZ .i64 (mulZ .i64 x.1.2.2.1 6364136223846793005) 1442695040888963407), x.1.2.2.2))), ()))))) : (Option (Out (Int × (D_l01Cur × Unit)) Empty (Int × D_l01Cur)))) fun v3 => (match ((match v3 with | Out.norm v7 => (Out.norm v7) | Out.exit v8 => (Out.exit v8) | Out.ret v9 => (Out.ret v9)) : (Out (Int × (D_l01Cur × Unit)) Empty (Int × D_l01Cur))) with | Out.norm v4 => (some (v4.1, v4.2.1)) | Out.exit v5 => none | Out.ret v6 => (some v6)))))
def H_spec_l01Byte : Hd := ⟨[.ptr (.st [.sl 5 (.int .u8), .int .i64, .int .i64])], [], some 0, (.u (.s .p (.s .p (.s .p .p)))), .int .i64, .p, []⟩
def T_spec_l01Byte : FSig := ⟨H_spec_l01Byte.ps, H_spec_l01Byte.cs, H_spec_l01Byte.io, H_spec_l01Byte.im, H_spec_l01Byte.R, H_spec_l01Byte.m, spec_l01Byte⟩
theorem E_spec_l01Byte : fnOf tys [] Try.f118 H_spec_l01Byte = T_spec_l01Byte := by kernel_rfl
theorem K_spec_l01Byte : SigOk Try.prog 118 T_spec_l01Byte := (congrArg (SigOk Try.prog 118) E_spec_l01Byte).mp (fnOf_ok rfl tysOk trivial Try.func118 (by decide) rfl (fun _ h => by cases h; decide) (nilEq_of (by kernel_rfl)))
def spec_l01Below (x : (D_l01Cur × (Int × Unit))) (c : Unit) : (Option (Int × D_l01Cur)) :=
  (if (leZ x.2.1 0) = true then (some (0, x.1)) else (if (leZ x.2.1 256) = true then (Option.bind (spec_l01Byte (x.1, ()) ()) fun v0 => (Option.bind (remZ v0.1 x.2.1) fun v1 => (some (v1, v0.2)))) else (Option.bind (spec_l01Byte (x.1, ()) ()) fun v2 => (Option.bind (spec_l01Byte (v2.2, ()) ()) fun v3 => (Option.bind (spec_l01Byte (v3.2, ()) ()) fun v4 => (Option.bind (spec_l01Byte (v4.2, ()) ()) fun v5 => (Option.bind (remZ (addZ .i64 (addZ .i64 (addZ .i64 (mulZ .i64 v2.1 16777216) (mulZ .i64 v3.1 65536)) (mulZ .i64 v4.1 256)) v5.1) x.2.1) fun v6 => (some (v6, v5.2)))))))))
def H_spec_l01Below : Hd := ⟨[.ptr (.st [.sl 5 (.int .u8), .int .i64, .int .i64]), .int .i64], [], some 0, (.u (.s .p (.s .p (.s .p .p)))), .int .i64, .p, []⟩
def T_spec_l01Below : FSig := ⟨H_spec_l01Below.ps, H_spec_l01Below.cs, H_spec_l01Below.io, H_spec_l01Below.im, H_spec_l01Below.R, H_spec_l01Below.m, spec_l01Below⟩
def spec_l01Below_G (f118 : (D_l01Cur × Unit) → Unit → Option (Int × D_l01Cur)) (x : (D_l01Cur × (Int × Unit))) (c : Unit) : (Option (Int × D_l01Cur)) :=
  (if (leZ x.2.1 0) = true then (some (0, x.1)) else (if (leZ x.2.1 256) = true then (Option.bind (f118 (x.1, ()) ()) fun v0 => (Option.bind (remZ v0.1 x.2.1) fun v1 => (some (v1, v0.2)))) else (Option.bind (f118 (x.1, ()) ()) fun v2 => (Option.bind (f118 (v2.2, ()) ()) fun v3 => (Option.bind (f118 (v3.2, ()) ()) fun v4 => (Option.bind (f118 (v4.2, ()) ()) fun v5 => (Option.bind (remZ (addZ .i64 (addZ .i64 (addZ .i64 (mulZ .i64 v2.1 16777216) (mulZ .i64 v3.1 65536)) (mulZ .i64 v4.1 256)) v5.1) x.2.1) fun v6 => (some (v6, v5.2)))))))))
theorem E_spec_l01Below_G (f118 : (D_l01Cur × Unit) → Unit → Option (Int × D_l01Cur)) : fnOf tys [(118, ⟨H_spec_l01Byte.ps, H_spec_l01Byte.cs, H_spec_l01Byte.io, H_spec_l01Byte.im, H_spec_l01Byte.R, H_spec_l01Byte.m, f118⟩)] Try.f75 H_spec_l01Below = ⟨H_spec_l01Below.ps, H_spec_l01Below.cs, H_spec_l01Below.io, H_spec_l01Below.im, H_spec_l01Below.R, H_spec_l01Below.m, spec_l01Below_G f118⟩ := by kernel_rfl
theorem E_spec_l01Below : fnOf tys [(118, T_spec_l01Byte)] Try.f75 H_spec_l01Below = T_spec_l01Below := E_spec_l01Below_G spec_l01Byte
theorem K_spec_l01Below : SigOk Try.prog 75 T_spec_l01Below := (congrArg (SigOk Try.prog 75) E_spec_l01Below).mp (fnOf_ok rfl tysOk ⟨K_spec_l01Byte, trivial⟩ Try.func75 (by decide) rfl (fun _ h => by cases h; decide) (nilEq_of (by kernel_rfl)))
def spec_l03Draw_L0 : (Int × ((List D_Step) × (D_l01Cur × Unit))) → Option (Out (Int × ((List D_Step) × (D_l01Cur × Unit))) ((Bool × (Int × ((List D_Step) × (D_l01Cur × Unit)))) ⊕ Empty) ((List D_Step) × D_l01Cur)) :=
  (fun v3 => (if (ltZ 0 v3.1) = true then (Option.bind ((Option.bind (getI v3.2.1 (subZ .i64 (lenI v3.2.1) 1)) fun v4 => (some ())) : (Option Unit)) fun v5 => (Option.bind ((Option.bind (getI v3.2.1 (subZ .i64 (lenI v3.2.1) 1)) fun v6 => (some v6.1)) : (Option Int)) fun v7 => (Option.bind (spec_l01Below (v3.2.2.1, (9, ())) ()) fun v8 => (Option.bind (spec_l01Below (v8.2, (5, ())) ()) fun v9 => (Option.bind (addI v3.2.1 (((addZ .i64 (addZ .i64 v7 1) v8.1), (v9.1, ())) :: [])) fun v10 => (some (Out.norm ((subZ .i64 v3.1 1), (v10, (v9.2, ())))))))))) else (some (Out.exit (Sum.inl ((ltZ 0 v3.1), (v3.1, (v3.2.1, (v3.2.2.1, ())))))))))
def spec_l03Draw (x : (D_l01Cur × Unit)) (c : Unit) : (Option ((List D_Step) × D_l01Cur)) :=
  (Option.bind (spec_l01Below (x.1, (4, ())) ()) fun v0 => (Option.bind (spec_l01Below (v0.2, (6, ())) ()) fun v1 => (Option.bind (quoZ .i64 v1.1 2) fun v2 => (Option.bind (loopN (A := (Int × ((List D_Step) × (D_l01Cur × Unit)))) big spec_l03Draw_L0 (v2, (((0, ((addZ .i64 1 v0.1), ())) :: []), (v1.2, ())))) fun v11 => (match v11 with | Out.norm v12 => none | Out.exit v13 => (match ((match v13 with | Sum.inl v16 => (Sum.inl (v16.2.2.1, (v16.2.2.2.1, ()))) | Sum.inr v17 => (Empty.elim v17)) : (((List D_Step) × (D_l01Cur × Unit)) ⊕ Empty)) with | Sum.inl v14 => (some (v14.1, v14.2.1)) | Sum.inr v15 => none) | Out.ret v18 => (some v18))))))
def H_spec_l03Draw : Hd := ⟨[.ptr (.st [.sl 5 (.int .u8), .int .i64, .int .i64])], [], some 0, (.u (.s .p (.s .p (.s .p .p)))), .sl 139 (.st [.int .i64, .int .i64]), (Ty.all (.sl 139 (.st [.int .i64, .int .i64]))), [(3000000026, .p), (3000000029, .p)]⟩
def T_spec_l03Draw : FSig := ⟨H_spec_l03Draw.ps, H_spec_l03Draw.cs, H_spec_l03Draw.io, H_spec_l03Draw.im, H_spec_l03Draw.R, H_spec_l03Draw.m, spec_l03Draw⟩
theorem E_spec_l03Draw : fnOf tys [(75, T_spec_l01Below)] Try.f99 H_spec_l03Draw = T_spec_l03Draw := by kernel_rfl
theorem K_spec_l03Draw : SigOk Try.prog 99 T_spec_l03Draw := (congrArg (SigOk Try.prog 99) E_spec_l03Draw).mp (fnOf_ok rfl tysOk ⟨K_spec_l01Below, trivial⟩ Try.func99 (by decide) rfl (fun _ h => by cases h; decide) (nilEq_of (by kernel_rfl)))
def spec_l01Once (x : (D_l01Cur × (Int × Unit))) (c : Unit) : (Option (Bool × D_l01Cur)) :=
  (Option.bind (spec_l01Below (x.1, (x.2.1, ())) ()) fun v0 => (some ((eqZ v0.1 0), v0.2)))
def H_spec_l01Once : Hd := ⟨[.ptr (.st [.sl 5 (.int .u8), .int .i64, .int .i64]), .int .i64], [], some 0, (.u (.s .p (.s .p (.s .p .p)))), .bool, .p, []⟩
def T_spec_l01Once : FSig := ⟨H_spec_l01Once.ps, H_spec_l01Once.cs, H_spec_l01Once.io, H_spec_l01Once.im, H_spec_l01Once.R, H_spec_l01Once.m, spec_l01Once⟩
theorem E_spec_l01Once : fnOf tys [(75, T_spec_l01Below)] Try.f100 H_spec_l01Once = T_spec_l01Once := by kernel_rfl
theorem K_spec_l01Once : SigOk Try.prog 100 T_spec_l01Once := (congrArg (SigOk Try.prog 100) E_spec_l01Once).mp (fnOf_ok rfl tysOk ⟨K_spec_l01Below, trivial⟩ Try.func100 (by decide) rfl (fun _ h => by cases h; decide) (nilEq_of (by kernel_rfl)))
def spec_l05Setup_L0 : (Int × ((List (List Int)) × ((List Int) × (Int × (D_l01Cur × Unit))))) → Option (Out (Int × ((List (List Int)) × ((List Int) × (Int × (D_l01Cur × Unit))))) ((Bool × (Int × ((List (List Int)) × ((List Int) × (Int × (D_l01Cur × Unit)))))) ⊕ Empty) ((List (List Int)) × D_l01Cur)) :=
  (fun v1 => (if (ltZ v1.1 4) = true then (Option.bind ((if (notB (eqZ v1.2.2.2.1 v1.1)) = true then (Option.bind (spec_l01Below (v1.2.2.2.2.1, (3, ())) ()) fun v2 => (some (Out.norm (v1.2.2.1, (v2.1, (v1.1, (v1.2.1, (v1.2.2.2.1, (v2.2, ()))))))))) else (some (Out.norm (v1.2.2.1, (0, (v1.1, (v1.2.1, (v1.2.2.2.1, (v1.2.2.2.2.1, ()))))))))) : (Option (Out ((List Int) × (Int × (Int × ((List (List Int)) × (Int × (D_l01Cur × Unit)))))) Empty ((List (List Int)) × D_l01Cur)))) fun v3 => (match ((match v3 with | Out.norm v10 => (Out.norm v10) | Out.exit v11 => (Out.exit v11) | Out.ret v12 => (Out.ret v12)) : (Out ((List Int) × (Int × (Int × ((List (List Int)) × (Int × (D_l01Cur × Unit)))))) Empty ((List (List Int)) × D_l01Cur))) with | Out.norm v4 => (Option.bind (addI v4.1 (v4.2.1 :: [])) fun v5 => (some (Out.norm ((addZ .i64 v4.2.2.1 1), (v4.2.2.2.1, (v5, (v4.2.2.2.2.1, (v4.2.2.2.2.2.1, ())))))))) | Out.exit v6 => (match ((Empty.elim (Empty.elim v6)) : ((Int × ((List (List Int)) × ((List Int) × (Int × (D_l01Cur × Unit))))) ⊕ Empty)) with | Sum.inl v7 => (some (Out.norm ((addZ .i64 v7.1 1), (v7.2.1, (v7.2.2.1, (v7.2.2.2.1, (v7.2.2.2.2.1, ()))))))) | Sum.inr v8 => (some (Out.exit (Sum.inr (Empty.elim v8))))) | Out.ret v9 => (some (Out.ret v9)))) else (some (Out.exit (Sum.inl ((ltZ v1.1 4), (v1.1, (v1.2.1, (v1.2.2.1, (v1.2.2.2.1, (v1.2.2.2.2.1, ())))))))))))
def spec_l05Setup_L1 : (Int × ((List (List Int)) × (D_l01Cur × Unit))) → Option (Out (Int × ((List (List Int)) × (D_l01Cur × Unit))) ((Bool × (Int × ((List (List Int)) × (D_l01Cur × Unit)))) ⊕ Empty) ((List (List Int)) × D_l01Cur)) :=
  (fun v0 => (if (ltZ v0.1 4) = true then (Option.bind (loopN (A := (Int × ((List (List Int)) × ((List Int) × (Int × (D_l01Cur × Unit)))))) big spec_l05Setup_L0 (0, (v0.2.1, ([], (v0.1, (v0.2.2.1, ())))))) fun v13 => (match v13 with | Out.norm v14 => none | Out.exit v15 => (match ((match v15 with | Sum.inl v21 => (Sum.inl (v21.2.2.1, (v21.2.2.2.1, (v21.2.2.2.2.1, (v21.2.2.2.2.2.1, ()))))) | Sum.inr v22 => (Empty.elim v22)) : (((List (List Int)) × ((List Int) × (Int × (D_l01Cur × Unit)))) ⊕ Empty)) with | Sum.inl v16 => (Option.bind (addI v16.1 (v16.2.1 :: [])) fun v17 => (some (Out.norm ((addZ .i64 v16.2.2.1 1), (v17, (v16.2.2.2.1, ())))))) | Sum.inr v18 => (match ((Empty.elim (Empty.elim v18)) : ((Int × ((List (List Int)) × (D_l01Cur × Unit))) ⊕ Empty)) with | Sum.inl v19 => (some (Out.norm ((addZ .i64 v19.1 1), (v19.2.1, (v19.2.2.1, ()))))) | Sum.inr v20 => (some (Out.exit (Sum.inr (Empty.elim v20)))))) | Out.ret v23 => (some (Out.ret v23)))) else (some (Out.exit (Sum.inl ((ltZ v0.1 4), (v0.1, (v0.2.1, (v0.2.2.1, ())))))))))
def spec_l05Setup (x : (D_l01Cur × Unit)) (c : Unit) : (Option ((List (List Int)) × D_l01Cur)) :=
  (Option.bind (loopN (A := (Int × ((List (List Int)) × (D_l01Cur × Unit)))) big spec_l05Setup_L1 (0, ([], (x.1, ())))) fun v24 => (match v24 with | Out.norm v25 => none | Out.exit v26 => (match ((match v26 with | Sum.inl v29 => (Sum.inl (v29.2.2.1, (v29.2.2.2.1, ()))) | Sum.inr v30 => (Empty.elim v30)) : (((List (List Int)) × (D_l01Cur × Unit)) ⊕ Empty)) with | Sum.inl v27 => (some (v27.1, v27.2.1)) | Sum.inr v28 => none) | Out.ret v31 => (some v31)))
def H_spec_l05Setup : Hd := ⟨[.ptr (.st [.sl 5 (.int .u8), .int .i64, .int .i64])], [], some 0, (.u (.s .p (.s .p (.s .p .p)))), .sl 26 (.sl 3 (.int .i64)), (Ty.all (.sl 26 (.sl 3 (.int .i64)))), []⟩
def T_spec_l05Setup : FSig := ⟨H_spec_l05Setup.ps, H_spec_l05Setup.cs, H_spec_l05Setup.io, H_spec_l05Setup.im, H_spec_l05Setup.R, H_spec_l05Setup.m, spec_l05Setup⟩
theorem E_spec_l05Setup : fnOf tys [(75, T_spec_l01Below)] Try.f101 H_spec_l05Setup = T_spec_l05Setup := by kernel_rfl
theorem K_spec_l05Setup : SigOk Try.prog 101 T_spec_l05Setup := (congrArg (SigOk Try.prog 101) E_spec_l05Setup).mp (fnOf_ok rfl tysOk ⟨K_spec_l01Below, trivial⟩ Try.func101 (by decide) rfl (fun _ h => by cases h; decide) (nilEq_of (by kernel_rfl)))
def spec_l04Name (x : (D_l01Cur × (Int × Unit))) (c : Unit) : (Option ((List UInt8) × Unit)) :=
  (Option.bind (remZ x.2.1 6) fun v0 => (Option.bind ((Option.bind (getI (([97] : List UInt8) :: (([98] : List UInt8) :: (([99] : List UInt8) :: (([100] : List UInt8) :: (([101, 49] : List UInt8) :: (([102] : List UInt8) :: [])))))) v0) fun v1 => (some ())) : (Option Unit)) fun v2 => (Option.bind ((Option.bind (getI (([97] : List UInt8) :: (([98] : List UInt8) :: (([99] : List UInt8) :: (([100] : List UInt8) :: (([101, 49] : List UInt8) :: (([102] : List UInt8) :: [])))))) v0) fun v3 => (some v3)) : (Option (List UInt8))) fun v4 => (some (v4, ())))))
def H_spec_l04Name : Hd := ⟨[.ptr (.st [.sl 5 (.int .u8), .int .i64, .int .i64]), .int .i64], [], none, .p, .str, .p, []⟩
def T_spec_l04Name : FSig := ⟨H_spec_l04Name.ps, H_spec_l04Name.cs, H_spec_l04Name.io, H_spec_l04Name.im, H_spec_l04Name.R, H_spec_l04Name.m, spec_l04Name⟩
theorem E_spec_l04Name : fnOf tys [] Try.f130 H_spec_l04Name = T_spec_l04Name := by kernel_rfl
theorem K_spec_l04Name : SigOk Try.prog 130 T_spec_l04Name := (congrArg (SigOk Try.prog 130) E_spec_l04Name).mp (fnOf_ok rfl tysOk trivial Try.func130 (by decide) rfl (fun _ h => by cases h) (nilEq_of (by kernel_rfl)))
def spec_l04Draw_L0 : (D_Mode × (Int × (Int × (Int × (D_Activity × (D_Activity × (D_l01Cur × Unit))))))) → Option (Out (D_Mode × (Int × (Int × (Int × (D_Activity × (D_Activity × (D_l01Cur × Unit))))))) ((Bool × (D_Mode × (Int × (Int × (Int × (D_Activity × (D_Activity × (D_l01Cur × Unit)))))))) ⊕ Empty) (D_Activity × D_l01Cur)) :=
  (fun v7 => (if (ltZ (lenI v7.1.2.1) v7.2.2.1) = true then (Option.bind (spec_l01Below (v7.2.2.2.2.2.2.1, (3, ())) ()) fun v8 => (Option.bind (addI v7.1.2.1 (v8.1 :: [])) fun v9 => (some (Out.norm ((v7.1.1, (v9, v7.1.2.2)), (v7.2.1, (v7.2.2.1, (v7.2.2.2.1, (v7.2.2.2.2.1, (v7.2.2.2.2.2.1, (v8.2, ()))))))))))) else (some (Out.exit (Sum.inl ((ltZ (lenI v7.1.2.1) v7.2.2.1), (v7.1, (v7.2.1, (v7.2.2.1, (v7.2.2.2.1, (v7.2.2.2.2.1, (v7.2.2.2.2.2.1, (v7.2.2.2.2.2.2.1, ())))))))))))))
def spec_l04Draw_L1 : (D_Mode × (Int × (Int × (Int × (D_Activity × (D_Activity × (D_l01Cur × Unit))))))) → Option (Out (D_Mode × (Int × (Int × (Int × (D_Activity × (D_Activity × (D_l01Cur × Unit))))))) ((Bool × (D_Mode × (Int × (Int × (Int × (D_Activity × (D_Activity × (D_l01Cur × Unit)))))))) ⊕ Empty) (D_Activity × D_l01Cur)) :=
  (fun v14 => (if (ltZ (lenI v14.1.2.2.1) v14.2.2.2.1) = true then (Option.bind (spec_l01Below (v14.2.2.2.2.2.2.1, (3, ())) ()) fun v15 => (Option.bind (addI v14.1.2.2.1 (v15.1 :: [])) fun v16 => (some (Out.norm ((v14.1.1, (v14.1.2.1, (v16, v14.1.2.2.2))), (v14.2.1, (v14.2.2.1, (v14.2.2.2.1, (v14.2.2.2.2.1, (v14.2.2.2.2.2.1, (v15.2, ()))))))))))) else (some (Out.exit (Sum.inl ((ltZ (lenI v14.1.2.2.1) v14.2.2.2.1), (v14.1, (v14.2.1, (v14.2.2.1, (v14.2.2.2.1, (v14.2.2.2.2.1, (v14.2.2.2.2.2.1, (v14.2.2.2.2.2.2.1, ())))))))))))))
def spec_l04Draw_L2 : (Int × (Int × (Int × (D_Activity × (D_Activity × (D_l01Cur × Unit)))))) → Option (Out (Int × (Int × (Int × (D_Activity × (D_Activity × (D_l01Cur × Unit)))))) ((Bool × (Int × (Int × (Int × (D_Activity × (D_Activity × (D_l01Cur × Unit))))))) ⊕ Empty) (D_Activity × D_l01Cur)) :=
  (fun v5 => (if (ltZ 0 v5.1) = true then (Option.bind (spec_l01Below (v5.2.2.2.2.2.1, (4, ())) ()) fun v6 => (Option.bind (loopN (A := (D_Mode × (Int × (Int × (Int × (D_Activity × (D_Activity × (D_l01Cur × Unit)))))))) big spec_l04Draw_L0 (((addZ .i64 1 v6.1), ([], ([], ()))), (v5.1, (v5.2.1, (v5.2.2.1, (v5.2.2.2.1, (v5.2.2.2.2.1, (v6.2, ())))))))) fun v10 => (match v10 with | Out.norm v11 => none | Out.exit v12 => (match ((match v12 with | Sum.inl v31 => (Sum.inl (v31.2.1, (v31.2.2.1, (v31.2.2.2.1, (v31.2.2.2.2.1, (v31.2.2.2.2.2.1, (v31.2.2.2.2.2.2.1, (v31.2.2.2.2.2.2.2.1, ())))))))) | Sum.inr v32 => (Empty.elim v32)) : ((D_Mode × (Int × (Int × (Int × (D_Activity × (D_Activity × (D_l01Cur × Unit))))))) ⊕ Empty)) with | Sum.inl v13 => (Option.bind (loopN (A := (D_Mode × (Int × (Int × (Int × (D_Activity × (D_Activity × (D_l01Cur × Unit)))))))) big spec_l04Draw_L1 (v13.1, (v13.2.1, (v13.2.2.1, (v13.2.2.2.1, (v13.2.2.2.2.1, (v13.2.2.2.2.2.1, (v13.2.2.2.2.2.2.1, ())))))))) fun v17 => (match v17 with | Out.norm v18 => none | Out.exit v19 => (match ((match v19 with | Sum.inl v25 => (Sum.inl (v25.2.1, (v25.2.2.1, (v25.2.2.2.1, (v25.2.2.2.2.1, (v25.2.2.2.2.2.1, (v25.2.2.2.2.2.2.1, (v25.2.2.2.2.2.2.2.1, ())))))))) | Sum.inr v26 => (Empty.elim v26)) : ((D_Mode × (Int × (Int × (Int × (D_Activity × (D_Activity × (D_l01Cur × Unit))))))) ⊕ Empty)) with | Sum.inl v20 => (Option.bind (addI v20.2.2.2.2.1.2.2.1 (v20.1 :: [])) fun v21 => (some (Out.norm ((subZ .i64 v20.2.1 1), (v20.2.2.1, (v20.2.2.2.1, ((v20.2.2.2.2.1.1, (v20.2.2.2.2.1.2.1, (v21, v20.2.2.2.2.1.2.2.2))), (v20.2.2.2.2.2.1, (v20.2.2.2.2.2.2.1, ()))))))))) | Sum.inr v22 => (match ((Empty.elim (Empty.elim v22)) : ((Int × (Int × (Int × (D_Activity × (D_Activity × (D_l01Cur × Unit)))))) ⊕ Empty)) with | Sum.inl v23 => (some (Out.norm ((subZ .i64 v23.1 1), (v23.2.1, (v23.2.2.1, (v23.2.2.2.1, (v23.2.2.2.2.1, (v23.2.2.2.2.2.1, ())))))))) | Sum.inr v24 => (some (Out.exit (Sum.inr (Empty.elim v24)))))) | Out.ret v27 => (some (Out.ret v27)))) | Sum.inr v28 => (match ((Empty.elim (Empty.elim v28)) : ((Int × (Int × (Int × (D_Activity × (D_Activity × (D_l01Cur × Unit)))))) ⊕ Empty)) with | Sum.inl v29 => (some (Out.norm ((subZ .i64 v29.1 1), (v29.2.1, (v29.2.2.1, (v29.2.2.2.1, (v29.2.2.2.2.1, (v29.2.2.2.2.2.1, ())))))))) | Sum.inr v30 => (some (Out.exit (Sum.inr (Empty.elim v30)))))) | Out.ret v33 => (some (Out.ret v33))))) else (some (Out.exit (Sum.inl ((ltZ 0 v5.1), (v5.1, (v5.2.1, (v5.2.2.1, (v5.2.2.2.1, (v5.2.2.2.2.1, (v5.2.2.2.2.2.1, ()))))))))))))
def spec_l04Draw (x : (D_l01Cur × D_Literal)) (c : Unit) : (Option (D_Activity × D_l01Cur)) :=
  (Option.bind ((Option.bind (spec_l04Name (x.1, (x.2.1, ())) ()) fun v0 => (some v0.1)) : (Option (List UInt8))) fun v1 => (Option.bind (spec_l01Below (x.1, (2, ())) ()) fun v2 => (Option.bind (spec_l01Below (v2.2, (4, ())) ()) fun v3 => (Option.bind (quoZ .i64 v3.1 2) fun v4 => (Option.bind (loopN (A := (Int × (Int × (Int × (D_Activity × (D_Activity × (D_l01Cur × Unit))))))) big spec_l04Draw_L2 ((addZ .i64 1 v4), (x.2.2.1, (x.2.2.2.1, ((v1, (v2.1, ([], ()))), (([], (0, ([], ()))), (v3.2, ()))))))) fun v34 => (match v34 with | Out.norm v35 => none | Out.exit v36 => (match ((match v36 with | Sum.inl v39 => (Sum.inl (v39.2.2.2.2.1, (v39.2.2.2.2.2.1, (v39.2.2.2.2.2.2.1, ())))) | Sum.inr v40 => (Empty.elim v40)) : ((D_Activity × (D_Activity × (D_l01Cur × Unit))) ⊕ Empty)) with | Sum.inl v37 => (some (v37.1, v37.2.2.1)) | Sum.inr v38 => none) | Out.ret v41 => (some v41)))))))
def H_spec_l04Draw : Hd := ⟨[.ptr (.st [.sl 5 (.int .u8), .int .i64, .int .i64]), .int .i64, .int .i64, .int .i64], [], some 0, (.u (.s .p (.s .p (.s .p .p)))), .st [.str, .int .i64, .sl 37 (.st [.int .i64, .sl 3 (.int .i64), .sl 3 (.int .i64)])], (Ty.all (.st [.str, .int .i64, .sl 37 (.st [.int .i64, .sl 3 (.int .i64), .sl 3 (.int .i64)])])), [(3000000037, .p), (3000000049, .p)]⟩
def T_spec_l04Draw : FSig := ⟨H_spec_l04Draw.ps, H_spec_l04Draw.cs, H_spec_l04Draw.io, H_spec_l04Draw.im, H_spec_l04Draw.R, H_spec_l04Draw.m, spec_l04Draw⟩
theorem E_spec_l04Draw : fnOf tys [(75, T_spec_l01Below), (130, T_spec_l04Name)] Try.f102 H_spec_l04Draw = T_spec_l04Draw := by kernel_rfl
theorem K_spec_l04Draw : SigOk Try.prog 102 T_spec_l04Draw := (congrArg (SigOk Try.prog 102) E_spec_l04Draw).mp (fnOf_ok rfl tysOk ⟨K_spec_l01Below, K_spec_l04Name, trivial⟩ Try.func102 (by decide) rfl (fun _ h => by cases h; decide) (nilEq_of (by kernel_rfl)))
def spec_l05Draw_L0 : (Int × (Int × (D_Project × (D_Project × (D_l01Cur × Unit))))) → Option (Out (Int × (Int × (D_Project × (D_Project × (D_l01Cur × Unit))))) ((Bool × (Int × (Int × (D_Project × (D_Project × (D_l01Cur × Unit)))))) ⊕ Empty) (D_Project × D_l01Cur)) :=
  (fun v3 => (if (ltZ 0 v3.1) = true then (Option.bind (spec_l03Draw (v3.2.2.2.2.1, ()) ()) fun v4 => (Option.bind (spec_l01Once (v4.2, (3, ())) ()) fun v5 => (Option.bind ((if v5.1 = true then (Option.bind (spec_l05Setup (v5.2, ()) ()) fun v6 => (some (Out.norm ((v4.1, (v6.1, ())), (v3.1, (v3.2.1, (v3.2.2.1, (v3.2.2.2.1, (v6.2, ()))))))))) else (some (Out.norm ((v4.1, ([], ())), (v3.1, (v3.2.1, (v3.2.2.1, (v3.2.2.2.1, (v5.2, ()))))))))) : (Option (Out (D_Resource × (Int × (Int × (D_Project × (D_Project × (D_l01Cur × Unit)))))) Empty (D_Project × D_l01Cur)))) fun v7 => (match ((match v7 with | Out.norm v14 => (Out.norm v14) | Out.exit v15 => (Out.exit v15) | Out.ret v16 => (Out.ret v16)) : (Out (D_Resource × (Int × (Int × (D_Project × (D_Project × (D_l01Cur × Unit)))))) Empty (D_Project × D_l01Cur))) with | Out.norm v8 => (Option.bind (addI v8.2.2.2.1.2.2.2.1 (v8.1 :: [])) fun v9 => (some (Out.norm ((subZ .i64 v8.2.1 1), (v8.2.2.1, ((v8.2.2.2.1.1, (v8.2.2.2.1.2.1, (v8.2.2.2.1.2.2.1, (v9, v8.2.2.2.1.2.2.2.2)))), (v8.2.2.2.2.1, (v8.2.2.2.2.2.1, ())))))))) | Out.exit v10 => (match ((Empty.elim (Empty.elim v10)) : ((Int × (Int × (D_Project × (D_Project × (D_l01Cur × Unit))))) ⊕ Empty)) with | Sum.inl v11 => (some (Out.norm ((subZ .i64 v11.1 1), (v11.2.1, (v11.2.2.1, (v11.2.2.2.1, (v11.2.2.2.2.1, ()))))))) | Sum.inr v12 => (some (Out.exit (Sum.inr (Empty.elim v12))))) | Out.ret v13 => (some (Out.ret v13)))))) else (some (Out.exit (Sum.inl ((ltZ 0 v3.1), (v3.1, (v3.2.1, (v3.2.2.1, (v3.2.2.2.1, (v3.2.2.2.2.1, ())))))))))))
def spec_l05Draw_L1 : (Int × (D_Project × (D_Project × (D_l01Cur × Unit)))) → Option (Out (Int × (D_Project × (D_Project × (D_l01Cur × Unit)))) ((Bool × (Int × (D_Project × (D_Project × (D_l01Cur × Unit))))) ⊕ Empty) (D_Project × D_l01Cur)) :=
  (fun v26 => (if (ltZ 0 v26.1) = true then (Option.bind (spec_l04Draw (v26.2.2.2.1, ((lenI v26.2.1.2.1), ((lenI v26.2.1.2.2.2.1), ((lenI v26.2.1.2.2.2.2.1), ())))) ()) fun v27 => (Option.bind (addI v26.2.1.2.1 (v27.1 :: [])) fun v28 => (some (Out.norm ((subZ .i64 v26.1 1), ((v26.2.1.1, (v28, v26.2.1.2.2)), (v26.2.2.1, (v27.2, ())))))))) else (some (Out.exit (Sum.inl ((ltZ 0 v26.1), (v26.1, (v26.2.1, (v26.2.2.1, (v26.2.2.2.1, ()))))))))))
def spec_l05Draw_L2 : (Int × (Int × (D_Project × (D_Project × (D_l01Cur × Unit))))) → Option (Out (Int × (Int × (D_Project × (D_Project × (D_l01Cur × Unit))))) ((Bool × (Int × (Int × (D_Project × (D_Project × (D_l01Cur × Unit)))))) ⊕ Empty) (D_Project × D_l01Cur)) :=
  (fun v34 => (Option.bind ((if (ltZ 0 v34.1) = true then (some ((ltZ 1 v34.2.1), (v34.1, (v34.2.1, (v34.2.2.1, (v34.2.2.2.1, (v34.2.2.2.2.1, ()))))))) else (some (false, (v34.1, (v34.2.1, (v34.2.2.1, (v34.2.2.2.1, (v34.2.2.2.2.1, ())))))))) : (Option (Bool × (Int × (Int × (D_Project × (D_Project × (D_l01Cur × Unit)))))))) fun v35 => (if v35.1 = true then (Option.bind (spec_l01Below (v35.2.2.2.2.2.1, ((subZ .i64 v35.2.2.1 1), ())) ()) fun v36 => (Option.bind (spec_l01Below (v36.2, ((subZ .i64 (subZ .i64 v35.2.2.1 1) v36.1), ())) ()) fun v37 => (Option.bind (spec_l01Once (v37.2, (3, ())) ()) fun v38 => (Option.bind (spec_l01Below (v38.2, (3, ())) ()) fun v39 => (Option.bind (spec_l01Once (v39.2, (6, ())) ()) fun v40 => (Option.bind ((if v40.1 = true then (Option.bind (spec_l01Below (v40.2, (9, ())) ()) fun v41 => (some (Out.norm (((addZ .i64 (addZ .i64 v36.1 1) v37.1), (v36.1, (false, ((subZ .i64 (-4) v41.1), ())))), (v35.2.1, (v35.2.2.1, (v35.2.2.2.1, (v35.2.2.2.2.1, (v41.2, ()))))))))) else (some (Out.norm ((v36.1, ((addZ .i64 (addZ .i64 v36.1 1) v37.1), ((notB v38.1), (v39.1, ())))), (v35.2.1, (v35.2.2.1, (v35.2.2.2.1, (v35.2.2.2.2.1, (v40.2, ()))))))))) : (Option (Out (D_Link × (Int × (Int × (D_Project × (D_Project × (D_l01Cur × Unit)))))) Empty (D_Project × D_l01Cur)))) fun v42 => (match ((match v42 with | Out.norm v49 => (Out.norm v49) | Out.exit v50 => (Out.exit v50) | Out.ret v51 => (Out.ret v51)) : (Out (D_Link × (Int × (Int × (D_Project × (D_Project × (D_l01Cur × Unit)))))) Empty (D_Project × D_l01Cur))) with | Out.norm v43 => (Option.bind (addI v43.2.2.2.1.2.2.1 (v43.1 :: [])) fun v44 => (some (Out.norm ((subZ .i64 v43.2.1 1), (v43.2.2.1, ((v43.2.2.2.1.1, (v43.2.2.2.1.2.1, (v44, v43.2.2.2.1.2.2.2))), (v43.2.2.2.2.1, (v43.2.2.2.2.2.1, ())))))))) | Out.exit v45 => (match ((Empty.elim (Empty.elim v45)) : ((Int × (Int × (D_Project × (D_Project × (D_l01Cur × Unit))))) ⊕ Empty)) with | Sum.inl v46 => (some (Out.norm ((subZ .i64 v46.1 1), (v46.2.1, (v46.2.2.1, (v46.2.2.2.1, (v46.2.2.2.2.1, ()))))))) | Sum.inr v47 => (some (Out.exit (Sum.inr (Empty.elim v47))))) | Out.ret v48 => (some (Out.ret v48))))))))) else (some (Out.exit (Sum.inl v35))))))
def spec_l05Draw (x : (D_l01Cur × (Int × Unit))) (c : Unit) : (Option (D_Project × D_l01Cur)) :=
  (Option.bind (spec_l01Below (x.1, (12, ())) ()) fun v0 => (Option.bind (spec_l01Below (v0.2, (4, ())) ()) fun v1 => (Option.bind (quoZ .i64 v1.1 2) fun v2 => (Option.bind (loopN (A := (Int × (Int × (D_Project × (D_Project × (D_l01Cur × Unit)))))) big spec_l05Draw_L0 ((addZ .i64 1 v2), (x.2.1, (((addZ .i64 12 v0.1), ([], ([], ([], ([], ()))))), ((0, ([], ([], ([], ([], ()))))), (v1.2, ())))))) fun v17 => (match v17 with | Out.norm v18 => none | Out.exit v19 => (match ((match v19 with | Sum.inl v70 => (Sum.inl (v70.2.2.1, (v70.2.2.2.1, (v70.2.2.2.2.1, (v70.2.2.2.2.2.1, ()))))) | Sum.inr v71 => (Empty.elim v71)) : ((Int × (D_Project × (D_Project × (D_l01Cur × Unit)))) ⊕ Empty)) with | Sum.inl v20 => (Option.bind (spec_l01Once (v20.2.2.2.1, (3, ())) ()) fun v21 => (Option.bind ((if v21.1 = true then (Option.bind (spec_l01Below (v21.2, (6, ())) ()) fun v22 => (some (Out.norm (v20.1, ((v20.2.1.1, (v20.2.1.2.1, (v20.2.1.2.2.1, (v20.2.1.2.2.2.1, ((v22.1 :: []), v20.2.1.2.2.2.2.2))))), (v20.2.2.1, (v22.2, ()))))))) else (some (Out.norm (v20.1, (v20.2.1, (v20.2.2.1, (v21.2, ()))))))) : (Option (Out (Int × (D_Project × (D_Project × (D_l01Cur × Unit)))) Empty (D_Project × D_l01Cur)))) fun v23 => (match ((match v23 with | Out.norm v66 => (Out.norm v66) | Out.exit v67 => (Out.exit v67) | Out.ret v68 => (Out.ret v68)) : (Out (Int × (D_Project × (D_Project × (D_l01Cur × Unit)))) Empty (D_Project × D_l01Cur))) with | Out.norm v24 => (Option.bind (spec_l01Below (v24.2.2.2.1, (v24.1, ())) ()) fun v25 => (Option.bind (loopN (A := (Int × (D_Project × (D_Project × (D_l01Cur × Unit))))) big spec_l05Draw_L1 ((addZ .i64 1 v25.1), (v24.2.1, (v24.2.2.1, (v25.2, ()))))) fun v29 => (match v29 with | Out.norm v30 => none | Out.exit v31 => (match ((match v31 with | Sum.inl v61 => (Sum.inl (v61.2.2.1, (v61.2.2.2.1, (v61.2.2.2.2.1, ())))) | Sum.inr v62 => (Empty.elim v62)) : ((D_Project × (D_Project × (D_l01Cur × Unit))) ⊕ Empty)) with | Sum.inl v32 => (Option.bind (spec_l01Below (v32.2.2.1, (4, ())) ()) fun v33 => (Option.bind (loopN (A := (Int × (Int × (D_Project × (D_Project × (D_l01Cur × Unit)))))) big spec_l05Draw_L2 (v33.1, ((lenI v32.1.2.1), (v32.1, (v32.2.1, (v33.2, ())))))) fun v52 => (match v52 with | Out.norm v53 => none | Out.exit v54 => (match ((match v54 with | Sum.inl v57 => (Sum.inl (v57.2.2.2.1, (v57.2.2.2.2.1, (v57.2.2.2.2.2.1, ())))) | Sum.inr v58 => (Empty.elim v58)) : ((D_Project × (D_Project × (D_l01Cur × Unit))) ⊕ Empty)) with | Sum.inl v55 => (some (v55.1, v55.2.2.1)) | Sum.inr v56 => none) | Out.ret v59 => (some v59)))) | Sum.inr v60 => none) | Out.ret v63 => (some v63)))) | Out.exit v64 => none | Out.ret v65 => (some v65)))) | Sum.inr v69 => none) | Out.ret v72 => (some v72))))))
def H_spec_l05Draw : Hd := ⟨[.ptr (.st [.sl 5 (.int .u8), .int .i64, .int .i64]), .int .i64], [], some 0, (.u (.s .p (.s .p (.s .p .p)))), .st [.int .i64, .sl 35 (.st [.str, .int .i64, .sl 37 (.st [.int .i64, .sl 3 (.int .i64), .sl 3 (.int .i64)])]), .sl 94 (.st [.int .i64, .int .i64, .bool, .int .i64]), .sl 44 (.st [.sl 139 (.st [.int .i64, .int .i64]), .sl 26 (.sl 3 (.int .i64))]), .sl 3 (.int .i64)], (Ty.all (.st [.int .i64, .sl 35 (.st [.str, .int .i64, .sl 37 (.st [.int .i64, .sl 3 (.int .i64), .sl 3 (.int .i64)])]), .sl 94 (.st [.int .i64, .int .i64, .bool, .int .i64]), .sl 44 (.st [.sl 139 (.st [.int .i64, .int .i64]), .sl 26 (.sl 3 (.int .i64))]), .sl 3 (.int .i64)])), []⟩
def T_spec_l05Draw : FSig := ⟨H_spec_l05Draw.ps, H_spec_l05Draw.cs, H_spec_l05Draw.io, H_spec_l05Draw.im, H_spec_l05Draw.R, H_spec_l05Draw.m, spec_l05Draw⟩
theorem E_spec_l05Draw : fnOf tys [(75, T_spec_l01Below), (99, T_spec_l03Draw), (100, T_spec_l01Once), (101, T_spec_l05Setup), (102, T_spec_l04Draw)] Try.f49 H_spec_l05Draw = T_spec_l05Draw := by kernel_rfl
theorem K_spec_l05Draw : SigOk Try.prog 49 T_spec_l05Draw := (congrArg (SigOk Try.prog 49) E_spec_l05Draw).mp (fnOf_ok rfl tysOk ⟨K_spec_l01Below, K_spec_l03Draw, K_spec_l01Once, K_spec_l05Setup, K_spec_l04Draw, trivial⟩ Try.func49 (by decide) rfl (fun _ h => by cases h; decide) (nilEq_of (by kernel_rfl)))
def impl_within (x : D_Literal) (c : Unit) : (Option (Bool × Unit)) :=
  (Option.bind ((if (leZ x.2.1 x.1) = true then (some ((leZ x.1 x.2.2.1), ())) else (some (false, ()))) : (Option (Bool × Unit))) fun v0 => (some (v0.1, ())))
def H_impl_within : Hd := ⟨[.int .i64, .int .i64, .int .i64], [], none, .p, .bool, .p, []⟩
def T_impl_within : FSig := ⟨H_impl_within.ps, H_impl_within.cs, H_impl_within.io, H_impl_within.im, H_impl_within.R, H_impl_within.m, impl_within⟩
theorem E_impl_within : fnOf tys [] Try.f61 H_impl_within = T_impl_within := by kernel_rfl
theorem K_impl_within : SigOk Try.prog 61 T_impl_within := (congrArg (SigOk Try.prog 61) E_impl_within).mp (fnOf_ok rfl tysOk trivial Try.func61 (by decide) rfl (fun _ h => by cases h) (nilEq_of (by kernel_rfl)))
def impl_isTime (x : (Int × Unit)) (c : Unit) : (Option (Bool × Unit)) :=
  (Option.bind ((Option.bind (impl_within (x.1, (0, (60, ()))) ()) fun v0 => (some v0.1)) : (Option Bool)) fun v1 => (some (v1, ())))
def H_impl_isTime : Hd := ⟨[.int .i64], [], none, .p, .bool, .p, []⟩
def T_impl_isTime : FSig := ⟨H_impl_isTime.ps, H_impl_isTime.cs, H_impl_isTime.io, H_impl_isTime.im, H_impl_isTime.R, H_impl_isTime.m, impl_isTime⟩
theorem E_impl_isTime : fnOf tys [(61, T_impl_within)] Try.f70 H_impl_isTime = T_impl_isTime := by kernel_rfl
theorem K_impl_isTime : SigOk Try.prog 70 T_impl_isTime := (congrArg (SigOk Try.prog 70) E_impl_isTime).mp (fnOf_ok rfl tysOk ⟨K_impl_within, trivial⟩ Try.func70 (by decide) rfl (fun _ h => by cases h) (nilEq_of (by kernel_rfl)))
def impl_isAmount (x : (Int × Unit)) (c : Unit) : (Option (Bool × Unit)) :=
  (Option.bind ((Option.bind (impl_within (x.1, (0, (20, ()))) ()) fun v0 => (some v0.1)) : (Option Bool)) fun v1 => (some (v1, ())))
def H_impl_isAmount : Hd := ⟨[.int .i64], [], none, .p, .bool, .p, []⟩
def T_impl_isAmount : FSig := ⟨H_impl_isAmount.ps, H_impl_isAmount.cs, H_impl_isAmount.io, H_impl_isAmount.im, H_impl_isAmount.R, H_impl_isAmount.m, impl_isAmount⟩
theorem E_impl_isAmount : fnOf tys [(61, T_impl_within)] Try.f113 H_impl_isAmount = T_impl_isAmount := by kernel_rfl
theorem K_impl_isAmount : SigOk Try.prog 113 T_impl_isAmount := (congrArg (SigOk Try.prog 113) E_impl_isAmount).mp (fnOf_ok rfl tysOk ⟨K_impl_within, trivial⟩ Try.func113 (by decide) rfl (fun _ h => by cases h) (nilEq_of (by kernel_rfl)))
def impl_StepsOk_L0 : (Int × (Int × ((List D_Step) × ((List D_Step) × Unit)))) → Option (Out (Int × (Int × ((List D_Step) × ((List D_Step) × Unit)))) ((Bool × (Int × (Int × ((List D_Step) × ((List D_Step) × Unit))))) ⊕ Empty) (Bool × Unit)) :=
  (fun v0 => (if (ltZ v0.1 v0.2.1) = true then (Option.bind (getI v0.2.2.1 v0.1) fun v1 => (Option.bind ((Option.bind (impl_isTime (v1.1, ()) ()) fun v2 => (some v2.1)) : (Option Bool)) fun v3 => (Option.bind ((if (notB v3) = true then (some (true, (v0.1, (v0.2.1, (v0.2.2.1, (v0.2.2.2.1, ())))))) else (Option.bind ((Option.bind (impl_isAmount (v1.2.1, ()) ()) fun v4 => (some v4.1)) : (Option Bool)) fun v5 => (Option.bind ((if (notB v5) = true then (some (true, (v0.1, (v0.2.1, (v0.2.2.1, (v0.2.2.2.1, ())))))) else (Option.bind ((if (eqZ v0.1 0) = true then (Option.bind ((if (notB (eqZ v1.1 0)) = true then (some (true, (v0.1, (v0.2.1, (v0.2.2.1, (v0.2.2.2.1, ())))))) else (Option.bind ((if (ltZ 0 v0.1) = true then (Option.bind (getI v0.2.2.2.1 (subZ .i64 v0.1 1)) fun v6 => (some ((leZ v1.1 v6.1), (v0.1, (v0.2.1, (v0.2.2.1, (v0.2.2.2.1, ()))))))) else (some (false, (v0.1, (v0.2.1, (v0.2.2.1, (v0.2.2.2.1, ()))))))) : (Option (Bool × (Int × (Int × ((List D_Step) × ((List D_Step) × Unit))))))) fun v7 => (some (v7.1, (v7.2.1, (v7.2.2.1, (v7.2.2.2.1, (v7.2.2.2.2.1, ())))))))) : (Option (Bool × (Int × (Int × ((List D_Step) × ((List D_Step) × Unit))))))) fun v8 => (some (v8.1, (v8.2.1, (v8.2.2.1, (v8.2.2.2.1, (v8.2.2.2.2.1, ()))))))) else (Option.bind ((if (ltZ 0 v0.1) = true then (Option.bind (getI v0.2.2.2.1 (subZ .i64 v0.1 1)) fun v9 => (some ((leZ v1.1 v9.1), (v0.1, (v0.2.1, (v0.2.2.1, (v0.2.2.2.1, ()))))))) else (some (false, (v0.1, (v0.2.1, (v0.2.2.1, (v0.2.2.2.1, ()))))))) : (Option (Bool × (Int × (Int × ((List D_Step) × ((List D_Step) × Unit))))))) fun v10 => (some (v10.1, (v10.2.1, (v10.2.2.1, (v10.2.2.2.1, (v10.2.2.2.2.1, ())))))))) : (Option (Bool × (Int × (Int × ((List D_Step) × ((List D_Step) × Unit))))))) fun v11 => (some (v11.1, (v11.2.1, (v11.2.2.1, (v11.2.2.2.1, (v11.2.2.2.2.1, ())))))))) : (Option (Bool × (Int × (Int × ((List D_Step) × ((List D_Step) × Unit))))))) fun v12 => (some (v12.1, (v12.2.1, (v12.2.2.1, (v12.2.2.2.1, (v12.2.2.2.2.1, ()))))))))) : (Option (Bool × (Int × (Int × ((List D_Step) × ((List D_Step) × Unit))))))) fun v13 => (if v13.1 = true then (some (Out.ret (false, ()))) else (some (Out.norm ((addZ .i64 v13.2.1 1), (v13.2.2.1, (v13.2.2.2.1, (v13.2.2.2.2.1, ())))))))))) else (some (Out.exit (Sum.inl ((ltZ v0.1 v0.2.1), (v0.1, (v0.2.1, (v0.2.2.1, (v0.2.2.2.1, ()))))))))))
def impl_StepsOk (x : ((List D_Step) × Unit)) (c : Unit) : (Option (Bool × Unit)) :=
  (Option.bind (loopN (A := (Int × (Int × ((List D_Step) × ((List D_Step) × Unit))))) big impl_StepsOk_L0 (0, ((lenI x.1), (x.1, (x.1, ()))))) fun v14 => (match v14 with | Out.norm v15 => none | Out.exit v16 => (match ((match v16 with | Sum.inl v21 => (Sum.inl (v21.2.2.2.2.1, ())) | Sum.inr v22 => (Empty.elim v22)) : (((List D_Step) × Unit) ⊕ Empty)) with | Sum.inl v17 => (Option.bind ((Option.bind (impl_within ((lenI v17.1), (1, (8, ()))) ()) fun v18 => (some v18.1)) : (Option Bool)) fun v19 => (some (v19, ()))) | Sum.inr v20 => none) | Out.ret v23 => (some v23)))
def H_impl_StepsOk : Hd := ⟨[.sl 139 (.st [.int .i64, .int .i64])], [], none, .p, .bool, .p, []⟩
def T_impl_StepsOk : FSig := ⟨H_impl_StepsOk.ps, H_impl_StepsOk.cs, H_impl_StepsOk.io, H_impl_StepsOk.im, H_impl_StepsOk.R, H_impl_StepsOk.m, impl_StepsOk⟩
theorem E_impl_StepsOk : fnOf tys [(61, T_impl_within), (70, T_impl_isTime), (113, T_impl_isAmount)] Try.f62 H_impl_StepsOk = T_impl_StepsOk := by kernel_rfl
theorem K_impl_StepsOk : SigOk Try.prog 62 T_impl_StepsOk := (congrArg (SigOk Try.prog 62) E_impl_StepsOk).mp (fnOf_ok rfl tysOk ⟨K_impl_within, K_impl_isTime, K_impl_isAmount, trivial⟩ Try.func62 (by decide) rfl (fun _ h => by cases h) (nilEq_of (by kernel_rfl)))
def impl_ResourceOk_L0 : (Int × (Int × ((List Int) × (Int × (Int × ((List (List Int)) × (D_Resource × Unit))))))) → Option (Out (Int × (Int × ((List Int) × (Int × (Int × ((List (List Int)) × (D_Resource × Unit))))))) ((Bool × (Int × (Int × ((List Int) × (Int × (Int × ((List (List Int)) × (D_Resource × Unit)))))))) ⊕ Empty) (Bool × Unit)) :=
  (fun v2 => (if (ltZ v2.1 v2.2.1) = true then (Option.bind (getI v2.2.2.1 v2.1) fun v3 => (Option.bind ((Option.bind (impl_within (v3, (0, (12, ()))) ()) fun v4 => (some v4.1)) : (Option Bool)) fun v5 => (if (notB v5) = true then (some (Out.ret (false, ()))) else (some (Out.norm ((addZ .i64 v2.1 1), (v2.2.1, (v2.2.2.1, (v2.2.2.2.1, (v2.2.2.2.2.1, (v2.2.2.2.2.2.1, (v2.2.2.2.2.2.2.1, ())))))))))))) else (some (Out.exit (Sum.inl ((ltZ v2.1 v2.2.1), (v2.1, (v2.2.1, (v2.2.2.1, (v2.2.2.2.1, (v2.2.2.2.2.1, (v2.2.2.2.2.2.1, (v2.2.2.2.2.2.2.1, ())))))))))))))
def impl_ResourceOk_L1 : (Int × (Int × ((List (List Int)) × (D_Resource × Unit)))) → Option (Out (Int × (Int × ((List (List Int)) × (D_Resource × Unit)))) ((Bool × (Int × (Int × ((List (List Int)) × (D_Resource × Unit))))) ⊕ Empty) (Bool × Unit)) :=
  (fun v0 => (if (ltZ v0.1 v0.2.1) = true then (Option.bind (getI v0.2.2.1 v0.1) fun v1 => (if (notB (eqZ (lenI v1) 4)) = true then (some (Out.ret (false, ()))) else (Option.bind (loopN (A := (Int × (Int × ((List Int) × (Int × (Int × ((List (List Int)) × (D_Resource × Unit)))))))) big impl_ResourceOk_L0 (0, ((lenI v1), (v1, (v0.1, (v0.2.1, (v0.2.2.1, (v0.2.2.2.1, ())))))))) fun v6 => (match v6 with | Out.norm v7 => none | Out.exit v8 => (match ((match v8 with | Sum.inl v13 => (Sum.inl (v13.2.2.2.2.1, (v13.2.2.2.2.2.1, (v13.2.2.2.2.2.2.1, (v13.2.2.2.2.2.2.2.1, ()))))) | Sum.inr v14 => (Empty.elim v14)) : ((Int × (Int × ((List (List Int)) × (D_Resource × Unit)))) ⊕ Empty)) with | Sum.inl v9 => (some (Out.norm ((addZ .i64 v9.1 1), (v9.2.1, (v9.2.2.1, (v9.2.2.2.1, ())))))) | Sum.inr v10 => (match ((Empty.elim v10) : ((Int × (Int × ((List (List Int)) × (D_Resource × Unit)))) ⊕ Empty)) with | Sum.inl v11 => (some (Out.norm ((addZ .i64 v11.1 1), (v11.2.1, (v11.2.2.1, (v11.2.2.2.1, ())))))) | Sum.inr v12 => (some (Out.exit (Sum.inr (Empty.elim v12)))))) | Out.ret v15 => (some (Out.ret v15)))))) else (some (Out.exit (Sum.inl ((ltZ v0.1 v0.2.1), (v0.1, (v0.2.1, (v0.2.2.1, (v0.2.2.2.1, ()))))))))))
def impl_ResourceOk (x : (D_Resource × Unit)) (c : Unit) : (Option (Bool × Unit)) :=
  (Option.bind (loopN (A := (Int × (Int × ((List (List Int)) × (D_Resource × Unit))))) big impl_ResourceOk_L1 (0, ((lenI x.1.2.1), (x.1.2.1, (x.1, ()))))) fun v16 => (match v16 with | Out.norm v17 => none | Out.exit v18 => (match ((match v18 with | Sum.inl v25 => (Sum.inl (v25.2.2.2.2.1, ())) | Sum.inr v26 => (Empty.elim v26)) : ((D_Resource × Unit) ⊕ Empty)) with | Sum.inl v19 => (Option.bind ((Option.bind (impl_StepsOk (v19.1.1, ()) ()) fun v20 => (some v20.1)) : (Option Bool)) fun v21 => (Option.bind ((if v21 = true then (Option.bind ((if (eqZ (lenI v19.1.2.1) 0) = true then (some (true, ())) else (some ((eqZ (lenI v19.1.2.1) 4), ()))) : (Option (Bool × Unit))) fun v22 => (some (v22.1, ()))) else (some (false, ()))) : (Option (Bool × Unit))) fun v23 => (some (v23.1, ())))) | Sum.inr v24 => none) | Out.ret v27 => (some v27)))
def H_impl_ResourceOk : Hd := ⟨[.st [.sl 139 (.st [.int .i64, .int .i64]), .sl 26 (.sl 3 (.int .i64))]], [], none, .p, .bool, .p, []⟩
def T_impl_ResourceOk : FSig := ⟨H_impl_ResourceOk.ps, H_impl_ResourceOk.cs, H_impl_ResourceOk.io, H_impl_ResourceOk.im, H_impl_ResourceOk.R, H_impl_ResourceOk.m, impl_ResourceOk⟩
theorem E_impl_ResourceOk : fnOf tys [(61, T_impl_within), (62, T_impl_StepsOk)] Try.f13 H_impl_ResourceOk = T_impl_ResourceOk := by kernel_rfl
theorem K_impl_ResourceOk : SigOk Try.prog 13 T_impl_ResourceOk := (congrArg (SigOk Try.prog 13) E_impl_ResourceOk).mp (fnOf_ok rfl tysOk ⟨K_impl_within, K_impl_StepsOk, trivial⟩ Try.func13 (by decide) rfl (fun _ h => by cases h) (nilEq_of (by kernel_rfl)))
def impl_areAmounts_L0 : (Int × (Int × ((List Int) × ((List Int) × (Int × Unit))))) → Option (Out (Int × (Int × ((List Int) × ((List Int) × (Int × Unit))))) ((Bool × (Int × (Int × ((List Int) × ((List Int) × (Int × Unit)))))) ⊕ Empty) (Bool × Unit)) :=
  (fun v0 => (if (ltZ v0.1 v0.2.1) = true then (Option.bind (getI v0.2.2.1 v0.1) fun v1 => (Option.bind ((Option.bind (impl_isAmount (v1, ()) ()) fun v2 => (some v2.1)) : (Option Bool)) fun v3 => (if (notB v3) = true then (some (Out.ret (false, ()))) else (some (Out.norm ((addZ .i64 v0.1 1), (v0.2.1, (v0.2.2.1, (v0.2.2.2.1, (v0.2.2.2.2.1, ())))))))))) else (some (Out.exit (Sum.inl ((ltZ v0.1 v0.2.1), (v0.1, (v0.2.1, (v0.2.2.1, (v0.2.2.2.1, (v0.2.2.2.2.1, ())))))))))))
def impl_areAmounts (x : ((List Int) × (Int × Unit))) (c : Unit) : (Option (Bool × Unit)) :=
  (Option.bind (loopN (A := (Int × (Int × ((List Int) × ((List Int) × (Int × Unit)))))) big impl_areAmounts_L0 (0, ((lenI x.1), (x.1, (x.1, (x.2.1, ())))))) fun v4 => (match v4 with | Out.norm v5 => none | Out.exit v6 => (match ((match v6 with | Sum.inl v9 => (Sum.inl (v9.2.2.2.2.1, (v9.2.2.2.2.2.1, ()))) | Sum.inr v10 => (Empty.elim v10)) : (((List Int) × (Int × Unit)) ⊕ Empty)) with | Sum.inl v7 => (some ((eqZ (lenI v7.1) v7.2.1), ())) | Sum.inr v8 => none) | Out.ret v11 => (some v11)))
def H_impl_areAmounts : Hd := ⟨[.sl 3 (.int .i64), .int .i64], [], none, .p, .bool, .p, []⟩
def T_impl_areAmounts : FSig := ⟨H_impl_areAmounts.ps, H_impl_areAmounts.cs, H_impl_areAmounts.io, H_impl_areAmounts.im, H_impl_areAmounts.R, H_impl_areAmounts.m, impl_areAmounts⟩
theorem E_impl_areAmounts : fnOf tys [(113, T_impl_isAmount)] Try.f147 H_impl_areAmounts = T_impl_areAmounts := by kernel_rfl
theorem K_impl_areAmounts : SigOk Try.prog 147 T_impl_areAmounts := (congrArg (SigOk Try.prog 147) E_impl_areAmounts).mp (fnOf_ok rfl tysOk ⟨K_impl_isAmount, trivial⟩ Try.func147 (by decide) rfl (fun _ h => by cases h) (nilEq_of (by kernel_rfl)))
def impl_ModeOk (x : (D_Mode × D_Step)) (c : Unit) : (Option (Bool × Unit)) :=
  (Option.bind ((Option.bind (impl_within (x.1.1, (1, (12, ()))) ()) fun v0 => (some v0.1)) : (Option Bool)) fun v1 => (Option.bind ((if v1 = true then (Option.bind ((Option.bind (impl_areAmounts (x.1.2.1, (x.2.1, ())) ()) fun v2 => (some v2.1)) : (Option Bool)) fun v3 => (Option.bind ((if v3 = true then (Option.bind ((Option.bind (impl_areAmounts (x.1.2.2.1, (x.2.2.1, ())) ()) fun v4 => (some v4.1)) : (Option Bool)) fun v5 => (some (v5, ()))) else (some (false, ()))) : (Option (Bool × Unit))) fun v6 => (some (v6.1, ())))) else (some (false, ()))) : (Option (Bool × Unit))) fun v7 => (some (v7.1, ()))))
def H_impl_ModeOk : Hd := ⟨[.st [.int .i64, .sl 3 (.int .i64), .sl 3 (.int .i64)], .int .i64, .int .i64], [], none, .p, .bool, .p, []⟩
def T_impl_ModeOk : FSig := ⟨H_impl_ModeOk.ps, H_impl_ModeOk.cs, H_impl_ModeOk.io, H_impl_ModeOk.im, H_impl_ModeOk.R, H_impl_ModeOk.m, impl_ModeOk⟩
theorem E_impl_ModeOk : fnOf tys [(61, T_impl_within), (147, T_impl_areAmounts)] Try.f131 H_impl_ModeOk = T_impl_ModeOk := by kernel_rfl
theorem K_impl_ModeOk : SigOk Try.prog 131 T_impl_ModeOk := (congrArg (SigOk Try.prog 131) E_impl_ModeOk).mp (fnOf_ok rfl tysOk ⟨K_impl_within, K_impl_areAmounts, trivial⟩ Try.func131 (by decide) rfl (fun _ h => by cases h) (nilEq_of (by kernel_rfl)))
def impl_IsName_L0 : (Int × (Int × ((List UInt8) × Unit))) → Option (Out (Int × (Int × ((List UInt8) × Unit))) ((Bool × (Int × (Int × ((List UInt8) × Unit)))) ⊕ Empty) (Bool × Unit)) :=
  (fun v0 => (if (ltZ v0.1 v0.2.1) = true then (Option.bind (byteAt v0.2.2.1 v0.1) fun v1 => (Option.bind ((if (leZ 97 v1) = true then (Option.bind (byteAt v0.2.2.1 v0.1) fun v2 => (some ((leZ v2 122), (v0.1, (v0.1, (v0.2.1, (v0.2.2.1, ()))))))) else (some (false, (v0.1, (v0.1, (v0.2.1, (v0.2.2.1, ()))))))) : (Option (Bool × (Int × (Int × (Int × ((List UInt8) × Unit))))))) fun v3 => (Option.bind ((if (notB v3.1) = true then (Option.bind ((if (eqZ v3.2.1 0) = true then (some (true, (v3.2.2.1, (v3.2.2.2.1, (v3.2.2.2.2.1, ()))))) else (Option.bind (byteAt v3.2.2.2.2.1 v3.2.1) fun v4 => (Option.bind ((if (ltZ v4 48) = true then (some (true, (v3.2.2.1, (v3.2.2.2.1, (v3.2.2.2.2.1, ()))))) else (Option.bind (byteAt v3.2.2.2.2.1 v3.2.1) fun v5 => (some ((ltZ 57 v5), (v3.2.2.1, (v3.2.2.2.1, (v3.2.2.2.2.1, ()))))))) : (Option (Bool × (Int × (Int × ((List UInt8) × Unit)))))) fun v6 => (some (v6.1, (v6.2.1, (v6.2.2.1, (v6.2.2.2.1, ())))))))) : (Option (Bool × (Int × (Int × ((List UInt8) × Unit)))))) fun v7 => (some (v7.1, (v7.2.1, (v7.2.2.1, (v7.2.2.2.1, ())))))) else (some (false, (v3.2.2.1, (v3.2.2.2.1, (v3.2.2.2.2.1, ())))))) : (Option (Bool × (Int × (Int × ((List UInt8) × Unit)))))) fun v8 => (if v8.1 = true then (some (Out.ret (false, ()))) else (some (Out.norm ((addZ .i64 v8.2.1 1), (v8.2.2.1, (v8.2.2.2.1, ()))))))))) else (some (Out.exit (Sum.inl ((ltZ v0.1 v0.2.1), (v0.1, (v0.2.1, (v0.2.2.1, ())))))))))
def impl_IsName (x : ((List UInt8) × Unit)) (c : Unit) : (Option (Bool × Unit)) :=
  (Option.bind (loopN (A := (Int × (Int × ((List UInt8) × Unit)))) big impl_IsName_L0 (0, ((lenI x.1), (x.1, ())))) fun v9 => (match v9 with | Out.norm v10 => none | Out.exit v11 => (match ((match v11 with | Sum.inl v16 => (Sum.inl (v16.2.2.2.1, ())) | Sum.inr v17 => (Empty.elim v17)) : (((List UInt8) × Unit) ⊕ Empty)) with | Sum.inl v12 => (Option.bind ((Option.bind (impl_within ((lenI v12.1), (1, (8, ()))) ()) fun v13 => (some v13.1)) : (Option Bool)) fun v14 => (some (v14, ()))) | Sum.inr v15 => none) | Out.ret v18 => (some v18)))
def H_impl_IsName : Hd := ⟨[.str], [], none, .p, .bool, .p, []⟩
def T_impl_IsName : FSig := ⟨H_impl_IsName.ps, H_impl_IsName.cs, H_impl_IsName.io, H_impl_IsName.im, H_impl_IsName.R, H_impl_IsName.m, impl_IsName⟩
theorem E_impl_IsName : fnOf tys [(61, T_impl_within)] Try.f132 H_impl_IsName = T_impl_IsName := by kernel_rfl
theorem K_impl_IsName : SigOk Try.prog 132 T_impl_IsName := (congrArg (SigOk Try.prog 132) E_impl_IsName).mp (fnOf_ok rfl tysOk ⟨K_impl_within, trivial⟩ Try.func132 (by decide) rfl (fun _ h => by cases h) (nilEq_of (by kernel_rfl)))
def impl_ActivityOk_L0 : (Int × (Int × ((List D_Mode) × (Int × (Int × (D_Activity × Unit)))))) → Option (Out (Int × (Int × ((List D_Mode) × (Int × (Int × (D_Activity × Unit)))))) ((Bool × (Int × (Int × ((List D_Mode) × (Int × (Int × (D_Activity × Unit))))))) ⊕ Empty) (Bool × Unit)) :=
  (fun v0 => (if (ltZ v0.1 v0.2.1) = true then (Option.bind (getI v0.2.2.1 v0.1) fun v1 => (Option.bind ((Option.bind (impl_ModeOk (v1, (v0.2.2.2.1, (v0.2.2.2.2.1, ()))) ()) fun v2 => (some v2.1)) : (Option Bool)) fun v3 => (if (notB v3) = true then (some (Out.ret (false, ()))) else (some (Out.norm ((addZ .i64 v0.1 1), (v0.2.1, (v0.2.2.1, (v0.2.2.2.1, (v0.2.2.2.2.1, (v0.2.2.2.2.2.1, ()))))))))))) else (some (Out.exit (Sum.inl ((ltZ v0.1 v0.2.1), (v0.1, (v0.2.1, (v0.2.2.1, (v0.2.2.2.1, (v0.2.2.2.2.1, (v0.2.2.2.2.2.1, ()))))))))))))
def impl_ActivityOk (x : (D_Activity × D_Step)) (c : Unit) : (Option (Bool × Unit)) :=
  (Option.bind (loopN (A := (Int × (Int × ((List D_Mode) × (Int × (Int × (D_Activity × Unit))))))) big impl_ActivityOk_L0 (0, ((lenI x.1.2.2.1), (x.1.2.2.1, (x.2.1, (x.2.2.1, (x.1, ()))))))) fun v4 => (match v4 with | Out.norm v5 => none | Out.exit v6 => (match ((match v6 with | Sum.inl v17 => (Sum.inl (v17.2.2.2.2.2.2.1, ())) | Sum.inr v18 => (Empty.elim v18)) : ((D_Activity × Unit) ⊕ Empty)) with | Sum.inl v7 => (Option.bind ((Option.bind (impl_IsName (v7.1.1, ()) ()) fun v8 => (some v8.1)) : (Option Bool)) fun v9 => (Option.bind ((if v9 = true then (Option.bind ((Option.bind (impl_within (v7.1.2.1, (0, (3, ()))) ()) fun v10 => (some v10.1)) : (Option Bool)) fun v11 => (Option.bind ((if v11 = true then (Option.bind ((Option.bind (impl_within ((lenI v7.1.2.2.1), (1, (3, ()))) ()) fun v12 => (some v12.1)) : (Option Bool)) fun v13 => (some (v13, ()))) else (some (false, ()))) : (Option (Bool × Unit))) fun v14 => (some (v14.1, ())))) else (some (false, ()))) : (Option (Bool × Unit))) fun v15 => (some (v15.1, ())))) | Sum.inr v16 => none) | Out.ret v19 => (some v19)))
def H_impl_ActivityOk : Hd := ⟨[.st [.str, .int .i64, .sl 37 (.st [.int .i64, .sl 3 (.int .i64), .sl 3 (.int .i64)])], .int .i64, .int .i64], [], none, .p, .bool, .p, []⟩
def T_impl_ActivityOk : FSig := ⟨H_impl_ActivityOk.ps, H_impl_ActivityOk.cs, H_impl_ActivityOk.io, H_impl_ActivityOk.im, H_impl_ActivityOk.R, H_impl_ActivityOk.m, impl_ActivityOk⟩
theorem E_impl_ActivityOk : fnOf tys [(61, T_impl_within), (131, T_impl_ModeOk), (132, T_impl_IsName)] Try.f103 H_impl_ActivityOk = T_impl_ActivityOk := by kernel_rfl
theorem K_impl_ActivityOk : SigOk Try.prog 103 T_impl_ActivityOk := (congrArg (SigOk Try.prog 103) E_impl_ActivityOk).mp (fnOf_ok rfl tysOk ⟨K_impl_within, K_impl_ModeOk, K_impl_IsName, trivial⟩ Try.func103 (by decide) rfl (fun _ h => by cases h) (nilEq_of (by kernel_rfl)))
def slices_IndexFunc_impl_Activity_impl_Activity_L0 : (Int × (Int × (((D_Activity × Unit) → (Option Bool)) × ((List D_Activity) × Unit)))) → Option (Out (Int × (Int × (((D_Activity × Unit) → (Option Bool)) × ((List D_Activity) × Unit)))) ((Bool × (Int × (Int × (((D_Activity × Unit) → (Option Bool)) × ((List D_Activity) × Unit))))) ⊕ Empty) (Int × Unit)) :=
  (fun v0 => (if (ltZ v0.1 v0.2.1) = true then (Option.bind (getI v0.2.2.2.1 v0.1) fun v1 => (Option.bind (v0.2.2.1 (v1, ())) fun v2 => (if v2 = true then (some (Out.ret (v0.1, ()))) else (some (Out.norm ((addZ .i64 v0.1 1), (v0.2.1, (v0.2.2.1, (v0.2.2.2.1, ()))))))))) else (some (Out.exit (Sum.inl ((ltZ v0.1 v0.2.1), (v0.1, (v0.2.1, (v0.2.2.1, (v0.2.2.2.1, ()))))))))))
def slices_IndexFunc_impl_Activity_impl_Activity (x : ((List D_Activity) × (((D_Activity × Unit) → (Option Bool)) × Unit))) (c : Unit) : (Option (Int × Unit)) :=
  (Option.bind (loopN (A := (Int × (Int × (((D_Activity × Unit) → (Option Bool)) × ((List D_Activity) × Unit))))) big slices_IndexFunc_impl_Activity_impl_Activity_L0 (0, ((lenI x.1), (x.2.1, (x.1, ()))))) fun v3 => (match v3 with | Out.norm v4 => none | Out.exit v5 => (match ((match v5 with | Sum.inl v8 => (Sum.inl ()) | Sum.inr v9 => (Empty.elim v9)) : (Unit ⊕ Empty)) with | Sum.inl v6 => (some ((-1), ())) | Sum.inr v7 => none) | Out.ret v10 => (some v10)))
def H_slices_IndexFunc_impl_Activity_impl_Activity : Hd := ⟨[.sl 35 (.st [.str, .int .i64, .sl 37 (.st [.int .i64, .sl 3 (.int .i64), .sl 3 (.int .i64)])]), .fn [.st [.str, .int .i64, .sl 37 (.st [.int .i64, .sl 3 (.int .i64), .sl 3 (.int .i64)])]] (.bool)], [], none, .p, .int .i64, .p, []⟩
def T_slices_IndexFunc_impl_Activity_impl_Activity : FSig := ⟨H_slices_IndexFunc_impl_Activity_impl_Activity.ps, H_slices_IndexFunc_impl_Activity_impl_Activity.cs, H_slices_IndexFunc_impl_Activity_impl_Activity.io, H_slices_IndexFunc_impl_Activity_impl_Activity.im, H_slices_IndexFunc_impl_Activity_impl_Activity.R, H_slices_IndexFunc_impl_Activity_impl_Activity.m, slices_IndexFunc_impl_Activity_impl_Activity⟩
theorem E_slices_IndexFunc_impl_Activity_impl_Activity : fnOf tys [] Try.f133 H_slices_IndexFunc_impl_Activity_impl_Activity = T_slices_IndexFunc_impl_Activity_impl_Activity := by kernel_rfl
theorem K_slices_IndexFunc_impl_Activity_impl_Activity : SigOk Try.prog 133 T_slices_IndexFunc_impl_Activity_impl_Activity := (congrArg (SigOk Try.prog 133) E_slices_IndexFunc_impl_Activity_impl_Activity).mp (fnOf_ok rfl tysOk trivial Try.func133 (by decide) rfl (fun _ h => by cases h) (nilEq_of (by kernel_rfl)))
def impl_ActivityIndex_1 (x : (D_Activity × Unit)) (c : ((List UInt8) × Unit)) : (Option (Bool × Unit)) :=
  (some ((eqS x.1.1 c.1), ()))
def H_impl_ActivityIndex_1 : Hd := ⟨[.st [.str, .int .i64, .sl 37 (.st [.int .i64, .sl 3 (.int .i64), .sl 3 (.int .i64)])]], [.str], none, .p, .bool, .p, []⟩
def T_impl_ActivityIndex_1 : FSig := ⟨H_impl_ActivityIndex_1.ps, H_impl_ActivityIndex_1.cs, H_impl_ActivityIndex_1.io, H_impl_ActivityIndex_1.im, H_impl_ActivityIndex_1.R, H_impl_ActivityIndex_1.m, impl_ActivityIndex_1⟩
theorem E_impl_ActivityIndex_1 : fnOf tys [] Try.f134 H_impl_ActivityIndex_1 = T_impl_ActivityIndex_1 := by kernel_rfl
theorem K_impl_ActivityIndex_1 : SigOk Try.prog 134 T_impl_ActivityIndex_1 := (congrArg (SigOk Try.prog 134) E_impl_ActivityIndex_1).mp (fnOf_ok rfl tysOk trivial Try.func134 (by decide) rfl (fun _ h => by cases h) (nilEq_of (by kernel_rfl)))
def impl_ActivityIndex (x : (D_Project × ((List UInt8) × Unit))) (c : Unit) : (Option (Int × Unit)) :=
  (Option.bind ((Option.bind (slices_IndexFunc_impl_Activity_impl_Activity (x.1.2.1, ((fun v0 => (Option.bind (impl_ActivityIndex_1 v0 (x.2.1, ())) fun v1 => (some v1.1))), ())) ()) fun v2 => (some v2.1)) : (Option Int)) fun v3 => (some (v3, ())))
def H_impl_ActivityIndex : Hd := ⟨[.st [.int .i64, .sl 35 (.st [.str, .int .i64, .sl 37 (.st [.int .i64, .sl 3 (.int .i64), .sl 3 (.int .i64)])]), .sl 94 (.st [.int .i64, .int .i64, .bool, .int .i64]), .sl 44 (.st [.sl 139 (.st [.int .i64, .int .i64]), .sl 26 (.sl 3 (.int .i64))]), .sl 3 (.int .i64)], .str], [], none, .p, .int .i64, .p, []⟩
def T_impl_ActivityIndex : FSig := ⟨H_impl_ActivityIndex.ps, H_impl_ActivityIndex.cs, H_impl_ActivityIndex.io, H_impl_ActivityIndex.im, H_impl_ActivityIndex.R, H_impl_ActivityIndex.m, impl_ActivityIndex⟩
theorem E_impl_ActivityIndex : fnOf tys [(133, T_slices_IndexFunc_impl_Activity_impl_Activity), (134, T_impl_ActivityIndex_1)] Try.f104 H_impl_ActivityIndex = T_impl_ActivityIndex := by kernel_rfl
theorem K_impl_ActivityIndex : SigOk Try.prog 104 T_impl_ActivityIndex := (congrArg (SigOk Try.prog 104) E_impl_ActivityIndex).mp (fnOf_ok rfl tysOk ⟨K_slices_IndexFunc_impl_Activity_impl_Activity, K_impl_ActivityIndex_1, trivial⟩ Try.func104 (by decide) rfl (fun _ h => by cases h) (nilEq_of (by kernel_rfl)))
def slices_IndexFunc_impl_Link_impl_Link_L0 : (Int × (Int × (((D_Link × Unit) → (Option Bool)) × ((List D_Link) × Unit)))) → Option (Out (Int × (Int × (((D_Link × Unit) → (Option Bool)) × ((List D_Link) × Unit)))) ((Bool × (Int × (Int × (((D_Link × Unit) → (Option Bool)) × ((List D_Link) × Unit))))) ⊕ Empty) (Int × Unit)) :=
  (fun v0 => (if (ltZ v0.1 v0.2.1) = true then (Option.bind (getI v0.2.2.2.1 v0.1) fun v1 => (Option.bind (v0.2.2.1 (v1, ())) fun v2 => (if v2 = true then (some (Out.ret (v0.1, ()))) else (some (Out.norm ((addZ .i64 v0.1 1), (v0.2.1, (v0.2.2.1, (v0.2.2.2.1, ()))))))))) else (some (Out.exit (Sum.inl ((ltZ v0.1 v0.2.1), (v0.1, (v0.2.1, (v0.2.2.1, (v0.2.2.2.1, ()))))))))))
def slices_IndexFunc_impl_Link_impl_Link (x : ((List D_Link) × (((D_Link × Unit) → (Option Bool)) × Unit))) (c : Unit) : (Option (Int × Unit)) :=
  (Option.bind (loopN (A := (Int × (Int × (((D_Link × Unit) → (Option Bool)) × ((List D_Link) × Unit))))) big slices_IndexFunc_impl_Link_impl_Link_L0 (0, ((lenI x.1), (x.2.1, (x.1, ()))))) fun v3 => (match v3 with | Out.norm v4 => none | Out.exit v5 => (match ((match v5 with | Sum.inl v8 => (Sum.inl ()) | Sum.inr v9 => (Empty.elim v9)) : (Unit ⊕ Empty)) with | Sum.inl v6 => (some ((-1), ())) | Sum.inr v7 => none) | Out.ret v10 => (some v10)))
def H_slices_IndexFunc_impl_Link_impl_Link : Hd := ⟨[.sl 94 (.st [.int .i64, .int .i64, .bool, .int .i64]), .fn [.st [.int .i64, .int .i64, .bool, .int .i64]] (.bool)], [], none, .p, .int .i64, .p, []⟩
def T_slices_IndexFunc_impl_Link_impl_Link : FSig := ⟨H_slices_IndexFunc_impl_Link_impl_Link.ps, H_slices_IndexFunc_impl_Link_impl_Link.cs, H_slices_IndexFunc_impl_Link_impl_Link.io, H_slices_IndexFunc_impl_Link_impl_Link.im, H_slices_IndexFunc_impl_Link_impl_Link.R, H_slices_IndexFunc_impl_Link_impl_Link.m, slices_IndexFunc_impl_Link_impl_Link⟩
theorem E_slices_IndexFunc_impl_Link_impl_Link : fnOf tys [] Try.f135 H_slices_IndexFunc_impl_Link_impl_Link = T_slices_IndexFunc_impl_Link_impl_Link := by kernel_rfl
theorem K_slices_IndexFunc_impl_Link_impl_Link : SigOk Try.prog 135 T_slices_IndexFunc_impl_Link_impl_Link := (congrArg (SigOk Try.prog 135) E_slices_IndexFunc_impl_Link_impl_Link).mp (fnOf_ok rfl tysOk trivial Try.func135 (by decide) rfl (fun _ h => by cases h) (nilEq_of (by kernel_rfl)))
def slices_ContainsFunc_impl_Link_impl_Link (x : ((List D_Link) × (((D_Link × Unit) → (Option Bool)) × Unit))) (c : Unit) : (Option (Bool × Unit)) :=
  (Option.bind ((Option.bind (slices_IndexFunc_impl_Link_impl_Link (x.1, (x.2.1, ())) ()) fun v0 => (some v0.1)) : (Option Int)) fun v1 => (some ((leZ 0 v1), ())))
def H_slices_ContainsFunc_impl_Link_impl_Link : Hd := ⟨[.sl 94 (.st [.int .i64, .int .i64, .bool, .int .i64]), .fn [.st [.int .i64, .int .i64, .bool, .int .i64]] (.bool)], [], none, .p, .bool, .p, []⟩
def T_slices_ContainsFunc_impl_Link_impl_Link : FSig := ⟨H_slices_ContainsFunc_impl_Link_impl_Link.ps, H_slices_ContainsFunc_impl_Link_impl_Link.cs, H_slices_ContainsFunc_impl_Link_impl_Link.io, H_slices_ContainsFunc_impl_Link_impl_Link.im, H_slices_ContainsFunc_impl_Link_impl_Link.R, H_slices_ContainsFunc_impl_Link_impl_Link.m, slices_ContainsFunc_impl_Link_impl_Link⟩
theorem E_slices_ContainsFunc_impl_Link_impl_Link : fnOf tys [(135, T_slices_IndexFunc_impl_Link_impl_Link)] Try.f105 H_slices_ContainsFunc_impl_Link_impl_Link = T_slices_ContainsFunc_impl_Link_impl_Link := by kernel_rfl
theorem K_slices_ContainsFunc_impl_Link_impl_Link : SigOk Try.prog 105 T_slices_ContainsFunc_impl_Link_impl_Link := (congrArg (SigOk Try.prog 105) E_slices_ContainsFunc_impl_Link_impl_Link).mp (fnOf_ok rfl tysOk ⟨K_slices_IndexFunc_impl_Link_impl_Link, trivial⟩ Try.func105 (by decide) rfl (fun _ h => by cases h) (nilEq_of (by kernel_rfl)))
def impl_Project_hasActivity (x : (D_Project × (Int × Unit))) (c : Unit) : (Option (Bool × Unit)) :=
  (Option.bind ((Option.bind (impl_within (x.2.1, (0, ((subZ .i64 (lenI x.1.2.1) 1), ()))) ()) fun v0 => (some v0.1)) : (Option Bool)) fun v1 => (some (v1, ())))
def H_impl_Project_hasActivity : Hd := ⟨[.st [.int .i64, .sl 35 (.st [.str, .int .i64, .sl 37 (.st [.int .i64, .sl 3 (.int .i64), .sl 3 (.int .i64)])]), .sl 94 (.st [.int .i64, .int .i64, .bool, .int .i64]), .sl 44 (.st [.sl 139 (.st [.int .i64, .int .i64]), .sl 26 (.sl 3 (.int .i64))]), .sl 3 (.int .i64)], .int .i64], [], none, .p, .bool, .p, []⟩
def T_impl_Project_hasActivity : FSig := ⟨H_impl_Project_hasActivity.ps, H_impl_Project_hasActivity.cs, H_impl_Project_hasActivity.io, H_impl_Project_hasActivity.im, H_impl_Project_hasActivity.R, H_impl_Project_hasActivity.m, impl_Project_hasActivity⟩
theorem E_impl_Project_hasActivity : fnOf tys [(61, T_impl_within)] Try.f66 H_impl_Project_hasActivity = T_impl_Project_hasActivity := by kernel_rfl
theorem K_impl_Project_hasActivity : SigOk Try.prog 66 T_impl_Project_hasActivity := (congrArg (SigOk Try.prog 66) E_impl_Project_hasActivity).mp (fnOf_ok rfl tysOk ⟨K_impl_within, trivial⟩ Try.func66 (by decide) rfl (fun _ h => by cases h) (nilEq_of (by kernel_rfl)))
def impl_Project_linkOk (x : (D_Project × (D_Link × Unit))) (c : Unit) : (Option (Bool × Unit)) :=
  (Option.bind ((Option.bind (impl_Project_hasActivity (x.1, (x.2.1.1, ())) ()) fun v0 => (some v0.1)) : (Option Bool)) fun v1 => (Option.bind ((if v1 = true then (Option.bind ((Option.bind (impl_Project_hasActivity (x.1, (x.2.1.2.1, ())) ()) fun v2 => (some v2.1)) : (Option Bool)) fun v3 => (Option.bind ((if v3 = true then (Option.bind ((if (notB (eqZ x.2.1.1 x.2.1.2.1)) = true then (Option.bind ((Option.bind (impl_within (x.2.1.2.2.2.1, ((-60), (60, ()))) ()) fun v4 => (some v4.1)) : (Option Bool)) fun v5 => (some (v5, ()))) else (some (false, ()))) : (Option (Bool × Unit))) fun v6 => (some (v6.1, ()))) else (some (false, ()))) : (Option (Bool × Unit))) fun v7 => (some (v7.1, ())))) else (some (false, ()))) : (Option (Bool × Unit))) fun v8 => (some (v8.1, ()))))
def H_impl_Project_linkOk : Hd := ⟨[.st [.int .i64, .sl 35 (.st [.str, .int .i64, .sl 37 (.st [.int .i64, .sl 3 (.int .i64), .sl 3 (.int .i64)])]), .sl 94 (.st [.int .i64, .int .i64, .bool, .int .i64]), .sl 44 (.st [.sl 139 (.st [.int .i64, .int .i64]), .sl 26 (.sl 3 (.int .i64))]), .sl 3 (.int .i64)], .st [.int .i64, .int .i64, .bool, .int .i64]], [], none, .p, .bool, .p, []⟩
def T_impl_Project_linkOk : FSig := ⟨H_impl_Project_linkOk.ps, H_impl_Project_linkOk.cs, H_impl_Project_linkOk.io, H_impl_Project_linkOk.im, H_impl_Project_linkOk.R, H_impl_Project_linkOk.m, impl_Project_linkOk⟩
theorem E_impl_Project_linkOk : fnOf tys [(61, T_impl_within), (66, T_impl_Project_hasActivity)] Try.f107 H_impl_Project_linkOk = T_impl_Project_linkOk := by kernel_rfl
theorem K_impl_Project_linkOk : SigOk Try.prog 107 T_impl_Project_linkOk := (congrArg (SigOk Try.prog 107) E_impl_Project_linkOk).mp (fnOf_ok rfl tysOk ⟨K_impl_within, K_impl_Project_hasActivity, trivial⟩ Try.func107 (by decide) rfl (fun _ h => by cases h) (nilEq_of (by kernel_rfl)))
def impl_ProjectOk_1 (x : (D_Link × Unit)) (c : (D_Project × Unit)) : (Option (Bool × Unit)) :=
  (Option.bind ((Option.bind (impl_Project_linkOk (c.1, (x.1, ())) ()) fun v0 => (some v0.1)) : (Option Bool)) fun v1 => (some ((notB v1), ())))
def H_impl_ProjectOk_1 : Hd := ⟨[.st [.int .i64, .int .i64, .bool, .int .i64]], [.st [.int .i64, .sl 35 (.st [.str, .int .i64, .sl 37 (.st [.int .i64, .sl 3 (.int .i64), .sl 3 (.int .i64)])]), .sl 94 (.st [.int .i64, .int .i64, .bool, .int .i64]), .sl 44 (.st [.sl 139 (.st [.int .i64, .int .i64]), .sl 26 (.sl 3 (.int .i64))]), .sl 3 (.int .i64)]], none, .p, .bool, .p, []⟩
def T_impl_ProjectOk_1 : FSig := ⟨H_impl_ProjectOk_1.ps, H_impl_ProjectOk_1.cs, H_impl_ProjectOk_1.io, H_impl_ProjectOk_1.im, H_impl_ProjectOk_1.R, H_impl_ProjectOk_1.m, impl_ProjectOk_1⟩
theorem E_impl_ProjectOk_1 : fnOf tys [(107, T_impl_Project_linkOk)] Try.f106 H_impl_ProjectOk_1 = T_impl_ProjectOk_1 := by kernel_rfl
theorem K_impl_ProjectOk_1 : SigOk Try.prog 106 T_impl_ProjectOk_1 := (congrArg (SigOk Try.prog 106) E_impl_ProjectOk_1).mp (fnOf_ok rfl tysOk ⟨K_impl_Project_linkOk, trivial⟩ Try.func106 (by decide) rfl (fun _ h => by cases h) (nilEq_of (by kernel_rfl)))
def impl_ProjectOk_L0 : (Int × (Int × ((List D_Activity) × (D_Project × Unit)))) → Option (Out (Int × (Int × ((List D_Activity) × (D_Project × Unit)))) ((Bool × (Int × (Int × ((List D_Activity) × (D_Project × Unit))))) ⊕ Empty) (Bool × Unit)) :=
  (fun v8 => (if (ltZ v8.1 v8.2.1) = true then (Option.bind (getI v8.2.2.1 v8.1) fun v9 => (Option.bind ((Option.bind (impl_ActivityOk (v9, ((lenI v8.2.2.2.1.2.2.2.1), ((lenI v8.2.2.2.1.2.2.2.2.1), ()))) ()) fun v10 => (some v10.1)) : (Option Bool)) fun v11 => (Option.bind ((if (notB v11) = true then (some (true, (v8.1, (v8.2.1, (v8.2.2.1, (v8.2.2.2.1, ())))))) else (Option.bind ((Option.bind (impl_ActivityIndex (v8.2.2.2.1, (v9.1, ())) ()) fun v12 => (some v12.1)) : (Option Int)) fun v13 => (some ((notB (eqZ v13 v8.1)), (v8.1, (v8.2.1, (v8.2.2.1, (v8.2.2.2.1, ())))))))) : (Option (Bool × (Int × (Int × ((List D_Activity) × (D_Project × Unit))))))) fun v14 => (if v14.1 = true then (some (Out.ret (false, ()))) else (some (Out.norm ((addZ .i64 v14.2.1 1), (v14.2.2.1, (v14.2.2.2.1, (v14.2.2.2.2.1, ())))))))))) else (some (Out.exit (Sum.inl ((ltZ v8.1 v8.2.1), (v8.1, (v8.2.1, (v8.2.2.1, (v8.2.2.2.1, ()))))))))))
def impl_ProjectOk_L1 : (Int × (Int × ((List D_Resource) × (D_Project × Unit)))) → Option (Out (Int × (Int × ((List D_Resource) × (D_Project × Unit)))) ((Bool × (Int × (Int × ((List D_Resource) × (D_Project × Unit))))) ⊕ Empty) (Bool × Unit)) :=
  (fun v19 => (if (ltZ v19.1 v19.2.1) = true then (Option.bind (getI v19.2.2.1 v19.1) fun v20 => (Option.bind ((Option.bind (impl_ResourceOk (v20, ()) ()) fun v21 => (some v21.1)) : (Option Bool)) fun v22 => (if (notB v22) = true then (some (Out.ret (false, ()))) else (some (Out.norm ((addZ .i64 v19.1 1), (v19.2.1, (v19.2.2.1, (v19.2.2.2.1, ()))))))))) else (some (Out.exit (Sum.inl ((ltZ v19.1 v19.2.1), (v19.1, (v19.2.1, (v19.2.2.1, (v19.2.2.2.1, ()))))))))))
def impl_ProjectOk_L2 : (Int × (Int × ((List Int) × (D_Project × Unit)))) → Option (Out (Int × (Int × ((List Int) × (D_Project × Unit)))) ((Bool × (Int × (Int × ((List Int) × (D_Project × Unit))))) ⊕ Empty) (Bool × Unit)) :=
  (fun v27 => (if (ltZ v27.1 v27.2.1) = true then (Option.bind (getI v27.2.2.1 v27.1) fun v28 => (Option.bind ((Option.bind (impl_within (v28, (0, (100, ()))) ()) fun v29 => (some v29.1)) : (Option Bool)) fun v30 => (if (notB v30) = true then (some (Out.ret (false, ()))) else (some (Out.norm ((addZ .i64 v27.1 1), (v27.2.1, (v27.2.2.1, (v27.2.2.2.1, ()))))))))) else (some (Out.exit (Sum.inl ((ltZ v27.1 v27.2.1), (v27.1, (v27.2.1, (v27.2.2.1, (v27.2.2.2.1, ()))))))))))
def impl_ProjectOk (x : (D_Project × Unit)) (c : Unit) : (Option (Bool × Unit)) :=
  (Option.bind ((Option.bind (impl_within (x.1.1, (1, (60, ()))) ()) fun v0 => (some v0.1)) : (Option Bool)) fun v1 => (Option.bind ((if (notB v1) = true then (some (true, (x.1, ()))) else (Option.bind ((Option.bind (impl_within ((lenI x.1.2.1), (1, (6, ()))) ()) fun v2 => (some v2.1)) : (Option Bool)) fun v3 => (Option.bind ((if (notB v3) = true then (some (true, (x.1, ()))) else (Option.bind ((if (ltZ 3 (lenI x.1.2.2.2.1)) = true then (some (true, (x.1, ()))) else (Option.bind ((if (ltZ 2 (lenI x.1.2.2.2.2.1)) = true then (some (true, (x.1, ()))) else (some ((ltZ 12 (lenI x.1.2.2.1)), (x.1, ())))) : (Option (Bool × (D_Project × Unit)))) fun v4 => (some (v4.1, (v4.2.1, ()))))) : (Option (Bool × (D_Project × Unit)))) fun v5 => (some (v5.1, (v5.2.1, ()))))) : (Option (Bool × (D_Project × Unit)))) fun v6 => (some (v6.1, (v6.2.1, ())))))) : (Option (Bool × (D_Project × Unit)))) fun v7 => (if v7.1 = true then (some (false, ())) else (Option.bind (loopN (A := (Int × (Int × ((List D_Activity) × (D_Project × Unit))))) big impl_ProjectOk_L0 (0, ((lenI v7.2.1.2.1), (v7.2.1.2.1, (v7.2.1, ()))))) fun v15 => (match v15 with | Out.norm v16 => none | Out.exit v17 => (match ((match v17 with | Sum.inl v48 => (Sum.inl (v48.2.2.2.2.1, ())) | Sum.inr v49 => (Empty.elim v49)) : ((D_Project × Unit) ⊕ Empty)) with | Sum.inl v18 => (Option.bind (loopN (A := (Int × (Int × ((List D_Resource) × (D_Project × Unit))))) big impl_ProjectOk_L1 (0, ((lenI v18.1.2.2.2.1), (v18.1.2.2.2.1, (v18.1, ()))))) fun v23 => (match v23 with | Out.norm v24 => none | Out.exit v25 => (match ((match v25 with | Sum.inl v44 => (Sum.inl (v44.2.2.2.2.1, ())) | Sum.inr v45 => (Empty.elim v45)) : ((D_Project × Unit) ⊕ Empty)) with | Sum.inl v26 => (Option.bind (loopN (A := (Int × (Int × ((List Int) × (D_Project × Unit))))) big impl_ProjectOk_L2 (0, ((lenI v26.1.2.2.2.2.1), (v26.1.2.2.2.2.1, (v26.1, ()))))) fun v31 => (match v31 with | Out.norm v32 => none | Out.exit v33 => (match ((match v33 with | Sum.inl v40 => (Sum.inl (v40.2.2.2.2.1, ())) | Sum.inr v41 => (Empty.elim v41)) : ((D_Project × Unit) ⊕ Empty)) with | Sum.inl v34 => (Option.bind ((Option.bind (slices_ContainsFunc_impl_Link_impl_Link (v34.1.2.2.1, ((fun v35 => (Option.bind (impl_ProjectOk_1 v35 (v34.1, ())) fun v36 => (some v36.1))), ())) ()) fun v37 => (some v37.1)) : (Option Bool)) fun v38 => (some ((notB v38), ()))) | Sum.inr v39 => none) | Out.ret v42 => (some v42))) | Sum.inr v43 => none) | Out.ret v46 => (some v46))) | Sum.inr v47 => none) | Out.ret v50 => (some v50))))))
def H_impl_ProjectOk : Hd := ⟨[.st [.int .i64, .sl 35 (.st [.str, .int .i64, .sl 37 (.st [.int .i64, .sl 3 (.int .i64), .sl 3 (.int .i64)])]), .sl 94 (.st [.int .i64, .int .i64, .bool, .int .i64]), .sl 44 (.st [.sl 139 (.st [.int .i64, .int .i64]), .sl 26 (.sl 3 (.int .i64))]), .sl 3 (.int .i64)]], [], none, .p, .bool, .p, []⟩
def T_impl_ProjectOk : FSig := ⟨H_impl_ProjectOk.ps, H_impl_ProjectOk.cs, H_impl_ProjectOk.io, H_impl_ProjectOk.im, H_impl_ProjectOk.R, H_impl_ProjectOk.m, impl_ProjectOk⟩
theorem E_impl_ProjectOk : fnOf tys [(13, T_impl_ResourceOk), (61, T_impl_within), (103, T_impl_ActivityOk), (104, T_impl_ActivityIndex), (105, T_slices_ContainsFunc_impl_Link_impl_Link), (106, T_impl_ProjectOk_1)] Try.f50 H_impl_ProjectOk = T_impl_ProjectOk := by kernel_rfl
theorem K_impl_ProjectOk : SigOk Try.prog 50 T_impl_ProjectOk := (congrArg (SigOk Try.prog 50) E_impl_ProjectOk).mp (fnOf_ok rfl tysOk ⟨K_impl_ResourceOk, K_impl_within, K_impl_ActivityOk, K_impl_ActivityIndex, K_slices_ContainsFunc_impl_Link_impl_Link, K_impl_ProjectOk_1, trivial⟩ Try.func50 (by decide) rfl (fun _ h => by cases h) (nilEq_of (by kernel_rfl)))
def impl_Project_hasResource (x : (D_Project × (Int × Unit))) (c : Unit) : (Option (Bool × Unit)) :=
  (Option.bind ((Option.bind (impl_within (x.2.1, (0, ((subZ .i64 (lenI x.1.2.2.2.1) 1), ()))) ()) fun v0 => (some v0.1)) : (Option Bool)) fun v1 => (some (v1, ())))
def H_impl_Project_hasResource : Hd := ⟨[.st [.int .i64, .sl 35 (.st [.str, .int .i64, .sl 37 (.st [.int .i64, .sl 3 (.int .i64), .sl 3 (.int .i64)])]), .sl 94 (.st [.int .i64, .int .i64, .bool, .int .i64]), .sl 44 (.st [.sl 139 (.st [.int .i64, .int .i64]), .sl 26 (.sl 3 (.int .i64))]), .sl 3 (.int .i64)], .int .i64], [], none, .p, .bool, .p, []⟩
def T_impl_Project_hasResource : FSig := ⟨H_impl_Project_hasResource.ps, H_impl_Project_hasResource.cs, H_impl_Project_hasResource.io, H_impl_Project_hasResource.im, H_impl_Project_hasResource.R, H_impl_Project_hasResource.m, impl_Project_hasResource⟩
theorem E_impl_Project_hasResource : fnOf tys [(61, T_impl_within)] Try.f51 H_impl_Project_hasResource = T_impl_Project_hasResource := by kernel_rfl
theorem K_impl_Project_hasResource : SigOk Try.prog 51 T_impl_Project_hasResource := (congrArg (SigOk Try.prog 51) E_impl_Project_hasResource).mp (fnOf_ok rfl tysOk ⟨K_impl_within, trivial⟩ Try.func51 (by decide) rfl (fun _ h => by cases h) (nilEq_of (by kernel_rfl)))
def slices_Clone_int_int (x : ((List Int) × Unit)) (c : Unit) : (Option ((List Int) × Unit)) :=
  (Option.bind (addI [] x.1) fun v0 => (some (v0, ())))
def H_slices_Clone_int_int : Hd := ⟨[.sl 3 (.int .i64)], [], none, .p, .sl 3 (.int .i64), (Ty.all (.sl 3 (.int .i64))), []⟩
def T_slices_Clone_int_int : FSig := ⟨H_slices_Clone_int_int.ps, H_slices_Clone_int_int.cs, H_slices_Clone_int_int.io, H_slices_Clone_int_int.im, H_slices_Clone_int_int.R, H_slices_Clone_int_int.m, slices_Clone_int_int⟩
theorem E_slices_Clone_int_int : fnOf tys [] Try.f91 H_slices_Clone_int_int = T_slices_Clone_int_int := by kernel_rfl
theorem K_slices_Clone_int_int : SigOk Try.prog 91 T_slices_Clone_int_int := (congrArg (SigOk Try.prog 91) E_slices_Clone_int_int).mp (fnOf_ok rfl tysOk trivial Try.func91 (by decide) rfl (fun _ h => by cases h) (nilEq_of (by kernel_rfl)))
def slices_Index_int_int_L0 : (Int × (Int × (Int × ((List Int) × Unit)))) → Option (Out (Int × (Int × (Int × ((List Int) × Unit)))) ((Bool × (Int × (Int × (Int × ((List Int) × Unit))))) ⊕ Empty) (Int × Unit)) :=
  (fun v0 => (if (ltZ v0.1 v0.2.1) = true then (Option.bind (getI v0.2.2.2.1 v0.1) fun v1 => (if (eqZ v0.2.2.1 v1) = true then (some (Out.ret (v0.1, ()))) else (some (Out.norm ((addZ .i64 v0.1 1), (v0.2.1, (v0.2.2.1, (v0.2.2.2.1, ())))))))) else (some (Out.exit (Sum.inl ((ltZ v0.1 v0.2.1), (v0.1, (v0.2.1, (v0.2.2.1, (v0.2.2.2.1, ()))))))))))
def slices_Index_int_int (x : ((List Int) × (Int × Unit))) (c : Unit) : (Option (Int × Unit)) :=
  (Option.bind (loopN (A := (Int × (Int × (Int × ((List Int) × Unit))))) big slices_Index_int_int_L0 (0, ((lenI x.1), (x.2.1, (x.1, ()))))) fun v2 => (match v2 with | Out.norm v3 => none | Out.exit v4 => (match ((match v4 with | Sum.inl v7 => (Sum.inl ()) | Sum.inr v8 => (Empty.elim v8)) : (Unit ⊕ Empty)) with | Sum.inl v5 => (some ((-1), ())) | Sum.inr v6 => none) | Out.ret v9 => (some v9)))
def H_slices_Index_int_int : Hd := ⟨[.sl 3 (.int .i64), .int .i64], [], none, .p, .int .i64, .p, []⟩
def T_slices_Index_int_int : FSig := ⟨H_slices_Index_int_int.ps, H_slices_Index_int_int.cs, H_slices_Index_int_int.io, H_slices_Index_int_int.im, H_slices_Index_int_int.R, H_slices_Index_int_int.m, slices_Index_int_int⟩
theorem E_slices_Index_int_int : fnOf tys [] Try.f111 H_slices_Index_int_int = T_slices_Index_int_int := by kernel_rfl
theorem K_slices_Index_int_int : SigOk Try.prog 111 T_slices_Index_int_int := (congrArg (SigOk Try.prog 111) E_slices_Index_int_int).mp (fnOf_ok rfl tysOk trivial Try.func111 (by decide) rfl (fun _ h => by cases h) (nilEq_of (by kernel_rfl)))
def slices_Contains_int_int (x : ((List Int) × (Int × Unit))) (c : Unit) : (Option (Bool × Unit)) :=
  (Option.bind ((Option.bind (slices_Index_int_int (x.1, (x.2.1, ())) ()) fun v0 => (some v0.1)) : (Option Int)) fun v1 => (some ((leZ 0 v1), ())))
def H_slices_Contains_int_int : Hd := ⟨[.sl 3 (.int .i64), .int .i64], [], none, .p, .bool, .p, []⟩
def T_slices_Contains_int_int : FSig := ⟨H_slices_Contains_int_int.ps, H_slices_Contains_int_int.cs, H_slices_Contains_int_int.io, H_slices_Contains_int_int.im, H_slices_Contains_int_int.R, H_slices_Contains_int_int.m, slices_Contains_int_int⟩
theorem E_slices_Contains_int_int : fnOf tys [(111, T_slices_Index_int_int)] Try.f55 H_slices_Contains_int_int = T_slices_Contains_int_int := by kernel_rfl
theorem K_slices_Contains_int_int : SigOk Try.prog 55 T_slices_Contains_int_int := (congrArg (SigOk Try.prog 55) E_slices_Contains_int_int).mp (fnOf_ok rfl tysOk ⟨K_slices_Index_int_int, trivial⟩ Try.func55 (by decide) rfl (fun _ h => by cases h) (nilEq_of (by kernel_rfl)))
def impl_SetHas (x : ((List Int) × (Int × Unit))) (c : Unit) : (Option (Bool × Unit)) :=
  (Option.bind ((Option.bind (slices_Contains_int_int (x.1, (x.2.1, ())) ()) fun v0 => (some v0.1)) : (Option Bool)) fun v1 => (some (v1, ())))
def H_impl_SetHas : Hd := ⟨[.sl 3 (.int .i64), .int .i64], [], none, .p, .bool, .p, []⟩
def T_impl_SetHas : FSig := ⟨H_impl_SetHas.ps, H_impl_SetHas.cs, H_impl_SetHas.io, H_impl_SetHas.im, H_impl_SetHas.R, H_impl_SetHas.m, impl_SetHas⟩
theorem E_impl_SetHas : fnOf tys [(55, T_slices_Contains_int_int)] Try.f11 H_impl_SetHas = T_impl_SetHas := by kernel_rfl
theorem K_impl_SetHas : SigOk Try.prog 11 T_impl_SetHas := (congrArg (SigOk Try.prog 11) E_impl_SetHas).mp (fnOf_ok rfl tysOk ⟨K_slices_Contains_int_int, trivial⟩ Try.func11 (by decide) rfl (fun _ h => by cases h) (nilEq_of (by kernel_rfl)))
def slices_Equal_int_int_L0 : (Int × D_Mode) → Option (Out (Int × D_Mode) ((Bool × (Int × D_Mode)) ⊕ Empty) (Bool × Unit)) :=
  (fun v0 => (if (ltZ v0.1 v0.2.1) = true then (Option.bind (getI v0.2.2.1 v0.1) fun v1 => (Option.bind (getI v0.2.2.2.1 v0.1) fun v2 => (if (notB (eqZ v1 v2)) = true then (some (Out.ret (false, ()))) else (some (Out.norm ((addZ .i64 v0.1 1), (v0.2.1, (v0.2.2.1, (v0.2.2.2.1, ()))))))))) else (some (Out.exit (Sum.inl ((ltZ v0.1 v0.2.1), (v0.1, (v0.2.1, (v0.2.2.1, (v0.2.2.2.1, ()))))))))))
def slices_Equal_int_int (x : D_Schedule) (c : Unit) : (Option (Bool × Unit)) :=
  (if (notB (eqZ (lenI x.1) (lenI x.2.1))) = true then (some (false, ())) else (Option.bind (loopN (A := (Int × D_Mode)) big slices_Equal_int_int_L0 (0, ((lenI x.1), (x.1, (x.2.1, ()))))) fun v3 => (match v3 with | Out.norm v4 => none | Out.exit v5 => (match ((match v5 with | Sum.inl v8 => (Sum.inl ()) | Sum.inr v9 => (Empty.elim v9)) : (Unit ⊕ Empty)) with | Sum.inl v6 => (some (true, ())) | Sum.inr v7 => none) | Out.ret v10 => (some v10))))
def H_slices_Equal_int_int : Hd := ⟨[.sl 3 (.int .i64), .sl 3 (.int .i64)], [], none, .p, .bool, .p, []⟩
def T_slices_Equal_int_int : FSig := ⟨H_slices_Equal_int_int.ps, H_slices_Equal_int_int.cs, H_slices_Equal_int_int.io, H_slices_Equal_int_int.im, H_slices_Equal_int_int.R, H_slices_Equal_int_int.m, slices_Equal_int_int⟩
theorem E_slices_Equal_int_int : fnOf tys [] Try.f60 H_slices_Equal_int_int = T_slices_Equal_int_int := by kernel_rfl
theorem K_slices_Equal_int_int : SigOk Try.prog 60 T_slices_Equal_int_int := (congrArg (SigOk Try.prog 60) E_slices_Equal_int_int).mp (fnOf_ok rfl tysOk trivial Try.func60 (by decide) rfl (fun _ h => by cases h) (nilEq_of (by kernel_rfl)))
def impl_IsMachine (x : (D_Project × (Int × Unit))) (c : Unit) : (Option (Bool × Unit)) :=
  (Option.bind ((Option.bind (impl_Project_hasResource (x.1, (x.2.1, ())) ()) fun v0 => (some v0.1)) : (Option Bool)) fun v1 => (Option.bind ((if v1 = true then (Option.bind (getI x.1.2.2.2.1 x.2.1) fun v2 => (some ((ltZ 0 (lenI v2.2.1)), ()))) else (some (false, ()))) : (Option (Bool × Unit))) fun v3 => (some (v3.1, ()))))
def H_impl_IsMachine : Hd := ⟨[.st [.int .i64, .sl 35 (.st [.str, .int .i64, .sl 37 (.st [.int .i64, .sl 3 (.int .i64), .sl 3 (.int .i64)])]), .sl 94 (.st [.int .i64, .int .i64, .bool, .int .i64]), .sl 44 (.st [.sl 139 (.st [.int .i64, .int .i64]), .sl 26 (.sl 3 (.int .i64))]), .sl 3 (.int .i64)], .int .i64], [], none, .p, .bool, .p, []⟩
def T_impl_IsMachine : FSig := ⟨H_impl_IsMachine.ps, H_impl_IsMachine.cs, H_impl_IsMachine.io, H_impl_IsMachine.im, H_impl_IsMachine.R, H_impl_IsMachine.m, impl_IsMachine⟩
theorem E_impl_IsMachine : fnOf tys [(51, T_impl_Project_hasResource)] Try.f14 H_impl_IsMachine = T_impl_IsMachine := by kernel_rfl
theorem K_impl_IsMachine : SigOk Try.prog 14 T_impl_IsMachine := (congrArg (SigOk Try.prog 14) E_impl_IsMachine).mp (fnOf_ok rfl tysOk ⟨K_impl_Project_hasResource, trivial⟩ Try.func14 (by decide) rfl (fun _ h => by cases h) (nilEq_of (by kernel_rfl)))
def impl_ScheduleForm_L0 : (Int × (Int × (D_Schedule × (D_Project × Unit)))) → Option (Out (Int × (Int × (D_Schedule × (D_Project × Unit)))) ((Bool × (Int × (Int × (D_Schedule × (D_Project × Unit))))) ⊕ Empty) (Bool × Unit)) :=
  (fun v4 => (if (ltZ v4.1 v4.2.1) = true then (Option.bind (getI v4.2.2.1.1 v4.1) fun v5 => (Option.bind ((Option.bind (impl_isTime (v5, ()) ()) fun v6 => (some v6.1)) : (Option Bool)) fun v7 => (Option.bind ((if (notB v7) = true then (some (true, (v4.1, (v4.2.1, (v4.2.2.1, (v4.2.2.2.1, ())))))) else (Option.bind (getI v4.2.2.1.2.1 v4.1) fun v8 => (Option.bind (getI v4.2.2.2.1.2.1 v4.1) fun v9 => (Option.bind ((Option.bind (impl_within (v8, (0, ((subZ .i64 (lenI v9.2.2.1) 1), ()))) ()) fun v10 => (some v10.1)) : (Option Bool)) fun v11 => (some ((notB v11), (v4.1, (v4.2.1, (v4.2.2.1, (v4.2.2.2.1, ())))))))))) : (Option (Bool × (Int × (Int × (D_Schedule × (D_Project × Unit))))))) fun v12 => (if v12.1 = true then (some (Out.ret (false, ()))) else (some (Out.norm ((addZ .i64 v12.2.1 1), (v12.2.2.1, (v12.2.2.2.1, (v12.2.2.2.2.1, ())))))))))) else (some (Out.exit (Sum.inl ((ltZ v4.1 v4.2.1), (v4.1, (v4.2.1, (v4.2.2.1, (v4.2.2.2.1, ()))))))))))
def impl_ScheduleForm (x : (D_Project × (D_Schedule × Unit))) (c : Unit) : (Option (Bool × Unit)) :=
  (Option.bind ((Option.bind (impl_ProjectOk (x.1, ()) ()) fun v0 => (some v0.1)) : (Option Bool)) fun v1 => (Option.bind ((if (notB v1) = true then (some (true, (x.2.1, (x.1, ())))) else (Option.bind ((if (notB (eqZ (lenI x.2.1.1) (lenI x.1.2.1))) = true then (some (true, (x.2.1, (x.1, ())))) else (some ((notB (eqZ (lenI x.2.1.2.1) (lenI x.1.2.1))), (x.2.1, (x.1, ()))))) : (Option (Bool × (D_Schedule × (D_Project × Unit))))) fun v2 => (some (v2.1, (v2.2.1, (v2.2.2.1, ())))))) : (Option (Bool × (D_Schedule × (D_Project × Unit))))) fun v3 => (if v3.1 = true then (some (false, ())) else (Option.bind (loopN (A := (Int × (Int × (D_Schedule × (D_Project × Unit))))) big impl_ScheduleForm_L0 (0, ((lenI v3.2.2.1.2.1), (v3.2.1, (v3.2.2.1, ()))))) fun v13 => (match v13 with | Out.norm v14 => none | Out.exit v15 => (match ((match v15 with | Sum.inl v18 => (Sum.inl ()) | Sum.inr v19 => (Empty.elim v19)) : (Unit ⊕ Empty)) with | Sum.inl v16 => (some (true, ())) | Sum.inr v17 => none) | Out.ret v20 => (some v20))))))
def H_impl_ScheduleForm : Hd := ⟨[.st [.int .i64, .sl 35 (.st [.str, .int .i64, .sl 37 (.st [.int .i64, .sl 3 (.int .i64), .sl 3 (.int .i64)])]), .sl 94 (.st [.int .i64, .int .i64, .bool, .int .i64]), .sl 44 (.st [.sl 139 (.st [.int .i64, .int .i64]), .sl 26 (.sl 3 (.int .i64))]), .sl 3 (.int .i64)], .st [.sl 3 (.int .i64), .sl 3 (.int .i64)]], [], none, .p, .bool, .p, []⟩
def T_impl_ScheduleForm : FSig := ⟨H_impl_ScheduleForm.ps, H_impl_ScheduleForm.cs, H_impl_ScheduleForm.io, H_impl_ScheduleForm.im, H_impl_ScheduleForm.R, H_impl_ScheduleForm.m, impl_ScheduleForm⟩
theorem E_impl_ScheduleForm : fnOf tys [(50, T_impl_ProjectOk), (61, T_impl_within), (70, T_impl_isTime)] Try.f22 H_impl_ScheduleForm = T_impl_ScheduleForm := by kernel_rfl
theorem K_impl_ScheduleForm : SigOk Try.prog 22 T_impl_ScheduleForm := (congrArg (SigOk Try.prog 22) E_impl_ScheduleForm).mp (fnOf_ok rfl tysOk ⟨K_impl_ProjectOk, K_impl_within, K_impl_isTime, trivial⟩ Try.func22 (by decide) rfl (fun _ h => by cases h) (nilEq_of (by kernel_rfl)))
def impl_Project_mode (x : (D_Project × (D_Schedule × (Int × Unit)))) (c : Unit) : (Option (D_Mode × Unit)) :=
  (Option.bind (getI x.1.2.1 x.2.2.1) fun v0 => (Option.bind (getI x.2.1.2.1 x.2.2.1) fun v1 => (Option.bind (getI v0.2.2.1 v1) fun v2 => (some (v2, ())))))
def H_impl_Project_mode : Hd := ⟨[.st [.int .i64, .sl 35 (.st [.str, .int .i64, .sl 37 (.st [.int .i64, .sl 3 (.int .i64), .sl 3 (.int .i64)])]), .sl 94 (.st [.int .i64, .int .i64, .bool, .int .i64]), .sl 44 (.st [.sl 139 (.st [.int .i64, .int .i64]), .sl 26 (.sl 3 (.int .i64))]), .sl 3 (.int .i64)], .st [.sl 3 (.int .i64), .sl 3 (.int .i64)], .int .i64], [], none, .p, .st [.int .i64, .sl 3 (.int .i64), .sl 3 (.int .i64)], .p, []⟩
def T_impl_Project_mode : FSig := ⟨H_impl_Project_mode.ps, H_impl_Project_mode.cs, H_impl_Project_mode.io, H_impl_Project_mode.im, H_impl_Project_mode.R, H_impl_Project_mode.m, impl_Project_mode⟩
theorem E_impl_Project_mode : fnOf tys [] Try.f73 H_impl_Project_mode = T_impl_Project_mode := by kernel_rfl
theorem K_impl_Project_mode : SigOk Try.prog 73 T_impl_Project_mode := (congrArg (SigOk Try.prog 73) E_impl_Project_mode).mp (fnOf_ok rfl tysOk trivial Try.func73 (by decide) rfl (fun _ h => by cases h) (nilEq_of (by kernel_rfl)))
def impl_Project_end (x : (D_Project × (D_Schedule × (Int × Unit)))) (c : Unit) : (Option (Int × Unit)) :=
  (Option.bind (getI x.2.1.1 x.2.2.1) fun v0 => (Option.bind ((Option.bind (impl_Project_mode (x.1, (x.2.1, (x.2.2.1, ()))) ()) fun v1 => (some v1.1)) : (Option D_Mode)) fun v2 => (some ((addZ .i64 v0 v2.1), ()))))
def H_impl_Project_end : Hd := ⟨[.st [.int .i64, .sl 35 (.st [.str, .int .i64, .sl 37 (.st [.int .i64, .sl 3 (.int .i64), .sl 3 (.int .i64)])]), .sl 94 (.st [.int .i64, .int .i64, .bool, .int .i64]), .sl 44 (.st [.sl 139 (.st [.int .i64, .int .i64]), .sl 26 (.sl 3 (.int .i64))]), .sl 3 (.int .i64)], .st [.sl 3 (.int .i64), .sl 3 (.int .i64)], .int .i64], [], none, .p, .int .i64, .p, []⟩
def T_impl_Project_end : FSig := ⟨H_impl_Project_end.ps, H_impl_Project_end.cs, H_impl_Project_end.io, H_impl_Project_end.im, H_impl_Project_end.R, H_impl_Project_end.m, impl_Project_end⟩
theorem E_impl_Project_end : fnOf tys [(73, T_impl_Project_mode)] Try.f67 H_impl_Project_end = T_impl_Project_end := by kernel_rfl
theorem K_impl_Project_end : SigOk Try.prog 67 T_impl_Project_end := (congrArg (SigOk Try.prog 67) E_impl_Project_end).mp (fnOf_ok rfl tysOk ⟨K_impl_Project_mode, trivial⟩ Try.func67 (by decide) rfl (fun _ h => by cases h) (nilEq_of (by kernel_rfl)))
def impl_Makespan_L0 : (Int × (Int × (D_Project × (D_Schedule × (Int × Unit))))) → Option (Out (Int × (Int × (D_Project × (D_Schedule × (Int × Unit))))) ((Bool × (Int × (Int × (D_Project × (D_Schedule × (Int × Unit)))))) ⊕ Empty) (Int × Unit)) :=
  (fun v2 => (if (ltZ v2.1 v2.2.1) = true then (Option.bind ((Option.bind (impl_Project_end (v2.2.2.1, (v2.2.2.2.1, (v2.1, ()))) ()) fun v3 => (some v3.1)) : (Option Int)) fun v4 => (some (Out.norm ((addZ .i64 v2.1 1), (v2.2.1, (v2.2.2.1, (v2.2.2.2.1, ((maxI v2.2.2.2.2.1 v4), ())))))))) else (some (Out.exit (Sum.inl ((ltZ v2.1 v2.2.1), (v2.1, (v2.2.1, (v2.2.2.1, (v2.2.2.2.1, (v2.2.2.2.2.1, ())))))))))))
def impl_Makespan (x : (D_Project × (D_Schedule × Unit))) (c : Unit) : (Option (Int × Unit)) :=
  (Option.bind ((Option.bind (impl_ScheduleForm (x.1, (x.2.1, ())) ()) fun v0 => (some v0.1)) : (Option Bool)) fun v1 => (if (notB v1) = true then (some ((-1), ())) else (Option.bind (loopN (A := (Int × (Int × (D_Project × (D_Schedule × (Int × Unit)))))) big impl_Makespan_L0 (0, ((lenI x.1.2.1), (x.1, (x.2.1, (0, ())))))) fun v5 => (match v5 with | Out.norm v6 => none | Out.exit v7 => (match ((match v7 with | Sum.inl v10 => (Sum.inl (v10.2.2.2.2.2.1, ())) | Sum.inr v11 => (Empty.elim v11)) : ((Int × Unit) ⊕ Empty)) with | Sum.inl v8 => (some (v8.1, ())) | Sum.inr v9 => none) | Out.ret v12 => (some v12)))))
def H_impl_Makespan : Hd := ⟨[.st [.int .i64, .sl 35 (.st [.str, .int .i64, .sl 37 (.st [.int .i64, .sl 3 (.int .i64), .sl 3 (.int .i64)])]), .sl 94 (.st [.int .i64, .int .i64, .bool, .int .i64]), .sl 44 (.st [.sl 139 (.st [.int .i64, .int .i64]), .sl 26 (.sl 3 (.int .i64))]), .sl 3 (.int .i64)], .st [.sl 3 (.int .i64), .sl 3 (.int .i64)]], [], none, .p, .int .i64, .p, []⟩
def T_impl_Makespan : FSig := ⟨H_impl_Makespan.ps, H_impl_Makespan.cs, H_impl_Makespan.io, H_impl_Makespan.im, H_impl_Makespan.R, H_impl_Makespan.m, impl_Makespan⟩
theorem E_impl_Makespan : fnOf tys [(22, T_impl_ScheduleForm), (67, T_impl_Project_end)] Try.f18 H_impl_Makespan = T_impl_Makespan := by kernel_rfl
theorem K_impl_Makespan : SigOk Try.prog 18 T_impl_Makespan := (congrArg (SigOk Try.prog 18) E_impl_Makespan).mp (fnOf_ok rfl tysOk ⟨K_impl_ScheduleForm, K_impl_Project_end, trivial⟩ Try.func18 (by decide) rfl (fun _ h => by cases h) (nilEq_of (by kernel_rfl)))
def impl_kept_L0 : (Int × (Int × ((List Int) × (((Int × Unit) → (Option Bool)) × ((List Int) × Unit))))) → Option (Out (Int × (Int × ((List Int) × (((Int × Unit) → (Option Bool)) × ((List Int) × Unit))))) ((Bool × (Int × (Int × ((List Int) × (((Int × Unit) → (Option Bool)) × ((List Int) × Unit)))))) ⊕ Empty) ((List Int) × Unit)) :=
  (fun v0 => (if (ltZ v0.1 v0.2.1) = true then (Option.bind (getI v0.2.2.1 v0.1) fun v1 => (Option.bind (v0.2.2.2.1 (v1, ())) fun v2 => (Option.bind ((if v2 = true then (Option.bind (addI v0.2.2.2.2.1 (v1 :: [])) fun v3 => (some (Out.norm (v0.1, (v0.2.1, (v0.2.2.1, (v0.2.2.2.1, (v3, ())))))))) else (some (Out.norm (v0.1, (v0.2.1, (v0.2.2.1, (v0.2.2.2.1, (v0.2.2.2.2.1, ())))))))) : (Option (Out (Int × (Int × ((List Int) × (((Int × Unit) → (Option Bool)) × ((List Int) × Unit))))) Empty ((List Int) × Unit)))) fun v4 => (match ((match ((match v4 with | Out.norm v13 => (Out.norm v13) | Out.exit v14 => (Out.exit v14) | Out.ret v15 => (Out.ret v15)) : (Out (Int × (Int × ((List Int) × (((Int × Unit) → (Option Bool)) × ((List Int) × Unit))))) Empty ((List Int) × Unit))) with | Out.norm v10 => (Out.norm v10) | Out.exit v11 => (Out.exit v11) | Out.ret v12 => (Out.ret v12)) : (Out (Int × (Int × ((List Int) × (((Int × Unit) → (Option Bool)) × ((List Int) × Unit))))) Empty ((List Int) × Unit))) with | Out.norm v5 => (some (Out.norm ((addZ .i64 v5.1 1), (v5.2.1, (v5.2.2.1, (v5.2.2.2.1, (v5.2.2.2.2.1, ()))))))) | Out.exit v6 => (match ((Empty.elim v6) : ((Int × (Int × ((List Int) × (((Int × Unit) → (Option Bool)) × ((List Int) × Unit))))) ⊕ Empty)) with | Sum.inl v7 => (some (Out.norm ((addZ .i64 v7.1 1), (v7.2.1, (v7.2.2.1, (v7.2.2.2.1, (v7.2.2.2.2.1, ()))))))) | Sum.inr v8 => (some (Out.exit (Sum.inr (Empty.elim v8))))) | Out.ret v9 => (some (Out.ret v9)))))) else (some (Out.exit (Sum.inl ((ltZ v0.1 v0.2.1), (v0.1, (v0.2.1, (v0.2.2.1, (v0.2.2.2.1, (v0.2.2.2.2.1, ())))))))))))
def impl_kept (x : ((List Int) × (((Int × Unit) → (Option Bool)) × Unit))) (c : Unit) : (Option ((List Int) × Unit)) :=
  (Option.bind (loopN (A := (Int × (Int × ((List Int) × (((Int × Unit) → (Option Bool)) × ((List Int) × Unit)))))) big impl_kept_L0 (0, ((lenI x.1), (x.1, (x.2.1, ([], ())))))) fun v16 => (match v16 with | Out.norm v17 => none | Out.exit v18 => (match ((match v18 with | Sum.inl v21 => (Sum.inl (v21.2.2.2.2.2.1, ())) | Sum.inr v22 => (Empty.elim v22)) : (((List Int) × Unit) ⊕ Empty)) with | Sum.inl v19 => (some (v19.1, ())) | Sum.inr v20 => none) | Out.ret v23 => (some v23)))
def H_impl_kept : Hd := ⟨[.sl 3 (.int .i64), .fn [.int .i64] (.bool)], [], none, .p, .sl 3 (.int .i64), (Ty.all (.sl 3 (.int .i64))), []⟩
def T_impl_kept : FSig := ⟨H_impl_kept.ps, H_impl_kept.cs, H_impl_kept.io, H_impl_kept.im, H_impl_kept.R, H_impl_kept.m, impl_kept⟩
theorem E_impl_kept : fnOf tys [] Try.f82 H_impl_kept = T_impl_kept := by kernel_rfl
theorem K_impl_kept : SigOk Try.prog 82 T_impl_kept := (congrArg (SigOk Try.prog 82) E_impl_kept).mp (fnOf_ok rfl tysOk trivial Try.func82 (by decide) rfl (fun _ h => by cases h) (nilEq_of (by kernel_rfl)))
def impl_IntRange_L0 : (Int × (Int × ((List Int) × Unit))) → Option (Out (Int × (Int × ((List Int) × Unit))) ((Bool × (Int × (Int × ((List Int) × Unit)))) ⊕ Empty) ((List Int) × Unit)) :=
  (fun v2 => (if (ltZ v2.1 v2.2.1) = true then (Option.bind (addI v2.2.2.1 (v2.1 :: [])) fun v3 => (some (Out.norm ((addZ .i64 v2.1 1), (v2.2.1, (v3, ())))))) else (some (Out.exit (Sum.inl ((ltZ v2.1 v2.2.1), (v2.1, (v2.2.1, (v2.2.2.1, ())))))))))
def impl_IntRange (x : (Int × Unit)) (c : Unit) : (Option ((List Int) × Unit)) :=
  (Option.bind ((Option.bind (impl_within (x.1, (0, (200, ()))) ()) fun v0 => (some v0.1)) : (Option Bool)) fun v1 => (if (notB v1) = true then (some ([], ())) else (Option.bind (loopN (A := (Int × (Int × ((List Int) × Unit)))) big impl_IntRange_L0 (0, (x.1, ([], ())))) fun v4 => (match v4 with | Out.norm v5 => none | Out.exit v6 => (match ((match v6 with | Sum.inl v9 => (Sum.inl (v9.2.2.2.1, ())) | Sum.inr v10 => (Empty.elim v10)) : (((List Int) × Unit) ⊕ Empty)) with | Sum.inl v7 => (some (v7.1, ())) | Sum.inr v8 => none) | Out.ret v11 => (some v11)))))
def H_impl_IntRange : Hd := ⟨[.int .i64], [], none, .p, .sl 3 (.int .i64), (Ty.all (.sl 3 (.int .i64))), []⟩
def T_impl_IntRange : FSig := ⟨H_impl_IntRange.ps, H_impl_IntRange.cs, H_impl_IntRange.io, H_impl_IntRange.im, H_impl_IntRange.R, H_impl_IntRange.m, impl_IntRange⟩
theorem E_impl_IntRange : fnOf tys [(61, T_impl_within)] Try.f114 H_impl_IntRange = T_impl_IntRange := by kernel_rfl
theorem K_impl_IntRange : SigOk Try.prog 114 T_impl_IntRange := (congrArg (SigOk Try.prog 114) E_impl_IntRange).mp (fnOf_ok rfl tysOk ⟨K_impl_within, trivial⟩ Try.func114 (by decide) rfl (fun _ h => by cases h) (nilEq_of (by kernel_rfl)))
def impl_Project_running_1 (x : (Int × Unit)) (c : (D_Schedule × (Int × (D_Project × Unit)))) : (Option (Bool × Unit)) :=
  (Option.bind (getI c.1.1 x.1) fun v0 => (Option.bind ((if (leZ v0 c.2.1) = true then (Option.bind ((Option.bind (impl_Project_end (c.2.2.1, (c.1, (x.1, ()))) ()) fun v1 => (some v1.1)) : (Option Int)) fun v2 => (some ((ltZ c.2.1 v2), ()))) else (some (false, ()))) : (Option (Bool × Unit))) fun v3 => (some (v3.1, ()))))
def H_impl_Project_running_1 : Hd := ⟨[.int .i64], [.st [.sl 3 (.int .i64), .sl 3 (.int .i64)], .int .i64, .st [.int .i64, .sl 35 (.st [.str, .int .i64, .sl 37 (.st [.int .i64, .sl 3 (.int .i64), .sl 3 (.int .i64)])]), .sl 94 (.st [.int .i64, .int .i64, .bool, .int .i64]), .sl 44 (.st [.sl 139 (.st [.int .i64, .int .i64]), .sl 26 (.sl 3 (.int .i64))]), .sl 3 (.int .i64)]], none, .p, .bool, .p, []⟩
def T_impl_Project_running_1 : FSig := ⟨H_impl_Project_running_1.ps, H_impl_Project_running_1.cs, H_impl_Project_running_1.io, H_impl_Project_running_1.im, H_impl_Project_running_1.R, H_impl_Project_running_1.m, impl_Project_running_1⟩
theorem E_impl_Project_running_1 : fnOf tys [(67, T_impl_Project_end)] Try.f115 H_impl_Project_running_1 = T_impl_Project_running_1 := by kernel_rfl
theorem K_impl_Project_running_1 : SigOk Try.prog 115 T_impl_Project_running_1 := (congrArg (SigOk Try.prog 115) E_impl_Project_running_1).mp (fnOf_ok rfl tysOk ⟨K_impl_Project_end, trivial⟩ Try.func115 (by decide) rfl (fun _ h => by cases h) (nilEq_of (by kernel_rfl)))
end Go.Proofs.Ytmbknefcilojkaa