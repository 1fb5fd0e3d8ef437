/-
  The functions of this seat as plain Lean functions, and that the program computes them. No condition.
-/
import Derived.Test.YtbkefganebmlnaaGreatDoorN37
import Derived.Test.YtbkefganebmlnaaGreatDoorp3X
import Derived.Test.YtbkefganebmlnaaGreatDoorProg
import Derived.KernelRfl
namespace Go.Proofs.YtbkefganebmlnaaGreatDoor
open Go.Abs
set_option linter.unusedVariables false
set_option maxRecDepth 100000
abbrev D_Mode : Type := (Int × ((List Int) × ((List Int) × Unit)))
abbrev D_Activity : Type := ((List UInt8) × (Int × ((List D_Mode) × Unit)))
abbrev D_Link : Type := (Int × (Int × (Bool × (Int × Unit))))
abbrev D_Step : Type := (Int × (Int × Unit))
abbrev D_Resource : Type := ((List D_Step) × ((List (List Int)) × Unit))
abbrev D_Project : Type := (Int × ((List D_Activity) × ((List D_Link) × ((List D_Resource) × ((List Int) × Unit)))))
abbrev D_Delay : Type := (Int × (Int × D_Step))
theorem tn3 : TnOk Tryz.prog 3 (.int .i64) := ⟨Tryz.underlying3, fun _ h => (by cases h), Tryz.t3, rfl, rfl, fun _ _ => rfl⟩
theorem tn4 : TnOk Tryz.prog 4 (.bool) := ⟨Tryz.underlying4, fun _ h => (by cases h), Tryz.t4, rfl, rfl, fun _ _ => rfl⟩
theorem tn5 : TnOk Tryz.prog 5 (.int .u8) := ⟨Tryz.underlying5, fun _ h => (by cases h), Tryz.t5, rfl, rfl, fun _ _ => rfl⟩
theorem tn9 : TnOk Tryz.prog 9 (.str) := ⟨Tryz.underlying9, fun _ h => (by cases h), Tryz.t9, rfl, rfl, fun _ _ => rfl⟩
theorem tn22 : TnOk Tryz.prog 22 (.sl 173 (.st [.str, .int .i64, .sl 263 (.st [.int .i64, .sl 3 (.int .i64), .sl 3 (.int .i64)])])) := ⟨⟨Tryz.underlying22, Tryz.t173, _, rfl, rfl, rfl, rfl, by decide, by decide, fun _ _ => rfl, fun k h => by cases h⟩, fun _ h => (by cases h), Tryz.t22, rfl, rfl, fun _ _ => rfl⟩
theorem tn23 : TnOk Tryz.prog 23 (.sl 181 (.st [.int .i64, .int .i64, .bool, .int .i64])) := ⟨⟨Tryz.underlying23, Tryz.t181, _, rfl, rfl, rfl, rfl, by decide, by decide, fun _ _ => rfl, fun k h => by cases h⟩, fun _ h => (by cases h), Tryz.t23, rfl, rfl, fun _ _ => rfl⟩
theorem tn24 : TnOk Tryz.prog 24 (.sl 177 (.st [.sl 266 (.st [.int .i64, .int .i64]), .sl 25 (.sl 3 (.int .i64))])) := ⟨⟨Tryz.underlying24, Tryz.t177, _, rfl, rfl, rfl, rfl, by decide, by decide, fun _ _ => rfl, fun k h => by cases h⟩, fun _ h => (by cases h), Tryz.t24, rfl, rfl, fun _ _ => rfl⟩
theorem tn25 : TnOk Tryz.prog 25 (.sl 3 (.int .i64)) := ⟨⟨Tryz.underlying25, Tryz.t3, _, rfl, rfl, rfl, rfl, by decide, by decide, fun _ _ => rfl, fun k h => by cases h; exact Tryz.underlying3⟩, fun _ h => (by cases h), Tryz.t25, rfl, rfl, fun _ _ => rfl⟩
theorem tn26 : TnOk Tryz.prog 26 (.st [.int .i64, .sl 173 (.st [.str, .int .i64, .sl 263 (.st [.int .i64, .sl 3 (.int .i64), .sl 3 (.int .i64)])]), .sl 181 (.st [.int .i64, .int .i64, .bool, .int .i64]), .sl 177 (.st [.sl 266 (.st [.int .i64, .int .i64]), .sl 25 (.sl 3 (.int .i64))]), .sl 3 (.int .i64)]) := ⟨⟨_, Tryz.underlying26, Tryz.eqGuardType26, Tryz.stoodInHeld26, rfl, fun j τ h => by
    cases j with
    | zero => cases h; exact ⟨_, _, rfl, rfl, by decide, by decide, Tryz.underlying3, rfl, fun us h => by cases h⟩
    | succ j =>
     cases j with
     | zero => cases h; exact ⟨_, _, rfl, rfl, by decide, by decide, Tryz.underlying22, rfl, fun us h => by cases h⟩
     | succ j =>
      cases j with
      | zero => cases h; exact ⟨_, _, rfl, rfl, by decide, by decide, Tryz.underlying23, rfl, fun us h => by cases h⟩
      | succ j =>
       cases j with
       | zero => cases h; exact ⟨_, _, rfl, rfl, by decide, by decide, Tryz.underlying24, rfl, fun us h => by cases h⟩
       | succ j =>
        cases j with
        | zero => cases h; exact ⟨_, _, rfl, rfl, by decide, by decide, Tryz.underlying25, rfl, fun us h => by cases h⟩
        | succ j =>
         cases h⟩, (fun us hus fs hfs j τ h f hf => by
    cases hus
    rw [Tryz.underlying26] at hfs
    cases hfs
    cases j with
    | zero => cases h; cases hf; exact ⟨fun k e => by cases e; exact Tryz.underlying3, fun e => (by cases e), fun e => (by cases e)⟩
    | succ j =>
     cases j with
     | zero => cases h; cases hf; exact ⟨fun k e => (by cases e), fun e => (by cases e), fun e => (by cases e)⟩
     | succ j =>
      cases j with
      | zero => cases h; cases hf; exact ⟨fun k e => (by cases e), fun e => (by cases e), fun e => (by cases e)⟩
      | succ j =>
       cases j with
       | zero => cases h; cases hf; exact ⟨fun k e => (by cases e), fun e => (by cases e), fun e => (by cases e)⟩
       | succ j =>
        cases j with
        | zero => cases h; cases hf; exact ⟨fun k e => (by cases e), fun e => (by cases e), fun e => (by cases e)⟩
        | succ j =>
         cases h), Tryz.t26, rfl, rfl, fun _ _ => rfl⟩
theorem tn27 : TnOk Tryz.prog 27 (.st [.int .i64, .sl 173 (.st [.str, .int .i64, .sl 263 (.st [.int .i64, .sl 3 (.int .i64), .sl 3 (.int .i64)])]), .sl 181 (.st [.int .i64, .int .i64, .bool, .int .i64]), .sl 177 (.st [.sl 266 (.st [.int .i64, .int .i64]), .sl 25 (.sl 3 (.int .i64))]), .sl 3 (.int .i64)]) := ⟨⟨_, Tryz.underlying27, Tryz.eqGuardType27, Tryz.stoodInHeld27, rfl, fun j τ h => by
    cases j with
    | zero => cases h; exact ⟨_, _, rfl, rfl, by decide, by decide, Tryz.underlying3, rfl, fun us h => by cases h⟩
    | succ j =>
     cases j with
     | zero => cases h; exact ⟨_, _, rfl, rfl, by decide, by decide, Tryz.underlying22, rfl, fun us h => by cases h⟩
     | succ j =>
      cases j with
      | zero => cases h; exact ⟨_, _, rfl, rfl, by decide, by decide, Tryz.underlying23, rfl, fun us h => by cases h⟩
      | succ j =>
       cases j with
       | zero => cases h; exact ⟨_, _, rfl, rfl, by decide, by decide, Tryz.underlying24, rfl, fun us h => by cases h⟩
       | succ j =>
        cases j with
        | zero => cases h; exact ⟨_, _, rfl, rfl, by decide, by decide, Tryz.underlying25, rfl, fun us h => by cases h⟩
        | succ j =>
         cases h⟩, (fun us hus fs hfs j τ h f hf => by
    cases hus
    rw [Tryz.underlying27] at hfs
    cases hfs
    cases j with
    | zero => cases h; cases hf; exact ⟨fun k e => by cases e; exact Tryz.underlying3, fun e => (by cases e), fun e => (by cases e)⟩
    | succ j =>
     cases j with
     | zero => cases h; cases hf; exact ⟨fun k e => (by cases e), fun e => (by cases e), fun e => (by cases e)⟩
     | succ j =>
      cases j with
      | zero => cases h; cases hf; exact ⟨fun k e => (by cases e), fun e => (by cases e), fun e => (by cases e)⟩
      | succ j =>
       cases j with
       | zero => cases h; cases hf; exact ⟨fun k e => (by cases e), fun e => (by cases e), fun e => (by cases e)⟩
       | succ j =>
        cases j with
        | zero => cases h; cases hf; exact ⟨fun k e => (by cases e), fun e => (by cases e), fun e => (by cases e)⟩
        | succ j =>
         cases h), Tryz.t27, rfl, rfl, fun _ _ => rfl⟩
theorem tn28 : TnOk Tryz.prog 28 (.fn [.st [.int .i64, .sl 173 (.st [.str, .int .i64, .sl 263 (.st [.int .i64, .sl 3 (.int .i64), .sl 3 (.int .i64)])]), .sl 181 (.st [.int .i64, .int .i64, .bool, .int .i64]), .sl 177 (.st [.sl 266 (.st [.int .i64, .int .i64]), .sl 25 (.sl 3 (.int .i64))]), .sl 3 (.int .i64)], .int .i64] (.int .i64)) := ⟨⟨_, _, _, Tryz.underlying28⟩, fun _ h => (by cases h), Tryz.t28, rfl, rfl, fun _ h => by cases h⟩
theorem tn29 : TnOk Tryz.prog 29 (.st [.int .i64, .int .i64, .int .i64, .int .i64]) := ⟨⟨_, Tryz.underlying29, Tryz.eqGuardType29, Tryz.stoodInHeld29, rfl, fun j τ h => by
    cases j with
    | zero => cases h; exact ⟨_, _, rfl, rfl, by decide, by decide, Tryz.underlying3, rfl, fun us h => by cases h⟩
    | succ j =>
     cases j with
     | zero => cases h; exact ⟨_, _, rfl, rfl, by decide, by decide, Tryz.underlying3, rfl, fun us h => by cases h⟩
     | succ j =>
      cases j with
      | zero => cases h; exact ⟨_, _, rfl, rfl, by decide, by decide, Tryz.underlying3, rfl, fun us h => by cases h⟩
      | succ j =>
       cases j with
       | zero => cases h; exact ⟨_, _, rfl, rfl, by decide, by decide, Tryz.underlying3, rfl, fun us h => by cases h⟩
       | succ j =>
        cases h⟩, (fun us hus fs hfs j τ h f hf => by
    cases hus
    rw [Tryz.underlying29] at hfs
    cases hfs
    cases j with
    | zero => cases h; cases hf; exact ⟨fun k e => by cases e; exact Tryz.underlying3, fun e => (by cases e), fun e => (by cases e)⟩
    | succ j =>
     cases j with
     | zero => cases h; cases hf; exact ⟨fun k e => by cases e; exact Tryz.underlying3, fun e => (by cases e), fun e => (by cases e)⟩
     | succ j =>
      cases j with
      | zero => cases h; cases hf; exact ⟨fun k e => by cases e; exact Tryz.underlying3, fun e => (by cases e), fun e => (by cases e)⟩
      | succ j =>
       cases j with
       | zero => cases h; cases hf; exact ⟨fun k e => by cases e; exact Tryz.underlying3, fun e => (by cases e), fun e => (by cases e)⟩
       | succ j =>
        cases h), Tryz.t29, rfl, rfl, fun _ _ => rfl⟩
theorem tn30 : TnOk Tryz.prog 30 (.st [.int .i64, .int .i64, .int .i64, .int .i64]) := ⟨⟨_, Tryz.underlying30, Tryz.eqGuardType30, Tryz.stoodInHeld30, rfl, fun j τ h => by
    cases j with
    | zero => cases h; exact ⟨_, _, rfl, rfl, by decide, by decide, Tryz.underlying3, rfl, fun us h => by cases h⟩
    | succ j =>
     cases j with
     | zero => cases h; exact ⟨_, _, rfl, rfl, by decide, by decide, Tryz.underlying3, rfl, fun us h => by cases h⟩
     | succ j =>
      cases j with
      | zero => cases h; exact ⟨_, _, rfl, rfl, by decide, by decide, Tryz.underlying3, rfl, fun us h => by cases h⟩
      | succ j =>
       cases j with
       | zero => cases h; exact ⟨_, _, rfl, rfl, by decide, by decide, Tryz.underlying3, rfl, fun us h => by cases h⟩
       | succ j =>
        cases h⟩, (fun us hus fs hfs j τ h f hf => by
    cases hus
    rw [Tryz.underlying30] at hfs
    cases hfs
    cases j with
    | zero => cases h; cases hf; exact ⟨fun k e => by cases e; exact Tryz.underlying3, fun e => (by cases e), fun e => (by cases e)⟩
    | succ j =>
     cases j with
     | zero => cases h; cases hf; exact ⟨fun k e => by cases e; exact Tryz.underlying3, fun e => (by cases e), fun e => (by cases e)⟩
     | succ j =>
      cases j with
      | zero => cases h; cases hf; exact ⟨fun k e => by cases e; exact Tryz.underlying3, fun e => (by cases e), fun e => (by cases e)⟩
      | succ j =>
       cases j with
       | zero => cases h; cases hf; exact ⟨fun k e => by cases e; exact Tryz.underlying3, fun e => (by cases e), fun e => (by cases e)⟩
       | succ j =>
        cases h), Tryz.t30, rfl, rfl, fun _ _ => rfl⟩
theorem tn32 : TnOk Tryz.prog 32 (.fn [.st [.int .i64, .sl 75 (.st [.str, .int .i64, .sl 131 (.st [.int .i64, .sl 3 (.int .i64), .sl 3 (.int .i64)])]), .sl 69 (.st [.int .i64, .int .i64, .bool, .int .i64]), .sl 126 (.st [.sl 203 (.st [.int .i64, .int .i64]), .sl 25 (.sl 3 (.int .i64))]), .sl 3 (.int .i64)], .str] (.tup [.st [.int .i64, .int .i64, .int .i64, .int .i64], .bool])) := ⟨⟨_, _, _, Tryz.underlying32⟩, fun _ h => (by cases h), Tryz.t32, rfl, rfl, fun _ h => by cases h⟩
theorem tn33 : TnOk Tryz.prog 33 (.sl 75 (.st [.str, .int .i64, .sl 131 (.st [.int .i64, .sl 3 (.int .i64), .sl 3 (.int .i64)])])) := ⟨⟨Tryz.underlying33, Tryz.t75, _, rfl, rfl, rfl, rfl, by decide, by decide, fun _ _ => rfl, fun k h => by cases h⟩, fun _ h => (by cases h), Tryz.t33, rfl, rfl, fun _ _ => rfl⟩
theorem tn34 : TnOk Tryz.prog 34 (.sl 69 (.st [.int .i64, .int .i64, .bool, .int .i64])) := ⟨⟨Tryz.underlying34, Tryz.t69, _, rfl, rfl, rfl, rfl, by decide, by decide, fun _ _ => rfl, fun k h => by cases h⟩, fun _ h => (by cases h), Tryz.t34, rfl, rfl, fun _ _ => rfl⟩
theorem tn35 : TnOk Tryz.prog 35 (.sl 126 (.st [.sl 203 (.st [.int .i64, .int .i64]), .sl 25 (.sl 3 (.int .i64))])) := ⟨⟨Tryz.underlying35, Tryz.t126, _, rfl, rfl, rfl, rfl, by decide, by decide, fun _ _ => rfl, fun k h => by cases h⟩, fun _ h => (by cases h), Tryz.t35, rfl, rfl, fun _ _ => rfl⟩
theorem tn36 : TnOk Tryz.prog 36 (.st [.int .i64, .sl 75 (.st [.str, .int .i64, .sl 131 (.st [.int .i64, .sl 3 (.int .i64), .sl 3 (.int .i64)])]), .sl 69 (.st [.int .i64, .int .i64, .bool, .int .i64]), .sl 126 (.st [.sl 203 (.st [.int .i64, .int .i64]), .sl 25 (.sl 3 (.int .i64))]), .sl 3 (.int .i64)]) := ⟨⟨_, Tryz.underlying36, Tryz.eqGuardType36, Tryz.stoodInHeld36, rfl, fun j τ h => by
    cases j with
    | zero => cases h; exact ⟨_, _, rfl, rfl, by decide, by decide, Tryz.underlying3, rfl, fun us h => by cases h⟩
    | succ j =>
     cases j with
     | zero => cases h; exact ⟨_, _, rfl, rfl, by decide, by decide, Tryz.underlying33, rfl, fun us h => by cases h⟩
     | succ j =>
      cases j with
      | zero => cases h; exact ⟨_, _, rfl, rfl, by decide, by decide, Tryz.underlying34, rfl, fun us h => by cases h⟩
      | succ j =>
       cases j with
       | zero => cases h; exact ⟨_, _, rfl, rfl, by decide, by decide, Tryz.underlying35, rfl, fun us h => by cases h⟩
       | succ j =>
        cases j with
        | zero => cases h; exact ⟨_, _, rfl, rfl, by decide, by decide, Tryz.underlying25, rfl, fun us h => by cases h⟩
        | succ j =>
         cases h⟩, (fun us hus fs hfs j τ h f hf => by
    cases hus
    rw [Tryz.underlying36] at hfs
    cases hfs
    cases j with
    | zero => cases h; cases hf; exact ⟨fun k e => by cases e; exact Tryz.underlying3, fun e => (by cases e), fun e => (by cases e)⟩
    | succ j =>
     cases j with
     | zero => cases h; cases hf; exact ⟨fun k e => (by cases e), fun e => (by cases e), fun e => (by cases e)⟩
     | succ j =>
      cases j with
      | zero => cases h; cases hf; exact ⟨fun k e => (by cases e), fun e => (by cases e), fun e => (by cases e)⟩
      | succ j =>
       cases j with
       | zero => cases h; cases hf; exact ⟨fun k e => (by cases e), fun e => (by cases e), fun e => (by cases e)⟩
       | succ j =>
        cases j with
        | zero => cases h; cases hf; exact ⟨fun k e => (by cases e), fun e => (by cases e), fun e => (by cases e)⟩
        | succ j =>
         cases h), Tryz.t36, rfl, rfl, fun _ _ => rfl⟩
theorem tn37 : TnOk Tryz.prog 37 (.st [.int .i64, .sl 75 (.st [.str, .int .i64, .sl 131 (.st [.int .i64, .sl 3 (.int .i64), .sl 3 (.int .i64)])]), .sl 69 (.st [.int .i64, .int .i64, .bool, .int .i64]), .sl 126 (.st [.sl 203 (.st [.int .i64, .int .i64]), .sl 25 (.sl 3 (.int .i64))]), .sl 3 (.int .i64)]) := ⟨⟨_, Tryz.underlying37, Tryz.eqGuardType37, Tryz.stoodInHeld37, rfl, fun j τ h => by
    cases j with
    | zero => cases h; exact ⟨_, _, rfl, rfl, by decide, by decide, Tryz.underlying3, rfl, fun us h => by cases h⟩
    | succ j =>
     cases j with
     | zero => cases h; exact ⟨_, _, rfl, rfl, by decide, by decide, Tryz.underlying33, rfl, fun us h => by cases h⟩
     | succ j =>
      cases j with
      | zero => cases h; exact ⟨_, _, rfl, rfl, by decide, by decide, Tryz.underlying34, rfl, fun us h => by cases h⟩
      | succ j =>
       cases j with
       | zero => cases h; exact ⟨_, _, rfl, rfl, by decide, by decide, Tryz.underlying35, rfl, fun us h => by cases h⟩
       | succ j =>
        cases j with
        | zero => cases h; exact ⟨_, _, rfl, rfl, by decide, by decide, Tryz.underlying25, rfl, fun us h => by cases h⟩
        | succ j =>
         cases h⟩, (fun us hus fs hfs j τ h f hf => by
    cases hus
    rw [Tryz.underlying37] at hfs
    cases hfs
    cases j with
    | zero => cases h; cases hf; exact ⟨fun k e => by cases e; exact Tryz.underlying3, fun e => (by cases e), fun e => (by cases e)⟩
    | succ j =>
     cases j with
     | zero => cases h; cases hf; exact ⟨fun k e => (by cases e), fun e => (by cases e), fun e => (by cases e)⟩
     | succ j =>
      cases j with
      | zero => cases h; cases hf; exact ⟨fun k e => (by cases e), fun e => (by cases e), fun e => (by cases e)⟩
      | succ j =>
       cases j with
       | zero => cases h; cases hf; exact ⟨fun k e => (by cases e), fun e => (by cases e), fun e => (by cases e)⟩
       | succ j =>
        cases j with
        | zero => cases h; cases hf; exact ⟨fun k e => (by cases e), fun e => (by cases e), fun e => (by cases e)⟩
        | succ j =>
         cases h), Tryz.t37, rfl, rfl, fun _ _ => rfl⟩
theorem tn38 : TnOk Tryz.prog 38 (.fn [.st [.int .i64, .sl 173 (.st [.str, .int .i64, .sl 263 (.st [.int .i64, .sl 3 (.int .i64), .sl 3 (.int .i64)])]), .sl 181 (.st [.int .i64, .int .i64, .bool, .int .i64]), .sl 177 (.st [.sl 266 (.st [.int .i64, .int .i64]), .sl 25 (.sl 3 (.int .i64))]), .sl 3 (.int .i64)]] (.st [.int .i64, .sl 75 (.st [.str, .int .i64, .sl 131 (.st [.int .i64, .sl 3 (.int .i64), .sl 3 (.int .i64)])]), .sl 69 (.st [.int .i64, .int .i64, .bool, .int .i64]), .sl 126 (.st [.sl 203 (.st [.int .i64, .int .i64]), .sl 25 (.sl 3 (.int .i64))]), .sl 3 (.int .i64)])) := ⟨⟨_, _, _, Tryz.underlying38⟩, fun _ h => (by cases h), Tryz.t38, rfl, rfl, fun _ h => by cases h⟩
theorem tn39 : TnOk Tryz.prog 39 (.fn [.st [.int .i64, .int .i64, .int .i64, .int .i64], .st [.int .i64, .int .i64, .int .i64, .int .i64]] (.bool)) := ⟨⟨_, _, _, Tryz.underlying39⟩, fun _ h => (by cases h), Tryz.t39, rfl, rfl, fun _ h => by cases h⟩
theorem tn40 : TnOk Tryz.prog 40 (.fn [.st [.int .i64, .sl 75 (.st [.str, .int .i64, .sl 131 (.st [.int .i64, .sl 3 (.int .i64), .sl 3 (.int .i64)])]), .sl 69 (.st [.int .i64, .int .i64, .bool, .int .i64]), .sl 126 (.st [.sl 203 (.st [.int .i64, .int .i64]), .sl 25 (.sl 3 (.int .i64))]), .sl 3 (.int .i64)], .st [.int .i64, .sl 75 (.st [.str, .int .i64, .sl 131 (.st [.int .i64, .sl 3 (.int .i64), .sl 3 (.int .i64)])]), .sl 69 (.st [.int .i64, .int .i64, .bool, .int .i64]), .sl 126 (.st [.sl 203 (.st [.int .i64, .int .i64]), .sl 25 (.sl 3 (.int .i64))]), .sl 3 (.int .i64)]] (.bool)) := ⟨⟨_, _, _, Tryz.underlying40⟩, fun _ h => (by cases h), Tryz.t40, rfl, rfl, fun _ h => by cases h⟩
theorem tn41 : TnOk Tryz.prog 41 (.fn [.st [.int .i64, .sl 173 (.st [.str, .int .i64, .sl 263 (.st [.int .i64, .sl 3 (.int .i64), .sl 3 (.int .i64)])]), .sl 181 (.st [.int .i64, .int .i64, .bool, .int .i64]), .sl 177 (.st [.sl 266 (.st [.int .i64, .int .i64]), .sl 25 (.sl 3 (.int .i64))]), .sl 3 (.int .i64)], .str] (.bool)) := ⟨⟨_, _, _, Tryz.underlying41⟩, fun _ h => (by cases h), Tryz.t41, rfl, rfl, fun _ h => by cases h⟩
theorem tn42 : TnOk Tryz.prog 42 (.sl 5 (.int .u8)) := ⟨⟨Tryz.underlying42, Tryz.t5, _, rfl, rfl, rfl, rfl, by decide, by decide, fun _ _ => rfl, fun k h => by cases h; exact Tryz.underlying5⟩, fun _ h => (by cases h), Tryz.t42, rfl, rfl, fun _ _ => rfl⟩
theorem tn68 : TnOk Tryz.prog 68 (.st [.int .i64, .int .i64, .bool, .int .i64]) := ⟨⟨_, Tryz.underlying68, Tryz.eqGuardType68, Tryz.stoodInHeld68, rfl, fun j τ h => by
    cases j with
    | zero => cases h; exact ⟨_, _, rfl, rfl, by decide, by decide, Tryz.underlying3, rfl, fun us h => by cases h⟩
    | succ j =>
     cases j with
     | zero => cases h; exact ⟨_, _, rfl, rfl, by decide, by decide, Tryz.underlying3, rfl, fun us h => by cases h⟩
     | succ j =>
      cases j with
      | zero => cases h; exact ⟨_, _, rfl, rfl, by decide, by decide, Tryz.underlying4, rfl, fun us h => by cases h⟩
      | succ j =>
       cases j with
       | zero => cases h; exact ⟨_, _, rfl, rfl, by decide, by decide, Tryz.underlying3, rfl, fun us h => by cases h⟩
       | succ j =>
        cases h⟩, (fun us hus fs hfs j τ h f hf => by
    cases hus
    rw [Tryz.underlying68] at hfs
    cases hfs
    cases j with
    | zero => cases h; cases hf; exact ⟨fun k e => by cases e; exact Tryz.underlying3, fun e => (by cases e), fun e => (by cases e)⟩
    | succ j =>
     cases j with
     | zero => cases h; cases hf; exact ⟨fun k e => by cases e; exact Tryz.underlying3, fun e => (by cases e), fun e => (by cases e)⟩
     | succ j =>
      cases j with
      | zero => cases h; cases hf; exact ⟨fun k e => (by cases e), fun _ => Tryz.underlying4, fun e => (by cases e)⟩
      | succ j =>
       cases j with
       | zero => cases h; cases hf; exact ⟨fun k e => by cases e; exact Tryz.underlying3, fun e => (by cases e), fun e => (by cases e)⟩
       | succ j =>
        cases h), Tryz.t68, rfl, rfl, fun _ _ => rfl⟩
theorem tn69 : TnOk Tryz.prog 69 (.st [.int .i64, .int .i64, .bool, .int .i64]) := ⟨⟨_, Tryz.underlying69, Tryz.eqGuardType69, Tryz.stoodInHeld69, rfl, fun j τ h => by
    cases j with
    | zero => cases h; exact ⟨_, _, rfl, rfl, by decide, by decide, Tryz.underlying3, rfl, fun us h => by cases h⟩
    | succ j =>
     cases j with
     | zero => cases h; exact ⟨_, _, rfl, rfl, by decide, by decide, Tryz.underlying3, rfl, fun us h => by cases h⟩
     | succ j =>
      cases j with
      | zero => cases h; exact ⟨_, _, rfl, rfl, by decide, by decide, Tryz.underlying4, rfl, fun us h => by cases h⟩
      | succ j =>
       cases j with
       | zero => cases h; exact ⟨_, _, rfl, rfl, by decide, by decide, Tryz.underlying3, rfl, fun us h => by cases h⟩
       | succ j =>
        cases h⟩, (fun us hus fs hfs j τ h f hf => by
    cases hus
    rw [Tryz.underlying69] at hfs
    cases hfs
    cases j with
    | zero => cases h; cases hf; exact ⟨fun k e => by cases e; exact Tryz.underlying3, fun e => (by cases e), fun e => (by cases e)⟩
    | succ j =>
     cases j with
     | zero => cases h; cases hf; exact ⟨fun k e => by cases e; exact Tryz.underlying3, fun e => (by cases e), fun e => (by cases e)⟩
     | succ j =>
      cases j with
      | zero => cases h; cases hf; exact ⟨fun k e => (by cases e), fun _ => Tryz.underlying4, fun e => (by cases e)⟩
      | succ j =>
       cases j with
       | zero => cases h; cases hf; exact ⟨fun k e => by cases e; exact Tryz.underlying3, fun e => (by cases e), fun e => (by cases e)⟩
       | succ j =>
        cases h), Tryz.t69, rfl, rfl, fun _ _ => rfl⟩
theorem tn71 : TnOk Tryz.prog 71 (.fn [.st [.int .i64, .sl 75 (.st [.str, .int .i64, .sl 131 (.st [.int .i64, .sl 3 (.int .i64), .sl 3 (.int .i64)])]), .sl 69 (.st [.int .i64, .int .i64, .bool, .int .i64]), .sl 126 (.st [.sl 203 (.st [.int .i64, .int .i64]), .sl 25 (.sl 3 (.int .i64))]), .sl 3 (.int .i64)]] (.bool)) := ⟨⟨_, _, _, Tryz.underlying71⟩, fun _ h => (by cases h), Tryz.t71, rfl, rfl, fun _ h => by cases h⟩
theorem tn72 : TnOk Tryz.prog 72 (.fn [.st [.int .i64, .sl 75 (.st [.str, .int .i64, .sl 131 (.st [.int .i64, .sl 3 (.int .i64), .sl 3 (.int .i64)])]), .sl 69 (.st [.int .i64, .int .i64, .bool, .int .i64]), .sl 126 (.st [.sl 203 (.st [.int .i64, .int .i64]), .sl 25 (.sl 3 (.int .i64))]), .sl 3 (.int .i64)], .str] (.int .i64)) := ⟨⟨_, _, _, Tryz.underlying72⟩, fun _ h => (by cases h), Tryz.t72, rfl, rfl, fun _ h => by cases h⟩
theorem tn73 : TnOk Tryz.prog 73 (.sl 131 (.st [.int .i64, .sl 3 (.int .i64), .sl 3 (.int .i64)])) := ⟨⟨Tryz.underlying73, Tryz.t131, _, rfl, rfl, rfl, rfl, by decide, by decide, fun _ _ => rfl, fun k h => by cases h⟩, fun _ h => (by cases h), Tryz.t73, rfl, rfl, fun _ _ => rfl⟩
theorem tn74 : TnOk Tryz.prog 74 (.st [.str, .int .i64, .sl 131 (.st [.int .i64, .sl 3 (.int .i64), .sl 3 (.int .i64)])]) := ⟨⟨_, Tryz.underlying74, Tryz.eqGuardType74, Tryz.stoodInHeld74, rfl, fun j τ h => by
    cases j with
    | zero => cases h; exact ⟨_, _, rfl, rfl, by decide, by decide, Tryz.underlying9, rfl, fun us h => by cases h⟩
    | succ j =>
     cases j with
     | zero => cases h; exact ⟨_, _, rfl, rfl, by decide, by decide, Tryz.underlying3, rfl, fun us h => by cases h⟩
     | succ j =>
      cases j with
      | zero => cases h; exact ⟨_, _, rfl, rfl, by decide, by decide, Tryz.underlying73, rfl, fun us h => by cases h⟩
      | succ j =>
       cases h⟩, (fun us hus fs hfs j τ h f hf => by
    cases hus
    rw [Tryz.underlying74] at hfs
    cases hfs
    cases j with
    | zero => cases h; cases hf; exact ⟨fun k e => (by cases e), fun e => (by cases e), fun _ => Tryz.underlying9⟩
    | succ j =>
     cases j with
     | zero => cases h; cases hf; exact ⟨fun k e => by cases e; exact Tryz.underlying3, fun e => (by cases e), fun e => (by cases e)⟩
     | succ j =>
      cases j with
      | zero => cases h; cases hf; exact ⟨fun k e => (by cases e), fun e => (by cases e), fun e => (by cases e)⟩
      | succ j =>
       cases h), Tryz.t74, rfl, rfl, fun _ _ => rfl⟩
theorem tn75 : TnOk Tryz.prog 75 (.st [.str, .int .i64, .sl 131 (.st [.int .i64, .sl 3 (.int .i64), .sl 3 (.int .i64)])]) := ⟨⟨_, Tryz.underlying75, Tryz.eqGuardType75, Tryz.stoodInHeld75, rfl, fun j τ h => by
    cases j with
    | zero => cases h; exact ⟨_, _, rfl, rfl, by decide, by decide, Tryz.underlying9, rfl, fun us h => by cases h⟩
    | succ j =>
     cases j with
     | zero => cases h; exact ⟨_, _, rfl, rfl, by decide, by decide, Tryz.underlying3, rfl, fun us h => by cases h⟩
     | succ j =>
      cases j with
      | zero => cases h; exact ⟨_, _, rfl, rfl, by decide, by decide, Tryz.underlying73, rfl, fun us h => by cases h⟩
      | succ j =>
       cases h⟩, (fun us hus fs hfs j τ h f hf => by
    cases hus
    rw [Tryz.underlying75] at hfs
    cases hfs
    cases j with
    | zero => cases h; cases hf; exact ⟨fun k e => (by cases e), fun e => (by cases e), fun _ => Tryz.underlying9⟩
    | succ j =>
     cases j with
     | zero => cases h; cases hf; exact ⟨fun k e => by cases e; exact Tryz.underlying3, fun e => (by cases e), fun e => (by cases e)⟩
     | succ j =>
      cases j with
      | zero => cases h; cases hf; exact ⟨fun k e => (by cases e), fun e => (by cases e), fun e => (by cases e)⟩
      | succ j =>
       cases h), Tryz.t75, rfl, rfl, fun _ _ => rfl⟩
theorem tn88 : TnOk Tryz.prog 88 (.sl 25 (.sl 3 (.int .i64))) := ⟨⟨Tryz.underlying88, Tryz.t25, _, rfl, rfl, rfl, rfl, by decide, by decide, fun _ _ => rfl, fun k h => by cases h⟩, fun _ h => (by cases h), Tryz.t88, rfl, rfl, fun _ _ => rfl⟩
theorem tn98 : TnOk Tryz.prog 98 (.fn [.sl 173 (.st [.str, .int .i64, .sl 263 (.st [.int .i64, .sl 3 (.int .i64), .sl 3 (.int .i64)])]), .int .i64] (.int .i64)) := ⟨⟨_, _, _, Tryz.underlying98⟩, fun _ h => (by cases h), Tryz.t98, rfl, rfl, fun _ h => by cases h⟩
theorem tn99 : TnOk Tryz.prog 99 (.fn [.sl 181 (.st [.int .i64, .int .i64, .bool, .int .i64]), .int .i64] (.int .i64)) := ⟨⟨_, _, _, Tryz.underlying99⟩, fun _ h => (by cases h), Tryz.t99, rfl, rfl, fun _ h => by cases h⟩
theorem tn100 : TnOk Tryz.prog 100 (.fn [.sl 177 (.st [.sl 266 (.st [.int .i64, .int .i64]), .sl 25 (.sl 3 (.int .i64))]), .int .i64] (.int .i64)) := ⟨⟨_, _, _, Tryz.underlying100⟩, fun _ h => (by cases h), Tryz.t100, rfl, rfl, fun _ h => by cases h⟩
theorem tn101 : TnOk Tryz.prog 101 (.fn [.sl 3 (.int .i64), .int .i64] (.int .i64)) := ⟨⟨_, _, _, Tryz.underlying101⟩, fun _ h => (by cases h), Tryz.t101, rfl, rfl, fun _ h => by cases h⟩
theorem tn102 : TnOk Tryz.prog 102 (.sl 9 (.str)) := ⟨⟨Tryz.underlying102, Tryz.t9, _, rfl, rfl, rfl, rfl, by decide, by decide, fun _ _ => rfl, fun k h => by cases h⟩, fun _ h => (by cases h), Tryz.t102, rfl, rfl, fun _ _ => rfl⟩
theorem tn103 : TnOk Tryz.prog 103 (.fn [.str, .str] (.sl 9 (.str))) := ⟨⟨_, _, _, Tryz.underlying103⟩, fun _ h => (by cases h), Tryz.t103, rfl, rfl, fun _ h => by cases h⟩
theorem tn105 : TnOk Tryz.prog 105 (.fn [.str] (.tup [.int .i64, .bool])) := ⟨⟨_, _, _, Tryz.underlying105⟩, fun _ h => (by cases h), Tryz.t105, rfl, rfl, fun _ h => by cases h⟩
theorem tn106 : TnOk Tryz.prog 106 (.fn [.st [.int .i64, .sl 75 (.st [.str, .int .i64, .sl 131 (.st [.int .i64, .sl 3 (.int .i64), .sl 3 (.int .i64)])]), .sl 69 (.st [.int .i64, .int .i64, .bool, .int .i64]), .sl 126 (.st [.sl 203 (.st [.int .i64, .int .i64]), .sl 25 (.sl 3 (.int .i64))]), .sl 3 (.int .i64)], .st [.int .i64, .int .i64, .int .i64, .int .i64]] (.str)) := ⟨⟨_, _, _, Tryz.underlying106⟩, fun _ h => (by cases h), Tryz.t106, rfl, rfl, fun _ h => by cases h⟩
theorem tn107 : TnOk Tryz.prog 107 (.fn [.sl 173 (.st [.str, .int .i64, .sl 263 (.st [.int .i64, .sl 3 (.int .i64), .sl 3 (.int .i64)])])] (.sl 75 (.st [.str, .int .i64, .sl 131 (.st [.int .i64, .sl 3 (.int .i64), .sl 3 (.int .i64)])]))) := ⟨⟨_, _, _, Tryz.underlying107⟩, fun _ h => (by cases h), Tryz.t107, rfl, rfl, fun _ h => by cases h⟩
theorem tn108 : TnOk Tryz.prog 108 (.fn [.sl 181 (.st [.int .i64, .int .i64, .bool, .int .i64])] (.sl 69 (.st [.int .i64, .int .i64, .bool, .int .i64]))) := ⟨⟨_, _, _, Tryz.underlying108⟩, fun _ h => (by cases h), Tryz.t108, rfl, rfl, fun _ h => by cases h⟩
theorem tn109 : TnOk Tryz.prog 109 (.fn [.sl 177 (.st [.sl 266 (.st [.int .i64, .int .i64]), .sl 25 (.sl 3 (.int .i64))])] (.sl 126 (.st [.sl 203 (.st [.int .i64, .int .i64]), .sl 25 (.sl 3 (.int .i64))]))) := ⟨⟨_, _, _, Tryz.underlying109⟩, fun _ h => (by cases h), Tryz.t109, rfl, rfl, fun _ h => by cases h⟩
theorem tn110 : TnOk Tryz.prog 110 (.fn [.sl 3 (.int .i64)] (.sl 3 (.int .i64))) := ⟨⟨_, _, _, Tryz.underlying110⟩, fun _ h => (by cases h), Tryz.t110, rfl, rfl, fun _ h => by cases h⟩
theorem tn111 : TnOk Tryz.prog 111 (.fn [.sl 75 (.st [.str, .int .i64, .sl 131 (.st [.int .i64, .sl 3 (.int .i64), .sl 3 (.int .i64)])]), .sl 75 (.st [.str, .int .i64, .sl 131 (.st [.int .i64, .sl 3 (.int .i64), .sl 3 (.int .i64)])])] (.bool)) := ⟨⟨_, _, _, Tryz.underlying111⟩, fun _ h => (by cases h), Tryz.t111, rfl, rfl, fun _ h => by cases h⟩
theorem tn112 : TnOk Tryz.prog 112 (.fn [.sl 69 (.st [.int .i64, .int .i64, .bool, .int .i64]), .sl 69 (.st [.int .i64, .int .i64, .bool, .int .i64])] (.bool)) := ⟨⟨_, _, _, Tryz.underlying112⟩, fun _ h => (by cases h), Tryz.t112, rfl, rfl, fun _ h => by cases h⟩
theorem tn113 : TnOk Tryz.prog 113 (.fn [.sl 126 (.st [.sl 203 (.st [.int .i64, .int .i64]), .sl 25 (.sl 3 (.int .i64))]), .sl 126 (.st [.sl 203 (.st [.int .i64, .int .i64]), .sl 25 (.sl 3 (.int .i64))])] (.bool)) := ⟨⟨_, _, _, Tryz.underlying113⟩, fun _ h => (by cases h), Tryz.t113, rfl, rfl, fun _ h => by cases h⟩
theorem tn114 : TnOk Tryz.prog 114 (.fn [.sl 3 (.int .i64), .sl 3 (.int .i64)] (.bool)) := ⟨⟨_, _, _, Tryz.underlying114⟩, fun _ h => (by cases h), Tryz.t114, rfl, rfl, fun _ h => by cases h⟩
theorem tn122 : TnOk Tryz.prog 122 (.fn [.str] (.bool)) := ⟨⟨_, _, _, Tryz.underlying122⟩, fun _ h => (by cases h), Tryz.t122, rfl, rfl, fun _ h => by cases h⟩
theorem tn123 : TnOk Tryz.prog 123 (.fn [.int .i64] (.str)) := ⟨⟨_, _, _, Tryz.underlying123⟩, fun _ h => (by cases h), Tryz.t123, rfl, rfl, fun _ h => by cases h⟩
theorem tn124 : TnOk Tryz.prog 124 (.sl 203 (.st [.int .i64, .int .i64])) := ⟨⟨Tryz.underlying124, Tryz.t203, _, rfl, rfl, rfl, rfl, by decide, by decide, fun _ _ => rfl, fun k h => by cases h⟩, fun _ h => (by cases h), Tryz.t124, rfl, rfl, fun _ _ => rfl⟩
theorem tn125 : TnOk Tryz.prog 125 (.st [.sl 203 (.st [.int .i64, .int .i64]), .sl 25 (.sl 3 (.int .i64))]) := ⟨⟨_, Tryz.underlying125, Tryz.eqGuardType125, Tryz.stoodInHeld125, rfl, fun j τ h => by
    cases j with
    | zero => cases h; exact ⟨_, _, rfl, rfl, by decide, by decide, Tryz.underlying124, rfl, fun us h => by cases h⟩
    | succ j =>
     cases j with
     | zero => cases h; exact ⟨_, _, rfl, rfl, by decide, by decide, Tryz.underlying88, rfl, fun us h => by cases h⟩
     | succ j =>
      cases h⟩, (fun us hus fs hfs j τ h f hf => by
    cases hus
    rw [Tryz.underlying125] at hfs
    cases hfs
    cases j with
    | zero => cases h; cases hf; exact ⟨fun k e => (by cases e), fun e => (by cases e), fun e => (by cases e)⟩
    | succ j =>
     cases j with
     | zero => cases h; cases hf; exact ⟨fun k e => (by cases e), fun e => (by cases e), fun e => (by cases e)⟩
     | succ j =>
      cases h), Tryz.t125, rfl, rfl, fun _ _ => rfl⟩
theorem tn126 : TnOk Tryz.prog 126 (.st [.sl 203 (.st [.int .i64, .int .i64]), .sl 25 (.sl 3 (.int .i64))]) := ⟨⟨_, Tryz.underlying126, Tryz.eqGuardType126, Tryz.stoodInHeld126, rfl, fun j τ h => by
    cases j with
    | zero => cases h; exact ⟨_, _, rfl, rfl, by decide, by decide, Tryz.underlying124, rfl, fun us h => by cases h⟩
    | succ j =>
     cases j with
     | zero => cases h; exact ⟨_, _, rfl, rfl, by decide, by decide, Tryz.underlying88, rfl, fun us h => by cases h⟩
     | succ j =>
      cases h⟩, (fun us hus fs hfs j τ h f hf => by
    cases hus
    rw [Tryz.underlying126] at hfs
    cases hfs
    cases j with
    | zero => cases h; cases hf; exact ⟨fun k e => (by cases e), fun e => (by cases e), fun e => (by cases e)⟩
    | succ j =>
     cases j with
     | zero => cases h; cases hf; exact ⟨fun k e => (by cases e), fun e => (by cases e), fun e => (by cases e)⟩
     | succ j =>
      cases h), Tryz.t126, rfl, rfl, fun _ _ => rfl⟩
theorem tn130 : TnOk Tryz.prog 130 (.st [.int .i64, .sl 3 (.int .i64), .sl 3 (.int .i64)]) := ⟨⟨_, Tryz.underlying130, Tryz.eqGuardType130, Tryz.stoodInHeld130, rfl, fun j τ h => by
    cases j with
    | zero => cases h; exact ⟨_, _, rfl, rfl, by decide, by decide, Tryz.underlying3, rfl, fun us h => by cases h⟩
    | succ j =>
     cases j with
     | zero => cases h; exact ⟨_, _, rfl, rfl, by decide, by decide, Tryz.underlying25, rfl, fun us h => by cases h⟩
     | succ j =>
      cases j with
      | zero => cases h; exact ⟨_, _, rfl, rfl, by decide, by decide, Tryz.underlying25, rfl, fun us h => by cases h⟩
      | succ j =>
       cases h⟩, (fun us hus fs hfs j τ h f hf => by
    cases hus
    rw [Tryz.underlying130] at hfs
    cases hfs
    cases j with
    | zero => cases h; cases hf; exact ⟨fun k e => by cases e; exact Tryz.underlying3, fun e => (by cases e), fun e => (by cases e)⟩
    | succ j =>
     cases j with
     | zero => cases h; cases hf; exact ⟨fun k e => (by cases e), fun e => (by cases e), fun e => (by cases e)⟩
     | succ j =>
      cases j with
      | zero => cases h; cases hf; exact ⟨fun k e => (by cases e), fun e => (by cases e), fun e => (by cases e)⟩
      | succ j =>
       cases h), Tryz.t130, rfl, rfl, fun _ _ => rfl⟩
theorem tn131 : TnOk Tryz.prog 131 (.st [.int .i64, .sl 3 (.int .i64), .sl 3 (.int .i64)]) := ⟨⟨_, Tryz.underlying131, Tryz.eqGuardType131, Tryz.stoodInHeld131, rfl, fun j τ h => by
    cases j with
    | zero => cases h; exact ⟨_, _, rfl, rfl, by decide, by decide, Tryz.underlying3, rfl, fun us h => by cases h⟩
    | succ j =>
     cases j with
     | zero => cases h; exact ⟨_, _, rfl, rfl, by decide, by decide, Tryz.underlying25, rfl, fun us h => by cases h⟩
     | succ j =>
      cases j with
      | zero => cases h; exact ⟨_, _, rfl, rfl, by decide, by decide, Tryz.underlying25, rfl, fun us h => by cases h⟩
      | succ j =>
       cases h⟩, (fun us hus fs hfs j τ h f hf => by
    cases hus
    rw [Tryz.underlying131] at hfs
    cases hfs
    cases j with
    | zero => cases h; cases hf; exact ⟨fun k e => by cases e; exact Tryz.underlying3, fun e => (by cases e), fun e => (by cases e)⟩
    | succ j =>
     cases j with
     | zero => cases h; cases hf; exact ⟨fun k e => (by cases e), fun e => (by cases e), fun e => (by cases e)⟩
     | succ j =>
      cases j with
      | zero => cases h; cases hf; exact ⟨fun k e => (by cases e), fun e => (by cases e), fun e => (by cases e)⟩
      | succ j =>
       cases h), Tryz.t131, rfl, rfl, fun _ _ => rfl⟩
theorem tn134 : TnOk Tryz.prog 134 (.fn [.sl 9 (.str), .str] (.str)) := ⟨⟨_, _, _, Tryz.underlying134⟩, fun _ h => (by cases h), Tryz.t134, rfl, rfl, fun _ h => by cases h⟩
theorem tn143 : TnOk Tryz.prog 143 (.fn [.st [.str, .int .i64, .sl 131 (.st [.int .i64, .sl 3 (.int .i64), .sl 3 (.int .i64)])], .st [.str, .int .i64, .sl 131 (.st [.int .i64, .sl 3 (.int .i64), .sl 3 (.int .i64)])]] (.bool)) := ⟨⟨_, _, _, Tryz.underlying143⟩, fun _ h => (by cases h), Tryz.t143, rfl, rfl, fun _ h => by cases h⟩
theorem tn145 : TnOk Tryz.prog 145 (.fn [.st [.sl 203 (.st [.int .i64, .int .i64]), .sl 25 (.sl 3 (.int .i64))], .st [.sl 203 (.st [.int .i64, .int .i64]), .sl 25 (.sl 3 (.int .i64))]] (.bool)) := ⟨⟨_, _, _, Tryz.underlying145⟩, fun _ h => (by cases h), Tryz.t145, rfl, rfl, fun _ h => by cases h⟩
theorem tn146 : TnOk Tryz.prog 146 (.fn [.int .i64, .int .i64, .int .i64] (.bool)) := ⟨⟨_, _, _, Tryz.underlying146⟩, fun _ h => (by cases h), Tryz.t146, rfl, rfl, fun _ h => by cases h⟩
theorem tn147 : TnOk Tryz.prog 147 (.fn [.int .i64] (.bool)) := ⟨⟨_, _, _, Tryz.underlying147⟩, fun _ h => (by cases h), Tryz.t147, rfl, rfl, fun _ h => by cases h⟩
theorem tn150 : TnOk Tryz.prog 150 (.fn [.st [.str, .int .i64, .sl 131 (.st [.int .i64, .sl 3 (.int .i64), .sl 3 (.int .i64)])], .int .i64, .int .i64] (.bool)) := ⟨⟨_, _, _, Tryz.underlying150⟩, fun _ h => (by cases h), Tryz.t150, rfl, rfl, fun _ h => by cases h⟩
theorem tn151 : TnOk Tryz.prog 151 (.fn [.st [.sl 203 (.st [.int .i64, .int .i64]), .sl 25 (.sl 3 (.int .i64))]] (.bool)) := ⟨⟨_, _, _, Tryz.underlying151⟩, fun _ h => (by cases h), Tryz.t151, rfl, rfl, fun _ h => by cases h⟩
theorem tn152 : TnOk Tryz.prog 152 (.fn [.sl 69 (.st [.int .i64, .int .i64, .bool, .int .i64]), .fn [.st [.int .i64, .int .i64, .bool, .int .i64]] (.bool)] (.bool)) := ⟨⟨_, _, _, Tryz.underlying152⟩, fun _ h => (by cases h), Tryz.t152, rfl, rfl, fun _ h => by cases h⟩
theorem tn153 : TnOk Tryz.prog 153 (.fn [.st [.int .i64, .int .i64, .bool, .int .i64]] (.bool)) := ⟨⟨_, _, _, Tryz.underlying153⟩, fun _ h => (by cases h), Tryz.t153, rfl, rfl, fun _ h => by cases h⟩
theorem tn154 : TnOk Tryz.prog 154 (.fn [.sl 75 (.st [.str, .int .i64, .sl 131 (.st [.int .i64, .sl 3 (.int .i64), .sl 3 (.int .i64)])]), .fn [.st [.str, .int .i64, .sl 131 (.st [.int .i64, .sl 3 (.int .i64), .sl 3 (.int .i64)])]] (.bool)] (.int .i64)) := ⟨⟨_, _, _, Tryz.underlying154⟩, fun _ h => (by cases h), Tryz.t154, rfl, rfl, fun _ h => by cases h⟩
theorem tn155 : TnOk Tryz.prog 155 (.fn [.st [.str, .int .i64, .sl 131 (.st [.int .i64, .sl 3 (.int .i64), .sl 3 (.int .i64)])]] (.bool)) := ⟨⟨_, _, _, Tryz.underlying155⟩, fun _ h => (by cases h), Tryz.t155, rfl, rfl, fun _ h => by cases h⟩
theorem tn164 : TnOk Tryz.prog 164 (.fn [.sl 3 (.int .i64), .int .i64] (.bool)) := ⟨⟨_, _, _, Tryz.underlying164⟩, fun _ h => (by cases h), Tryz.t164, rfl, rfl, fun _ h => by cases h⟩
theorem tn170 : TnOk Tryz.prog 170 (.fn [.st [.str, .int .i64, .sl 263 (.st [.int .i64, .sl 3 (.int .i64), .sl 3 (.int .i64)])], .int .i64] (.int .i64)) := ⟨⟨_, _, _, Tryz.underlying170⟩, fun _ h => (by cases h), Tryz.t170, rfl, rfl, fun _ h => by cases h⟩
theorem tn171 : TnOk Tryz.prog 171 (.sl 263 (.st [.int .i64, .sl 3 (.int .i64), .sl 3 (.int .i64)])) := ⟨⟨Tryz.underlying171, Tryz.t263, _, rfl, rfl, rfl, rfl, by decide, by decide, fun _ _ => rfl, fun k h => by cases h⟩, fun _ h => (by cases h), Tryz.t171, rfl, rfl, fun _ _ => rfl⟩
theorem tn172 : TnOk Tryz.prog 172 (.st [.str, .int .i64, .sl 263 (.st [.int .i64, .sl 3 (.int .i64), .sl 3 (.int .i64)])]) := ⟨⟨_, Tryz.underlying172, Tryz.eqGuardType172, Tryz.stoodInHeld172, rfl, fun j τ h => by
    cases j with
    | zero => cases h; exact ⟨_, _, rfl, rfl, by decide, by decide, Tryz.underlying9, rfl, fun us h => by cases h⟩
    | succ j =>
     cases j with
     | zero => cases h; exact ⟨_, _, rfl, rfl, by decide, by decide, Tryz.underlying3, rfl, fun us h => by cases h⟩
     | succ j =>
      cases j with
      | zero => cases h; exact ⟨_, _, rfl, rfl, by decide, by decide, Tryz.underlying171, rfl, fun us h => by cases h⟩
      | succ j =>
       cases h⟩, (fun us hus fs hfs j τ h f hf => by
    cases hus
    rw [Tryz.underlying172] at hfs
    cases hfs
    cases j with
    | zero => cases h; cases hf; exact ⟨fun k e => (by cases e), fun e => (by cases e), fun _ => Tryz.underlying9⟩
    | succ j =>
     cases j with
     | zero => cases h; cases hf; exact ⟨fun k e => by cases e; exact Tryz.underlying3, fun e => (by cases e), fun e => (by cases e)⟩
     | succ j =>
      cases j with
      | zero => cases h; cases hf; exact ⟨fun k e => (by cases e), fun e => (by cases e), fun e => (by cases e)⟩
      | succ j =>
       cases h), Tryz.t172, rfl, rfl, fun _ _ => rfl⟩
theorem tn173 : TnOk Tryz.prog 173 (.st [.str, .int .i64, .sl 263 (.st [.int .i64, .sl 3 (.int .i64), .sl 3 (.int .i64)])]) := ⟨⟨_, Tryz.underlying173, Tryz.eqGuardType173, Tryz.stoodInHeld173, rfl, fun j τ h => by
    cases j with
    | zero => cases h; exact ⟨_, _, rfl, rfl, by decide, by decide, Tryz.underlying9, rfl, fun us h => by cases h⟩
    | succ j =>
     cases j with
     | zero => cases h; exact ⟨_, _, rfl, rfl, by decide, by decide, Tryz.underlying3, rfl, fun us h => by cases h⟩
     | succ j =>
      cases j with
      | zero => cases h; exact ⟨_, _, rfl, rfl, by decide, by decide, Tryz.underlying171, rfl, fun us h => by cases h⟩
      | succ j =>
       cases h⟩, (fun us hus fs hfs j τ h f hf => by
    cases hus
    rw [Tryz.underlying173] at hfs
    cases hfs
    cases j with
    | zero => cases h; cases hf; exact ⟨fun k e => (by cases e), fun e => (by cases e), fun _ => Tryz.underlying9⟩
    | succ j =>
     cases j with
     | zero => cases h; cases hf; exact ⟨fun k e => by cases e; exact Tryz.underlying3, fun e => (by cases e), fun e => (by cases e)⟩
     | succ j =>
      cases j with
      | zero => cases h; cases hf; exact ⟨fun k e => (by cases e), fun e => (by cases e), fun e => (by cases e)⟩
      | succ j =>
       cases h), Tryz.t173, rfl, rfl, fun _ _ => rfl⟩
theorem tn174 : TnOk Tryz.prog 174 (.fn [.st [.sl 266 (.st [.int .i64, .int .i64]), .sl 25 (.sl 3 (.int .i64))], .int .i64] (.int .i64)) := ⟨⟨_, _, _, Tryz.underlying174⟩, fun _ h => (by cases h), Tryz.t174, rfl, rfl, fun _ h => by cases h⟩
theorem tn175 : TnOk Tryz.prog 175 (.sl 266 (.st [.int .i64, .int .i64])) := ⟨⟨Tryz.underlying175, Tryz.t266, _, rfl, rfl, rfl, rfl, by decide, by decide, fun _ _ => rfl, fun k h => by cases h⟩, fun _ h => (by cases h), Tryz.t175, rfl, rfl, fun _ _ => rfl⟩
theorem tn176 : TnOk Tryz.prog 176 (.st [.sl 266 (.st [.int .i64, .int .i64]), .sl 25 (.sl 3 (.int .i64))]) := ⟨⟨_, Tryz.underlying176, Tryz.eqGuardType176, Tryz.stoodInHeld176, rfl, fun j τ h => by
    cases j with
    | zero => cases h; exact ⟨_, _, rfl, rfl, by decide, by decide, Tryz.underlying175, rfl, fun us h => by cases h⟩
    | succ j =>
     cases j with
     | zero => cases h; exact ⟨_, _, rfl, rfl, by decide, by decide, Tryz.underlying88, rfl, fun us h => by cases h⟩
     | succ j =>
      cases h⟩, (fun us hus fs hfs j τ h f hf => by
    cases hus
    rw [Tryz.underlying176] at hfs
    cases hfs
    cases j with
    | zero => cases h; cases hf; exact ⟨fun k e => (by cases e), fun e => (by cases e), fun e => (by cases e)⟩
    | succ j =>
     cases j with
     | zero => cases h; cases hf; exact ⟨fun k e => (by cases e), fun e => (by cases e), fun e => (by cases e)⟩
     | succ j =>
      cases h), Tryz.t176, rfl, rfl, fun _ _ => rfl⟩
theorem tn177 : TnOk Tryz.prog 177 (.st [.sl 266 (.st [.int .i64, .int .i64]), .sl 25 (.sl 3 (.int .i64))]) := ⟨⟨_, Tryz.underlying177, Tryz.eqGuardType177, Tryz.stoodInHeld177, rfl, fun j τ h => by
    cases j with
    | zero => cases h; exact ⟨_, _, rfl, rfl, by decide, by decide, Tryz.underlying175, rfl, fun us h => by cases h⟩
    | succ j =>
     cases j with
     | zero => cases h; exact ⟨_, _, rfl, rfl, by decide, by decide, Tryz.underlying88, rfl, fun us h => by cases h⟩
     | succ j =>
      cases h⟩, (fun us hus fs hfs j τ h f hf => by
    cases hus
    rw [Tryz.underlying177] at hfs
    cases hfs
    cases j with
    | zero => cases h; cases hf; exact ⟨fun k e => (by cases e), fun e => (by cases e), fun e => (by cases e)⟩
    | succ j =>
     cases j with
     | zero => cases h; cases hf; exact ⟨fun k e => (by cases e), fun e => (by cases e), fun e => (by cases e)⟩
     | succ j =>
      cases h), Tryz.t177, rfl, rfl, fun _ _ => rfl⟩
theorem tn178 : TnOk Tryz.prog 178 (.fn [.st [.int .i64, .sl 75 (.st [.str, .int .i64, .sl 131 (.st [.int .i64, .sl 3 (.int .i64), .sl 3 (.int .i64)])]), .sl 69 (.st [.int .i64, .int .i64, .bool, .int .i64]), .sl 126 (.st [.sl 203 (.st [.int .i64, .int .i64]), .sl 25 (.sl 3 (.int .i64))]), .sl 3 (.int .i64)], .st [.int .i64, .int .i64, .int .i64, .int .i64]] (.bool)) := ⟨⟨_, _, _, Tryz.underlying178⟩, fun _ h => (by cases h), Tryz.t178, rfl, rfl, fun _ h => by cases h⟩
theorem tn179 : TnOk Tryz.prog 179 (.fn [.st [.str, .int .i64, .sl 263 (.st [.int .i64, .sl 3 (.int .i64), .sl 3 (.int .i64)])]] (.st [.str, .int .i64, .sl 131 (.st [.int .i64, .sl 3 (.int .i64), .sl 3 (.int .i64)])])) := ⟨⟨_, _, _, Tryz.underlying179⟩, fun _ h => (by cases h), Tryz.t179, rfl, rfl, fun _ h => by cases h⟩
theorem tn180 : TnOk Tryz.prog 180 (.fn [.st [.int .i64, .int .i64, .bool, .int .i64]] (.st [.int .i64, .int .i64, .bool, .int .i64])) := ⟨⟨_, _, _, Tryz.underlying180⟩, fun _ h => (by cases h), Tryz.t180, rfl, rfl, fun _ h => by cases h⟩
theorem tn181 : TnOk Tryz.prog 181 (.st [.int .i64, .int .i64, .bool, .int .i64]) := ⟨⟨_, Tryz.underlying181, Tryz.eqGuardType181, Tryz.stoodInHeld181, rfl, fun j τ h => by
    cases j with
    | zero => cases h; exact ⟨_, _, rfl, rfl, by decide, by decide, Tryz.underlying3, rfl, fun us h => by cases h⟩
    | succ j =>
     cases j with
     | zero => cases h; exact ⟨_, _, rfl, rfl, by decide, by decide, Tryz.underlying3, rfl, fun us h => by cases h⟩
     | succ j =>
      cases j with
      | zero => cases h; exact ⟨_, _, rfl, rfl, by decide, by decide, Tryz.underlying4, rfl, fun us h => by cases h⟩
      | succ j =>
       cases j with
       | zero => cases h; exact ⟨_, _, rfl, rfl, by decide, by decide, Tryz.underlying3, rfl, fun us h => by cases h⟩
       | succ j =>
        cases h⟩, (fun us hus fs hfs j τ h f hf => by
    cases hus
    rw [Tryz.underlying181] at hfs
    cases hfs
    cases j with
    | zero => cases h; cases hf; exact ⟨fun k e => by cases e; exact Tryz.underlying3, fun e => (by cases e), fun e => (by cases e)⟩
    | succ j =>
     cases j with
     | zero => cases h; cases hf; exact ⟨fun k e => by cases e; exact Tryz.underlying3, fun e => (by cases e), fun e => (by cases e)⟩
     | succ j =>
      cases j with
      | zero => cases h; cases hf; exact ⟨fun k e => (by cases e), fun _ => Tryz.underlying4, fun e => (by cases e)⟩
      | succ j =>
       cases j with
       | zero => cases h; cases hf; exact ⟨fun k e => by cases e; exact Tryz.underlying3, fun e => (by cases e), fun e => (by cases e)⟩
       | succ j =>
        cases h), Tryz.t181, rfl, rfl, fun _ _ => rfl⟩
theorem tn182 : TnOk Tryz.prog 182 (.fn [.st [.sl 266 (.st [.int .i64, .int .i64]), .sl 25 (.sl 3 (.int .i64))]] (.st [.sl 203 (.st [.int .i64, .int .i64]), .sl 25 (.sl 3 (.int .i64))])) := ⟨⟨_, _, _, Tryz.underlying182⟩, fun _ h => (by cases h), Tryz.t182, rfl, rfl, fun _ h => by cases h⟩
theorem tn183 : TnOk Tryz.prog 183 (.fn [.str, .int .u8] (.int .i64)) := ⟨⟨_, _, _, Tryz.underlying183⟩, fun _ h => (by cases h), Tryz.t183, rfl, rfl, fun _ h => by cases h⟩
theorem tn188 : TnOk Tryz.prog 188 (.fn [.st [.int .i64, .int .i64, .bool, .int .i64], .st [.int .i64, .int .i64, .bool, .int .i64]] (.bool)) := ⟨⟨_, _, _, Tryz.underlying188⟩, fun _ h => (by cases h), Tryz.t188, rfl, rfl, fun _ h => by cases h⟩
theorem tn201 : TnOk Tryz.prog 201 (.fn [.sl 203 (.st [.int .i64, .int .i64])] (.bool)) := ⟨⟨_, _, _, Tryz.underlying201⟩, fun _ h => (by cases h), Tryz.t201, rfl, rfl, fun _ h => by cases h⟩
theorem tn202 : TnOk Tryz.prog 202 (.st [.int .i64, .int .i64]) := ⟨⟨_, Tryz.underlying202, Tryz.eqGuardType202, Tryz.stoodInHeld202, rfl, fun j τ h => by
    cases j with
    | zero => cases h; exact ⟨_, _, rfl, rfl, by decide, by decide, Tryz.underlying3, rfl, fun us h => by cases h⟩
    | succ j =>
     cases j with
     | zero => cases h; exact ⟨_, _, rfl, rfl, by decide, by decide, Tryz.underlying3, rfl, fun us h => by cases h⟩
     | succ j =>
      cases h⟩, (fun us hus fs hfs j τ h f hf => by
    cases hus
    rw [Tryz.underlying202] at hfs
    cases hfs
    cases j with
    | zero => cases h; cases hf; exact ⟨fun k e => by cases e; exact Tryz.underlying3, fun e => (by cases e), fun e => (by cases e)⟩
    | succ j =>
     cases j with
     | zero => cases h; cases hf; exact ⟨fun k e => by cases e; exact Tryz.underlying3, fun e => (by cases e), fun e => (by cases e)⟩
     | succ j =>
      cases h), Tryz.t202, rfl, rfl, fun _ _ => rfl⟩
theorem tn203 : TnOk Tryz.prog 203 (.st [.int .i64, .int .i64]) := ⟨⟨_, Tryz.underlying203, Tryz.eqGuardType203, Tryz.stoodInHeld203, rfl, fun j τ h => by
    cases j with
    | zero => cases h; exact ⟨_, _, rfl, rfl, by decide, by decide, Tryz.underlying3, rfl, fun us h => by cases h⟩
    | succ j =>
     cases j with
     | zero => cases h; exact ⟨_, _, rfl, rfl, by decide, by decide, Tryz.underlying3, rfl, fun us h => by cases h⟩
     | succ j =>
      cases h⟩, (fun us hus fs hfs j τ h f hf => by
    cases hus
    rw [Tryz.underlying203] at hfs
    cases hfs
    cases j with
    | zero => cases h; cases hf; exact ⟨fun k e => by cases e; exact Tryz.underlying3, fun e => (by cases e), fun e => (by cases e)⟩
    | succ j =>
     cases j with
     | zero => cases h; cases hf; exact ⟨fun k e => by cases e; exact Tryz.underlying3, fun e => (by cases e), fun e => (by cases e)⟩
     | succ j =>
      cases h), Tryz.t203, rfl, rfl, fun _ _ => rfl⟩
theorem tn213 : TnOk Tryz.prog 213 (.fn [.st [.int .i64, .sl 3 (.int .i64), .sl 3 (.int .i64)], .st [.int .i64, .sl 3 (.int .i64), .sl 3 (.int .i64)]] (.bool)) := ⟨⟨_, _, _, Tryz.underlying213⟩, fun _ h => (by cases h), Tryz.t213, rfl, rfl, fun _ h => by cases h⟩
theorem tn214 : TnOk Tryz.prog 214 (.fn [.sl 203 (.st [.int .i64, .int .i64]), .sl 203 (.st [.int .i64, .int .i64])] (.bool)) := ⟨⟨_, _, _, Tryz.underlying214⟩, fun _ h => (by cases h), Tryz.t214, rfl, rfl, fun _ h => by cases h⟩
theorem tn218 : TnOk Tryz.prog 218 (.fn [.st [.int .i64, .sl 3 (.int .i64), .sl 3 (.int .i64)], .int .i64, .int .i64] (.bool)) := ⟨⟨_, _, _, Tryz.underlying218⟩, fun _ h => (by cases h), Tryz.t218, rfl, rfl, fun _ h => by cases h⟩
theorem tn219 : TnOk Tryz.prog 219 (.fn [.sl 69 (.st [.int .i64, .int .i64, .bool, .int .i64]), .fn [.st [.int .i64, .int .i64, .bool, .int .i64]] (.bool)] (.int .i64)) := ⟨⟨_, _, _, Tryz.underlying219⟩, fun _ h => (by cases h), Tryz.t219, rfl, rfl, fun _ h => by cases h⟩
theorem tn232 : TnOk Tryz.prog 232 (.fn [.sl 263 (.st [.int .i64, .sl 3 (.int .i64), .sl 3 (.int .i64)]), .int .i64] (.int .i64)) := ⟨⟨_, _, _, Tryz.underlying232⟩, fun _ h => (by cases h), Tryz.t232, rfl, rfl, fun _ h => by cases h⟩
theorem tn233 : TnOk Tryz.prog 233 (.fn [.sl 266 (.st [.int .i64, .int .i64]), .int .i64] (.int .i64)) := ⟨⟨_, _, _, Tryz.underlying233⟩, fun _ h => (by cases h), Tryz.t233, rfl, rfl, fun _ h => by cases h⟩
theorem tn234 : TnOk Tryz.prog 234 (.fn [.sl 25 (.sl 3 (.int .i64)), .int .i64] (.int .i64)) := ⟨⟨_, _, _, Tryz.underlying234⟩, fun _ h => (by cases h), Tryz.t234, rfl, rfl, fun _ h => by cases h⟩
theorem tn235 : TnOk Tryz.prog 235 (.fn [.sl 263 (.st [.int .i64, .sl 3 (.int .i64), .sl 3 (.int .i64)])] (.sl 131 (.st [.int .i64, .sl 3 (.int .i64), .sl 3 (.int .i64)]))) := ⟨⟨_, _, _, Tryz.underlying235⟩, fun _ h => (by cases h), Tryz.t235, rfl, rfl, fun _ h => by cases h⟩
theorem tn236 : TnOk Tryz.prog 236 (.fn [.sl 266 (.st [.int .i64, .int .i64])] (.sl 203 (.st [.int .i64, .int .i64]))) := ⟨⟨_, _, _, Tryz.underlying236⟩, fun _ h => (by cases h), Tryz.t236, rfl, rfl, fun _ h => by cases h⟩
theorem tn237 : TnOk Tryz.prog 237 (.fn [.sl 25 (.sl 3 (.int .i64))] (.sl 25 (.sl 3 (.int .i64)))) := ⟨⟨_, _, _, Tryz.underlying237⟩, fun _ h => (by cases h), Tryz.t237, rfl, rfl, fun _ h => by cases h⟩
theorem tn239 : TnOk Tryz.prog 239 (.fn [.sl 131 (.st [.int .i64, .sl 3 (.int .i64), .sl 3 (.int .i64)]), .sl 131 (.st [.int .i64, .sl 3 (.int .i64), .sl 3 (.int .i64)])] (.bool)) := ⟨⟨_, _, _, Tryz.underlying239⟩, fun _ h => (by cases h), Tryz.t239, rfl, rfl, fun _ h => by cases h⟩
theorem tn240 : TnOk Tryz.prog 240 (.fn [.sl 25 (.sl 3 (.int .i64)), .sl 25 (.sl 3 (.int .i64))] (.bool)) := ⟨⟨_, _, _, Tryz.underlying240⟩, fun _ h => (by cases h), Tryz.t240, rfl, rfl, fun _ h => by cases h⟩
theorem tn262 : TnOk Tryz.prog 262 (.fn [.st [.int .i64, .sl 3 (.int .i64), .sl 3 (.int .i64)], .int .i64] (.int .i64)) := ⟨⟨_, _, _, Tryz.underlying262⟩, fun _ h => (by cases h), Tryz.t262, rfl, rfl, fun _ h => by cases h⟩
theorem tn263 : TnOk Tryz.prog 263 (.st [.int .i64, .sl 3 (.int .i64), .sl 3 (.int .i64)]) := ⟨⟨_, Tryz.underlying263, Tryz.eqGuardType263, Tryz.stoodInHeld263, rfl, fun j τ h => by
    cases j with
    | zero => cases h; exact ⟨_, _, rfl, rfl, by decide, by decide, Tryz.underlying3, rfl, fun us h => by cases h⟩
    | succ j =>
     cases j with
     | zero => cases h; exact ⟨_, _, rfl, rfl, by decide, by decide, Tryz.underlying25, rfl, fun us h => by cases h⟩
     | succ j =>
      cases j with
      | zero => cases h; exact ⟨_, _, rfl, rfl, by decide, by decide, Tryz.underlying25, rfl, fun us h => by cases h⟩
      | succ j =>
       cases h⟩, (fun us hus fs hfs j τ h f hf => by
    cases hus
    rw [Tryz.underlying263] at hfs
    cases hfs
    cases j with
    | zero => cases h; cases hf; exact ⟨fun k e => by cases e; exact Tryz.underlying3, fun e => (by cases e), fun e => (by cases e)⟩
    | succ j =>
     cases j with
     | zero => cases h; cases hf; exact ⟨fun k e => (by cases e), fun e => (by cases e), fun e => (by cases e)⟩
     | succ j =>
      cases j with
      | zero => cases h; cases hf; exact ⟨fun k e => (by cases e), fun e => (by cases e), fun e => (by cases e)⟩
      | succ j =>
       cases h), Tryz.t263, rfl, rfl, fun _ _ => rfl⟩
theorem tn264 : TnOk Tryz.prog 264 (.fn [.st [.int .i64, .sl 3 (.int .i64), .sl 3 (.int .i64)]] (.st [.int .i64, .sl 3 (.int .i64), .sl 3 (.int .i64)])) := ⟨⟨_, _, _, Tryz.underlying264⟩, fun _ h => (by cases h), Tryz.t264, rfl, rfl, fun _ h => by cases h⟩
theorem tn265 : TnOk Tryz.prog 265 (.fn [.st [.int .i64, .int .i64]] (.st [.int .i64, .int .i64])) := ⟨⟨_, _, _, Tryz.underlying265⟩, fun _ h => (by cases h), Tryz.t265, rfl, rfl, fun _ h => by cases h⟩
theorem tn266 : TnOk Tryz.prog 266 (.st [.int .i64, .int .i64]) := ⟨⟨_, Tryz.underlying266, Tryz.eqGuardType266, Tryz.stoodInHeld266, rfl, fun j τ h => by
    cases j with
    | zero => cases h; exact ⟨_, _, rfl, rfl, by decide, by decide, Tryz.underlying3, rfl, fun us h => by cases h⟩
    | succ j =>
     cases j with
     | zero => cases h; exact ⟨_, _, rfl, rfl, by decide, by decide, Tryz.underlying3, rfl, fun us h => by cases h⟩
     | succ j =>
      cases h⟩, (fun us hus fs hfs j τ h f hf => by
    cases hus
    rw [Tryz.underlying266] at hfs
    cases hfs
    cases j with
    | zero => cases h; cases hf; exact ⟨fun k e => by cases e; exact Tryz.underlying3, fun e => (by cases e), fun e => (by cases e)⟩
    | succ j =>
     cases j with
     | zero => cases h; cases hf; exact ⟨fun k e => by cases e; exact Tryz.underlying3, fun e => (by cases e), fun e => (by cases e)⟩
     | succ j =>
      cases h), Tryz.t266, rfl, rfl, fun _ _ => rfl⟩
theorem tn273 : TnOk Tryz.prog 273 (.fn [.st [.int .i64, .int .i64], .st [.int .i64, .int .i64]] (.bool)) := ⟨⟨_, _, _, Tryz.underlying273⟩, fun _ h => (by cases h), Tryz.t273, rfl, rfl, fun _ h => by cases h⟩
def tys : List (Nat × Ty) := [(3, .int .i64), (4, .bool), (5, .int .u8), (9, .str), (22, .sl 173 (.st [.str, .int .i64, .sl 263 (.st [.int .i64, .sl 3 (.int .i64), .sl 3 (.int .i64)])])), (23, .sl 181 (.st [.int .i64, .int .i64, .bool, .int .i64])), (24, .sl 177 (.st [.sl 266 (.st [.int .i64, .int .i64]), .sl 25 (.sl 3 (.int .i64))])), (25, .sl 3 (.int .i64)), (26, .st [.int .i64, .sl 173 (.st [.str, .int .i64, .sl 263 (.st [.int .i64, .sl 3 (.int .i64), .sl 3 (.int .i64)])]), .sl 181 (.st [.int .i64, .int .i64, .bool, .int .i64]), .sl 177 (.st [.sl 266 (.st [.int .i64, .int .i64]), .sl 25 (.sl 3 (.int .i64))]), .sl 3 (.int .i64)]), (27, .st [.int .i64, .sl 173 (.st [.str, .int .i64, .sl 263 (.st [.int .i64, .sl 3 (.int .i64), .sl 3 (.int .i64)])]), .sl 181 (.st [.int .i64, .int .i64, .bool, .int .i64]), .sl 177 (.st [.sl 266 (.st [.int .i64, .int .i64]), .sl 25 (.sl 3 (.int .i64))]), .sl 3 (.int .i64)]), (28, .fn [.st [.int .i64, .sl 173 (.st [.str, .int .i64, .sl 263 (.st [.int .i64, .sl 3 (.int .i64), .sl 3 (.int .i64)])]), .sl 181 (.st [.int .i64, .int .i64, .bool, .int .i64]), .sl 177 (.st [.sl 266 (.st [.int .i64, .int .i64]), .sl 25 (.sl 3 (.int .i64))]), .sl 3 (.int .i64)], .int .i64] (.int .i64)), (29, .st [.int .i64, .int .i64, .int .i64, .int .i64]), (30, .st [.int .i64, .int .i64, .int .i64, .int .i64]), (32, .fn [.st [.int .i64, .sl 75 (.st [.str, .int .i64, .sl 131 (.st [.int .i64, .sl 3 (.int .i64), .sl 3 (.int .i64)])]), .sl 69 (.st [.int .i64, .int .i64, .bool, .int .i64]), .sl 126 (.st [.sl 203 (.st [.int .i64, .int .i64]), .sl 25 (.sl 3 (.int .i64))]), .sl 3 (.int .i64)], .str] (.tup [.st [.int .i64, .int .i64, .int .i64, .int .i64], .bool])), (33, .sl 75 (.st [.str, .int .i64, .sl 131 (.st [.int .i64, .sl 3 (.int .i64), .sl 3 (.int .i64)])])), (34, .sl 69 (.st [.int .i64, .int .i64, .bool, .int .i64])), (35, .sl 126 (.st [.sl 203 (.st [.int .i64, .int .i64]), .sl 25 (.sl 3 (.int .i64))])), (36, .st [.int .i64, .sl 75 (.st [.str, .int .i64, .sl 131 (.st [.int .i64, .sl 3 (.int .i64), .sl 3 (.int .i64)])]), .sl 69 (.st [.int .i64, .int .i64, .bool, .int .i64]), .sl 126 (.st [.sl 203 (.st [.int .i64, .int .i64]), .sl 25 (.sl 3 (.int .i64))]), .sl 3 (.int .i64)]), (37, .st [.int .i64, .sl 75 (.st [.str, .int .i64, .sl 131 (.st [.int .i64, .sl 3 (.int .i64), .sl 3 (.int .i64)])]), .sl 69 (.st [.int .i64, .int .i64, .bool, .int .i64]), .sl 126 (.st [.sl 203 (.st [.int .i64, .int .i64]), .sl 25 (.sl 3 (.int .i64))]), .sl 3 (.int .i64)]), (38, .fn [.st [.int .i64, .sl 173 (.st [.str, .int .i64, .sl 263 (.st [.int .i64, .sl 3 (.int .i64), .sl 3 (.int .i64)])]), .sl 181 (.st [.int .i64, .int .i64, .bool, .int .i64]), .sl 177 (.st [.sl 266 (.st [.int .i64, .int .i64]), .sl 25 (.sl 3 (.int .i64))]), .sl 3 (.int .i64)]] (.st [.int .i64, .sl 75 (.st [.str, .int .i64, .sl 131 (.st [.int .i64, .sl 3 (.int .i64), .sl 3 (.int .i64)])]), .sl 69 (.st [.int .i64, .int .i64, .bool, .int .i64]), .sl 126 (.st [.sl 203 (.st [.int .i64, .int .i64]), .sl 25 (.sl 3 (.int .i64))]), .sl 3 (.int .i64)])), (39, .fn [.st [.int .i64, .int .i64, .int .i64, .int .i64], .st [.int .i64, .int .i64, .int .i64, .int .i64]] (.bool)), (40, .fn [.st [.int .i64, .sl 75 (.st [.str, .int .i64, .sl 131 (.st [.int .i64, .sl 3 (.int .i64), .sl 3 (.int .i64)])]), .sl 69 (.st [.int .i64, .int .i64, .bool, .int .i64]), .sl 126 (.st [.sl 203 (.st [.int .i64, .int .i64]), .sl 25 (.sl 3 (.int .i64))]), .sl 3 (.int .i64)], .st [.int .i64, .sl 75 (.st [.str, .int .i64, .sl 131 (.st [.int .i64, .sl 3 (.int .i64), .sl 3 (.int .i64)])]), .sl 69 (.st [.int .i64, .int .i64, .bool, .int .i64]), .sl 126 (.st [.sl 203 (.st [.int .i64, .int .i64]), .sl 25 (.sl 3 (.int .i64))]), .sl 3 (.int .i64)]] (.bool)), (41, .fn [.st [.int .i64, .sl 173 (.st [.str, .int .i64, .sl 263 (.st [.int .i64, .sl 3 (.int .i64), .sl 3 (.int .i64)])]), .sl 181 (.st [.int .i64, .int .i64, .bool, .int .i64]), .sl 177 (.st [.sl 266 (.st [.int .i64, .int .i64]), .sl 25 (.sl 3 (.int .i64))]), .sl 3 (.int .i64)], .str] (.bool)), (42, .sl 5 (.int .u8)), (68, .st [.int .i64, .int .i64, .bool, .int .i64]), (69, .st [.int .i64, .int .i64, .bool, .int .i64]), (71, .fn [.st [.int .i64, .sl 75 (.st [.str, .int .i64, .sl 131 (.st [.int .i64, .sl 3 (.int .i64), .sl 3 (.int .i64)])]), .sl 69 (.st [.int .i64, .int .i64, .bool, .int .i64]), .sl 126 (.st [.sl 203 (.st [.int .i64, .int .i64]), .sl 25 (.sl 3 (.int .i64))]), .sl 3 (.int .i64)]] (.bool)), (72, .fn [.st [.int .i64, .sl 75 (.st [.str, .int .i64, .sl 131 (.st [.int .i64, .sl 3 (.int .i64), .sl 3 (.int .i64)])]), .sl 69 (.st [.int .i64, .int .i64, .bool, .int .i64]), .sl 126 (.st [.sl 203 (.st [.int .i64, .int .i64]), .sl 25 (.sl 3 (.int .i64))]), .sl 3 (.int .i64)], .str] (.int .i64)), (73, .sl 131 (.st [.int .i64, .sl 3 (.int .i64), .sl 3 (.int .i64)])), (74, .st [.str, .int .i64, .sl 131 (.st [.int .i64, .sl 3 (.int .i64), .sl 3 (.int .i64)])]), (75, .st [.str, .int .i64, .sl 131 (.st [.int .i64, .sl 3 (.int .i64), .sl 3 (.int .i64)])]), (88, .sl 25 (.sl 3 (.int .i64))), (98, .fn [.sl 173 (.st [.str, .int .i64, .sl 263 (.st [.int .i64, .sl 3 (.int .i64), .sl 3 (.int .i64)])]), .int .i64] (.int .i64)), (99, .fn [.sl 181 (.st [.int .i64, .int .i64, .bool, .int .i64]), .int .i64] (.int .i64)), (100, .fn [.sl 177 (.st [.sl 266 (.st [.int .i64, .int .i64]), .sl 25 (.sl 3 (.int .i64))]), .int .i64] (.int .i64)), (101, .fn [.sl 3 (.int .i64), .int .i64] (.int .i64)), (102, .sl 9 (.str)), (103, .fn [.str, .str] (.sl 9 (.str))), (105, .fn [.str] (.tup [.int .i64, .bool])), (106, .fn [.st [.int .i64, .sl 75 (.st [.str, .int .i64, .sl 131 (.st [.int .i64, .sl 3 (.int .i64), .sl 3 (.int .i64)])]), .sl 69 (.st [.int .i64, .int .i64, .bool, .int .i64]), .sl 126 (.st [.sl 203 (.st [.int .i64, .int .i64]), .sl 25 (.sl 3 (.int .i64))]), .sl 3 (.int .i64)], .st [.int .i64, .int .i64, .int .i64, .int .i64]] (.str)), (107, .fn [.sl 173 (.st [.str, .int .i64, .sl 263 (.st [.int .i64, .sl 3 (.int .i64), .sl 3 (.int .i64)])])] (.sl 75 (.st [.str, .int .i64, .sl 131 (.st [.int .i64, .sl 3 (.int .i64), .sl 3 (.int .i64)])]))), (108, .fn [.sl 181 (.st [.int .i64, .int .i64, .bool, .int .i64])] (.sl 69 (.st [.int .i64, .int .i64, .bool, .int .i64]))), (109, .fn [.sl 177 (.st [.sl 266 (.st [.int .i64, .int .i64]), .sl 25 (.sl 3 (.int .i64))])] (.sl 126 (.st [.sl 203 (.st [.int .i64, .int .i64]), .sl 25 (.sl 3 (.int .i64))]))), (110, .fn [.sl 3 (.int .i64)] (.sl 3 (.int .i64))), (111, .fn [.sl 75 (.st [.str, .int .i64, .sl 131 (.st [.int .i64, .sl 3 (.int .i64), .sl 3 (.int .i64)])]), .sl 75 (.st [.str, .int .i64, .sl 131 (.st [.int .i64, .sl 3 (.int .i64), .sl 3 (.int .i64)])])] (.bool)), (112, .fn [.sl 69 (.st [.int .i64, .int .i64, .bool, .int .i64]), .sl 69 (.st [.int .i64, .int .i64, .bool, .int .i64])] (.bool)), (113, .fn [.sl 126 (.st [.sl 203 (.st [.int .i64, .int .i64]), .sl 25 (.sl 3 (.int .i64))]), .sl 126 (.st [.sl 203 (.st [.int .i64, .int .i64]), .sl 25 (.sl 3 (.int .i64))])] (.bool)), (114, .fn [.sl 3 (.int .i64), .sl 3 (.int .i64)] (.bool)), (122, .fn [.str] (.bool)), (123, .fn [.int .i64] (.str)), (124, .sl 203 (.st [.int .i64, .int .i64])), (125, .st [.sl 203 (.st [.int .i64, .int .i64]), .sl 25 (.sl 3 (.int .i64))]), (126, .st [.sl 203 (.st [.int .i64, .int .i64]), .sl 25 (.sl 3 (.int .i64))]), (130, .st [.int .i64, .sl 3 (.int .i64), .sl 3 (.int .i64)]), (131, .st [.int .i64, .sl 3 (.int .i64), .sl 3 (.int .i64)]), (134, .fn [.sl 9 (.str), .str] (.str)), (143, .fn [.st [.str, .int .i64, .sl 131 (.st [.int .i64, .sl 3 (.int .i64), .sl 3 (.int .i64)])], .st [.str, .int .i64, .sl 131 (.st [.int .i64, .sl 3 (.int .i64), .sl 3 (.int .i64)])]] (.bool)), (145, .fn [.st [.sl 203 (.st [.int .i64, .int .i64]), .sl 25 (.sl 3 (.int .i64))], .st [.sl 203 (.st [.int .i64, .int .i64]), .sl 25 (.sl 3 (.int .i64))]] (.bool)), (146, .fn [.int .i64, .int .i64, .int .i64] (.bool)), (147, .fn [.int .i64] (.bool)), (150, .fn [.st [.str, .int .i64, .sl 131 (.st [.int .i64, .sl 3 (.int .i64), .sl 3 (.int .i64)])], .int .i64, .int .i64] (.bool)), (151, .fn [.st [.sl 203 (.st [.int .i64, .int .i64]), .sl 25 (.sl 3 (.int .i64))]] (.bool)), (152, .fn [.sl 69 (.st [.int .i64, .int .i64, .bool, .int .i64]), .fn [.st [.int .i64, .int .i64, .bool, .int .i64]] (.bool)] (.bool)), (153, .fn [.st [.int .i64, .int .i64, .bool, .int .i64]] (.bool)), (154, .fn [.sl 75 (.st [.str, .int .i64, .sl 131 (.st [.int .i64, .sl 3 (.int .i64), .sl 3 (.int .i64)])]), .fn [.st [.str, .int .i64, .sl 131 (.st [.int .i64, .sl 3 (.int .i64), .sl 3 (.int .i64)])]] (.bool)] (.int .i64)), (155, .fn [.st [.str, .int .i64, .sl 131 (.st [.int .i64, .sl 3 (.int .i64), .sl 3 (.int .i64)])]] (.bool)), (164, .fn [.sl 3 (.int .i64), .int .i64] (.bool)), (170, .fn [.st [.str, .int .i64, .sl 263 (.st [.int .i64, .sl 3 (.int .i64), .sl 3 (.int .i64)])], .int .i64] (.int .i64)), (171, .sl 263 (.st [.int .i64, .sl 3 (.int .i64), .sl 3 (.int .i64)])), (172, .st [.str, .int .i64, .sl 263 (.st [.int .i64, .sl 3 (.int .i64), .sl 3 (.int .i64)])]), (173, .st [.str, .int .i64, .sl 263 (.st [.int .i64, .sl 3 (.int .i64), .sl 3 (.int .i64)])]), (174, .fn [.st [.sl 266 (.st [.int .i64, .int .i64]), .sl 25 (.sl 3 (.int .i64))], .int .i64] (.int .i64)), (175, .sl 266 (.st [.int .i64, .int .i64])), (176, .st [.sl 266 (.st [.int .i64, .int .i64]), .sl 25 (.sl 3 (.int .i64))]), (177, .st [.sl 266 (.st [.int .i64, .int .i64]), .sl 25 (.sl 3 (.int .i64))]), (178, .fn [.st [.int .i64, .sl 75 (.st [.str, .int .i64, .sl 131 (.st [.int .i64, .sl 3 (.int .i64), .sl 3 (.int .i64)])]), .sl 69 (.st [.int .i64, .int .i64, .bool, .int .i64]), .sl 126 (.st [.sl 203 (.st [.int .i64, .int .i64]), .sl 25 (.sl 3 (.int .i64))]), .sl 3 (.int .i64)], .st [.int .i64, .int .i64, .int .i64, .int .i64]] (.bool)), (179, .fn [.st [.str, .int .i64, .sl 263 (.st [.int .i64, .sl 3 (.int .i64), .sl 3 (.int .i64)])]] (.st [.str, .int .i64, .sl 131 (.st [.int .i64, .sl 3 (.int .i64), .sl 3 (.int .i64)])])), (180, .fn [.st [.int .i64, .int .i64, .bool, .int .i64]] (.st [.int .i64, .int .i64, .bool, .int .i64])), (181, .st [.int .i64, .int .i64, .bool, .int .i64]), (182, .fn [.st [.sl 266 (.st [.int .i64, .int .i64]), .sl 25 (.sl 3 (.int .i64))]] (.st [.sl 203 (.st [.int .i64, .int .i64]), .sl 25 (.sl 3 (.int .i64))])), (183, .fn [.str, .int .u8] (.int .i64)), (188, .fn [.st [.int .i64, .int .i64, .bool, .int .i64], .st [.int .i64, .int .i64, .bool, .int .i64]] (.bool)), (201, .fn [.sl 203 (.st [.int .i64, .int .i64])] (.bool)), (202, .st [.int .i64, .int .i64]), (203, .st [.int .i64, .int .i64]), (213, .fn [.st [.int .i64, .sl 3 (.int .i64), .sl 3 (.int .i64)], .st [.int .i64, .sl 3 (.int .i64), .sl 3 (.int .i64)]] (.bool)), (214, .fn [.sl 203 (.st [.int .i64, .int .i64]), .sl 203 (.st [.int .i64, .int .i64])] (.bool)), (218, .fn [.st [.int .i64, .sl 3 (.int .i64), .sl 3 (.int .i64)], .int .i64, .int .i64] (.bool)), (219, .fn [.sl 69 (.st [.int .i64, .int .i64, .bool, .int .i64]), .fn [.st [.int .i64, .int .i64, .bool, .int .i64]] (.bool)] (.int .i64)), (232, .fn [.sl 263 (.st [.int .i64, .sl 3 (.int .i64), .sl 3 (.int .i64)]), .int .i64] (.int .i64)), (233, .fn [.sl 266 (.st [.int .i64, .int .i64]), .int .i64] (.int .i64)), (234, .fn [.sl 25 (.sl 3 (.int .i64)), .int .i64] (.int .i64)), (235, .fn [.sl 263 (.st [.int .i64, .sl 3 (.int .i64), .sl 3 (.int .i64)])] (.sl 131 (.st [.int .i64, .sl 3 (.int .i64), .sl 3 (.int .i64)]))), (236, .fn [.sl 266 (.st [.int .i64, .int .i64])] (.sl 203 (.st [.int .i64, .int .i64]))), (237, .fn [.sl 25 (.sl 3 (.int .i64))] (.sl 25 (.sl 3 (.int .i64)))), (239, .fn [.sl 131 (.st [.int .i64, .sl 3 (.int .i64), .sl 3 (.int .i64)]), .sl 131 (.st [.int .i64, .sl 3 (.int .i64), .sl 3 (.int .i64)])] (.bool)), (240, .fn [.sl 25 (.sl 3 (.int .i64)), .sl 25 (.sl 3 (.int .i64))] (.bool)), (262, .fn [.st [.int .i64, .sl 3 (.int .i64), .sl 3 (.int .i64)], .int .i64] (.int .i64)), (263, .st [.int .i64, .sl 3 (.int .i64), .sl 3 (.int .i64)]), (264, .fn [.st [.int .i64, .sl 3 (.int .i64), .sl 3 (.int .i64)]] (.st [.int .i64, .sl 3 (.int .i64), .sl 3 (.int .i64)])), (265, .fn [.st [.int .i64, .int .i64]] (.st [.int .i64, .int .i64])), (266, .st [.int .i64, .int .i64]), (273, .fn [.st [.int .i64, .int .i64], .st [.int .i64, .int .i64]] (.bool))]
theorem tysOk : LkAll (TnOk Tryz.prog) tys := ⟨tn3, tn4, tn5, tn9, tn22, tn23, tn24, tn25, tn26, tn27, tn28, tn29, tn30, tn32, tn33, tn34, tn35, tn36, tn37, tn38, tn39, tn40, tn41, tn42, tn68, tn69, tn71, tn72, tn73, tn74, tn75, tn88, tn98, tn99, tn100, tn101, tn102, tn103, tn105, tn106, tn107, tn108, tn109, tn110, tn111, tn112, tn113, tn114, tn122, tn123, tn124, tn125, tn126, tn130, tn131, tn134, tn143, tn145, tn146, tn147, tn150, tn151, tn152, tn153, tn154, tn155, tn164, tn170, tn171, tn172, tn173, tn174, tn175, tn176, tn177, tn178, tn179, tn180, tn181, tn182, tn183, tn188, tn201, tn202, tn203, tn213, tn214, tn218, tn219, tn232, tn233, tn234, tn235, tn236, tn237, tn239, tn240, tn262, tn263, tn264, tn265, tn266, tn273, trivial⟩
noncomputable def tabName : String := ((Tryz.prog.globals[3]?).map (·.name)).getD (show String from default)
noncomputable def synName : String := ((Tryz.prog.globals[1]?).map (·.name)).getD (show String from default)
noncomputable def rngName : String := ((Tryz.prog.globals[2]?).map (·.name)).getD (show String from default)
noncomputable def base_ : Base := [(tabName, fun vs => vs = Lib.pow10Tab.map fun z => Value.int .u64 z), (synName, isErrV), (rngName, isErrV)]
theorem base_tab (w : World) (P : Prot) (h : BaseOk Tryz.prog base_ w P) : Lib.TabIs Tryz.prog w tabName .u64 Lib.pow10Tab := by
  obtain ⟨vs, e, h⟩ := h _ (show (tabName, _) ∈ base_ from List.mem_cons_self ..)
  cases (show vs = _ from e)
  exact varAt_tab h
theorem base_syn (w : World) (P : Prot) (h : BaseOk Tryz.prog base_ w P) : ∃ t p, w.cell? ⟨1, 0, none⟩ = some (.iface t p) := by
  obtain ⟨vs, e, h⟩ := h _ (show (synName, isErrV) ∈ base_ from List.mem_cons_of_mem _ (List.mem_cons_self ..))
  exact errAt h (by kernel_rfl) e
theorem base_rng (w : World) (P : Prot) (h : BaseOk Tryz.prog base_ w P) : ∃ t p, w.cell? ⟨2, 0, none⟩ = some (.iface t p) := by
  obtain ⟨vs, e, h⟩ := h _ (show (rngName, isErrV) ∈ base_ from List.mem_cons_of_mem _ (List.mem_cons_of_mem _ (List.mem_cons_self ..)))
  exact errAt h (by kernel_rfl) e
def laws_szIntS (x : ((List Int) × (Int × Unit))) (c : Unit) : (Option (Int × Unit)) :=
  (if (ltZ (subZ .i64 x.2.1 (lenI x.1)) 0) = true then (some ((-1), ())) else (some ((subZ .i64 x.2.1 (lenI x.1)), ())))
def H_laws_szIntS : Hd := ⟨[.sl 3 (.int .i64), .int .i64], [], none, .p, .int .i64, .p, []⟩
def T_laws_szIntS : FSig := ⟨H_laws_szIntS.ps, H_laws_szIntS.cs, H_laws_szIntS.io, H_laws_szIntS.im, H_laws_szIntS.R, H_laws_szIntS.m, laws_szIntS⟩
theorem E_laws_szIntS : fnOf tys [] Tryz.f49 H_laws_szIntS = T_laws_szIntS := by kernel_rfl
theorem K_laws_szIntS : SigB base_ Tryz.prog 49 T_laws_szIntS := (congrArg (SigB base_ Tryz.prog 49) E_laws_szIntS).mp (fnOf_ok rfl tysOk trivial Tryz.func49 (by decide) rfl (fun _ h => by cases h) (nilEq_of (by kernel_rfl)))
def laws_szMode (x : (D_Mode × (Int × Unit))) (c : Unit) : (Option (Int × Unit)) :=
  (Option.bind ((Option.bind (laws_szIntS (x.1.2.1, (x.2.1, ())) ()) fun v0 => (some v0.1)) : (Option Int)) fun v1 => (if (ltZ v1 0) = true then (some ((-1), ())) else (Option.bind ((Option.bind (laws_szIntS (x.1.2.2.1, (v1, ())) ()) fun v2 => (some v2.1)) : (Option Int)) fun v3 => (if (ltZ v3 0) = true then (some ((-1), ())) else (some (v3, ()))))))
def H_laws_szMode : Hd := ⟨[.st [.int .i64, .sl 3 (.int .i64), .sl 3 (.int .i64)], .int .i64], [], none, .p, .int .i64, .p, []⟩
def T_laws_szMode : FSig := ⟨H_laws_szMode.ps, H_laws_szMode.cs, H_laws_szMode.io, H_laws_szMode.im, H_laws_szMode.R, H_laws_szMode.m, laws_szMode⟩
theorem E_laws_szMode : fnOf tys [(49, T_laws_szIntS)] Tryz.f219 H_laws_szMode = T_laws_szMode := by kernel_rfl
theorem K_laws_szMode : SigB base_ Tryz.prog 219 T_laws_szMode := (congrArg (SigB base_ Tryz.prog 219) E_laws_szMode).mp (fnOf_ok rfl tysOk ⟨K_laws_szIntS, trivial⟩ Tryz.func219 (by decide) rfl (fun _ h => by cases h) (nilEq_of (by kernel_rfl)))
def laws_szModeS_L0 : (Int × ((List D_Mode) × (Int × Unit))) → Option (Out (Int × ((List D_Mode) × (Int × Unit))) ((Bool × (Int × ((List D_Mode) × (Int × Unit)))) ⊕ Empty) (Int × Unit)) :=
  (fun v0 => (if (ltZ v0.1 (lenI v0.2.1)) = true then (Option.bind (getI v0.2.1 v0.1) fun v1 => (Option.bind ((Option.bind (laws_szMode (v1, (v0.2.2.1, ())) ()) fun v2 => (some v2.1)) : (Option Int)) fun v3 => (if (ltZ v3 0) = true then (some (Out.ret ((-1), ()))) else (some (Out.norm ((addZ .i64 v0.1 1), (v0.2.1, (v3, ())))))))) else (some (Out.exit (Sum.inl ((ltZ v0.1 (lenI v0.2.1)), (v0.1, (v0.2.1, (v0.2.2.1, ())))))))))
def laws_szModeS (x : ((List D_Mode) × (Int × Unit))) (c : Unit) : (Option (Int × Unit)) :=
  (if (ltZ (subZ .i64 x.2.1 (lenI x.1)) 0) = true then (some ((-1), ())) else (Option.bind (loopN (A := (Int × ((List D_Mode) × (Int × Unit)))) big laws_szModeS_L0 (0, (x.1, ((subZ .i64 x.2.1 (lenI x.1)), ())))) fun v4 => (match v4 with | Out.norm v5 => none | Out.exit v6 => (match ((match v6 with | Sum.inl v9 => (Sum.inl (v9.2.2.2.1, ())) | Sum.inr v10 => (Empty.elim v10)) : ((Int × Unit) ⊕ Empty)) with | Sum.inl v7 => (some (v7.1, ())) | Sum.inr v8 => none) | Out.ret v11 => (some v11))))
def H_laws_szModeS : Hd := ⟨[.sl 263 (.st [.int .i64, .sl 3 (.int .i64), .sl 3 (.int .i64)]), .int .i64], [], none, .p, .int .i64, .p, []⟩
def T_laws_szModeS : FSig := ⟨H_laws_szModeS.ps, H_laws_szModeS.cs, H_laws_szModeS.io, H_laws_szModeS.im, H_laws_szModeS.R, H_laws_szModeS.m, laws_szModeS⟩
theorem E_laws_szModeS : fnOf tys [(219, T_laws_szMode)] Tryz.f180 H_laws_szModeS = T_laws_szModeS := by kernel_rfl
theorem K_laws_szModeS : SigB base_ Tryz.prog 180 T_laws_szModeS := (congrArg (SigB base_ Tryz.prog 180) E_laws_szModeS).mp (fnOf_ok rfl tysOk ⟨K_laws_szMode, trivial⟩ Tryz.func180 (by decide) rfl (fun _ h => by cases h) (nilEq_of (by kernel_rfl)))
def laws_szActivity (x : (D_Activity × (Int × Unit))) (c : Unit) : (Option (Int × Unit)) :=
  (if (ltZ (subZ .i64 x.2.1 (lenI x.1.1)) 0) = true then (some ((-1), ())) else (Option.bind ((Option.bind (laws_szModeS (x.1.2.2.1, ((subZ .i64 x.2.1 (lenI x.1.1)), ())) ()) fun v0 => (some v0.1)) : (Option Int)) fun v1 => (if (ltZ v1 0) = true then (some ((-1), ())) else (some (v1, ())))))
def H_laws_szActivity : Hd := ⟨[.st [.str, .int .i64, .sl 263 (.st [.int .i64, .sl 3 (.int .i64), .sl 3 (.int .i64)])], .int .i64], [], none, .p, .int .i64, .p, []⟩
def T_laws_szActivity : FSig := ⟨H_laws_szActivity.ps, H_laws_szActivity.cs, H_laws_szActivity.io, H_laws_szActivity.im, H_laws_szActivity.R, H_laws_szActivity.m, laws_szActivity⟩
theorem E_laws_szActivity : fnOf tys [(180, T_laws_szModeS)] Tryz.f121 H_laws_szActivity = T_laws_szActivity := by kernel_rfl
theorem K_laws_szActivity : SigB base_ Tryz.prog 121 T_laws_szActivity := (congrArg (SigB base_ Tryz.prog 121) E_laws_szActivity).mp (fnOf_ok rfl tysOk ⟨K_laws_szModeS, trivial⟩ Tryz.func121 (by decide) rfl (fun _ h => by cases h) (nilEq_of (by kernel_rfl)))
def laws_szActivityS_L0 : (Int × ((List D_Activity) × (Int × Unit))) → Option (Out (Int × ((List D_Activity) × (Int × Unit))) ((Bool × (Int × ((List D_Activity) × (Int × Unit)))) ⊕ Empty) (Int × Unit)) :=
  (fun v0 => (if (ltZ v0.1 (lenI v0.2.1)) = true then (Option.bind (getI v0.2.1 v0.1) fun v1 => (Option.bind ((Option.bind (laws_szActivity (v1, (v0.2.2.1, ())) ()) fun v2 => (some v2.1)) : (Option Int)) fun v3 => (if (ltZ v3 0) = true then (some (Out.ret ((-1), ()))) else (some (Out.norm ((addZ .i64 v0.1 1), (v0.2.1, (v3, ())))))))) else (some (Out.exit (Sum.inl ((ltZ v0.1 (lenI v0.2.1)), (v0.1, (v0.2.1, (v0.2.2.1, ())))))))))
def laws_szActivityS (x : ((List D_Activity) × (Int × Unit))) (c : Unit) : (Option (Int × Unit)) :=
  (if (ltZ (subZ .i64 x.2.1 (lenI x.1)) 0) = true then (some ((-1), ())) else (Option.bind (loopN (A := (Int × ((List D_Activity) × (Int × Unit)))) big laws_szActivityS_L0 (0, (x.1, ((subZ .i64 x.2.1 (lenI x.1)), ())))) fun v4 => (match v4 with | Out.norm v5 => none | Out.exit v6 => (match ((match v6 with | Sum.inl v9 => (Sum.inl (v9.2.2.2.1, ())) | Sum.inr v10 => (Empty.elim v10)) : ((Int × Unit) ⊕ Empty)) with | Sum.inl v7 => (some (v7.1, ())) | Sum.inr v8 => none) | Out.ret v11 => (some v11))))
def H_laws_szActivityS : Hd := ⟨[.sl 173 (.st [.str, .int .i64, .sl 263 (.st [.int .i64, .sl 3 (.int .i64), .sl 3 (.int .i64)])]), .int .i64], [], none, .p, .int .i64, .p, []⟩
def T_laws_szActivityS : FSig := ⟨H_laws_szActivityS.ps, H_laws_szActivityS.cs, H_laws_szActivityS.io, H_laws_szActivityS.im, H_laws_szActivityS.R, H_laws_szActivityS.m, laws_szActivityS⟩
theorem E_laws_szActivityS : fnOf tys [(121, T_laws_szActivity)] Tryz.f46 H_laws_szActivityS = T_laws_szActivityS := by kernel_rfl
theorem K_laws_szActivityS : SigB base_ Tryz.prog 46 T_laws_szActivityS := (congrArg (SigB base_ Tryz.prog 46) E_laws_szActivityS).mp (fnOf_ok rfl tysOk ⟨K_laws_szActivity, trivial⟩ Tryz.func46 (by decide) rfl (fun _ h => by cases h) (nilEq_of (by kernel_rfl)))
def laws_szLinkS (x : ((List D_Link) × (Int × Unit))) (c : Unit) : (Option (Int × Unit)) :=
  (if (ltZ (subZ .i64 x.2.1 (lenI x.1)) 0) = true then (some ((-1), ())) else (some ((subZ .i64 x.2.1 (lenI x.1)), ())))
def H_laws_szLinkS : Hd := ⟨[.sl 181 (.st [.int .i64, .int .i64, .bool, .int .i64]), .int .i64], [], none, .p, .int .i64, .p, []⟩
def T_laws_szLinkS : FSig := ⟨H_laws_szLinkS.ps, H_laws_szLinkS.cs, H_laws_szLinkS.io, H_laws_szLinkS.im, H_laws_szLinkS.R, H_laws_szLinkS.m, laws_szLinkS⟩
theorem E_laws_szLinkS : fnOf tys [] Tryz.f47 H_laws_szLinkS = T_laws_szLinkS := by kernel_rfl
theorem K_laws_szLinkS : SigB base_ Tryz.prog 47 T_laws_szLinkS := (congrArg (SigB base_ Tryz.prog 47) E_laws_szLinkS).mp (fnOf_ok rfl tysOk trivial Tryz.func47 (by decide) rfl (fun _ h => by cases h) (nilEq_of (by kernel_rfl)))
def laws_szStepS (x : ((List D_Step) × (Int × Unit))) (c : Unit) : (Option (Int × Unit)) :=
  (if (ltZ (subZ .i64 x.2.1 (lenI x.1)) 0) = true then (some ((-1), ())) else (some ((subZ .i64 x.2.1 (lenI x.1)), ())))
def H_laws_szStepS : Hd := ⟨[.sl 266 (.st [.int .i64, .int .i64]), .int .i64], [], none, .p, .int .i64, .p, []⟩
def T_laws_szStepS : FSig := ⟨H_laws_szStepS.ps, H_laws_szStepS.cs, H_laws_szStepS.io, H_laws_szStepS.im, H_laws_szStepS.R, H_laws_szStepS.m, laws_szStepS⟩
theorem E_laws_szStepS : fnOf tys [] Tryz.f181 H_laws_szStepS = T_laws_szStepS := by kernel_rfl
theorem K_laws_szStepS : SigB base_ Tryz.prog 181 T_laws_szStepS := (congrArg (SigB base_ Tryz.prog 181) E_laws_szStepS).mp (fnOf_ok rfl tysOk trivial Tryz.func181 (by decide) rfl (fun _ h => by cases h) (nilEq_of (by kernel_rfl)))
def laws_szIntSS_L0 : (Int × ((List (List Int)) × (Int × Unit))) → Option (Out (Int × ((List (List Int)) × (Int × Unit))) ((Bool × (Int × ((List (List Int)) × (Int × Unit)))) ⊕ Empty) (Int × Unit)) :=
  (fun v0 => (if (ltZ v0.1 (lenI v0.2.1)) = true then (Option.bind (getI v0.2.1 v0.1) fun v1 => (Option.bind ((Option.bind (laws_szIntS (v1, (v0.2.2.1, ())) ()) fun v2 => (some v2.1)) : (Option Int)) fun v3 => (if (ltZ v3 0) = true then (some (Out.ret ((-1), ()))) else (some (Out.norm ((addZ .i64 v0.1 1), (v0.2.1, (v3, ())))))))) else (some (Out.exit (Sum.inl ((ltZ v0.1 (lenI v0.2.1)), (v0.1, (v0.2.1, (v0.2.2.1, ())))))))))
def laws_szIntSS (x : ((List (List Int)) × (Int × Unit))) (c : Unit) : (Option (Int × Unit)) :=
  (if (ltZ (subZ .i64 x.2.1 (lenI x.1)) 0) = true then (some ((-1), ())) else (Option.bind (loopN (A := (Int × ((List (List Int)) × (Int × Unit)))) big laws_szIntSS_L0 (0, (x.1, ((subZ .i64 x.2.1 (lenI x.1)), ())))) fun v4 => (match v4 with | Out.norm v5 => none | Out.exit v6 => (match ((match v6 with | Sum.inl v9 => (Sum.inl (v9.2.2.2.1, ())) | Sum.inr v10 => (Empty.elim v10)) : ((Int × Unit) ⊕ Empty)) with | Sum.inl v7 => (some (v7.1, ())) | Sum.inr v8 => none) | Out.ret v11 => (some v11))))
def H_laws_szIntSS : Hd := ⟨[.sl 25 (.sl 3 (.int .i64)), .int .i64], [], none, .p, .int .i64, .p, []⟩
def T_laws_szIntSS : FSig := ⟨H_laws_szIntSS.ps, H_laws_szIntSS.cs, H_laws_szIntSS.io, H_laws_szIntSS.im, H_laws_szIntSS.R, H_laws_szIntSS.m, laws_szIntSS⟩
theorem E_laws_szIntSS : fnOf tys [(49, T_laws_szIntS)] Tryz.f182 H_laws_szIntSS = T_laws_szIntSS := by kernel_rfl
theorem K_laws_szIntSS : SigB base_ Tryz.prog 182 T_laws_szIntSS := (congrArg (SigB base_ Tryz.prog 182) E_laws_szIntSS).mp (fnOf_ok rfl tysOk ⟨K_laws_szIntS, trivial⟩ Tryz.func182 (by decide) rfl (fun _ h => by cases h) (nilEq_of (by kernel_rfl)))
def laws_szResource (x : (D_Resource × (Int × Unit))) (c : Unit) : (Option (Int × Unit)) :=
  (Option.bind ((Option.bind (laws_szStepS (x.1.1, (x.2.1, ())) ()) fun v0 => (some v0.1)) : (Option Int)) fun v1 => (if (ltZ v1 0) = true then (some ((-1), ())) else (Option.bind ((Option.bind (laws_szIntSS (x.1.2.1, (v1, ())) ()) fun v2 => (some v2.1)) : (Option Int)) fun v3 => (if (ltZ v3 0) = true then (some ((-1), ())) else (some (v3, ()))))))
def H_laws_szResource : Hd := ⟨[.st [.sl 266 (.st [.int .i64, .int .i64]), .sl 25 (.sl 3 (.int .i64))], .int .i64], [], none, .p, .int .i64, .p, []⟩
def T_laws_szResource : FSig := ⟨H_laws_szResource.ps, H_laws_szResource.cs, H_laws_szResource.io, H_laws_szResource.im, H_laws_szResource.R, H_laws_szResource.m, laws_szResource⟩
theorem E_laws_szResource : fnOf tys [(181, T_laws_szStepS), (182, T_laws_szIntSS)] Tryz.f122 H_laws_szResource = T_laws_szResource := by kernel_rfl
theorem K_laws_szResource : SigB base_ Tryz.prog 122 T_laws_szResource := (congrArg (SigB base_ Tryz.prog 122) E_laws_szResource).mp (fnOf_ok rfl tysOk ⟨K_laws_szStepS, K_laws_szIntSS, trivial⟩ Tryz.func122 (by decide) rfl (fun _ h => by cases h) (nilEq_of (by kernel_rfl)))
def laws_szResourceS_L0 : (Int × ((List D_Resource) × (Int × Unit))) → Option (Out (Int × ((List D_Resource) × (Int × Unit))) ((Bool × (Int × ((List D_Resource) × (Int × Unit)))) ⊕ Empty) (Int × Unit)) :=
  (fun v0 => (if (ltZ v0.1 (lenI v0.2.1)) = true then (Option.bind (getI v0.2.1 v0.1) fun v1 => (Option.bind ((Option.bind (laws_szResource (v1, (v0.2.2.1, ())) ()) fun v2 => (some v2.1)) : (Option Int)) fun v3 => (if (ltZ v3 0) = true then (some (Out.ret ((-1), ()))) else (some (Out.norm ((addZ .i64 v0.1 1), (v0.2.1, (v3, ())))))))) else (some (Out.exit (Sum.inl ((ltZ v0.1 (lenI v0.2.1)), (v0.1, (v0.2.1, (v0.2.2.1, ())))))))))
def laws_szResourceS (x : ((List D_Resource) × (Int × Unit))) (c : Unit) : (Option (Int × Unit)) :=
  (if (ltZ (subZ .i64 x.2.1 (lenI x.1)) 0) = true then (some ((-1), ())) else (Option.bind (loopN (A := (Int × ((List D_Resource) × (Int × Unit)))) big laws_szResourceS_L0 (0, (x.1, ((subZ .i64 x.2.1 (lenI x.1)), ())))) fun v4 => (match v4 with | Out.norm v5 => none | Out.exit v6 => (match ((match v6 with | Sum.inl v9 => (Sum.inl (v9.2.2.2.1, ())) | Sum.inr v10 => (Empty.elim v10)) : ((Int × Unit) ⊕ Empty)) with | Sum.inl v7 => (some (v7.1, ())) | Sum.inr v8 => none) | Out.ret v11 => (some v11))))
def H_laws_szResourceS : Hd := ⟨[.sl 177 (.st [.sl 266 (.st [.int .i64, .int .i64]), .sl 25 (.sl 3 (.int .i64))]), .int .i64], [], none, .p, .int .i64, .p, []⟩
def T_laws_szResourceS : FSig := ⟨H_laws_szResourceS.ps, H_laws_szResourceS.cs, H_laws_szResourceS.io, H_laws_szResourceS.im, H_laws_szResourceS.R, H_laws_szResourceS.m, laws_szResourceS⟩
theorem E_laws_szResourceS : fnOf tys [(122, T_laws_szResource)] Tryz.f48 H_laws_szResourceS = T_laws_szResourceS := by kernel_rfl
theorem K_laws_szResourceS : SigB base_ Tryz.prog 48 T_laws_szResourceS := (congrArg (SigB base_ Tryz.prog 48) E_laws_szResourceS).mp (fnOf_ok rfl tysOk ⟨K_laws_szResource, trivial⟩ Tryz.func48 (by decide) rfl (fun _ h => by cases h) (nilEq_of (by kernel_rfl)))
def laws_szProject (x : (D_Project × (Int × Unit))) (c : Unit) : (Option (Int × Unit)) :=
  (Option.bind ((Option.bind (laws_szActivityS (x.1.2.1, (x.2.1, ())) ()) fun v0 => (some v0.1)) : (Option Int)) fun v1 => (if (ltZ v1 0) = true then (some ((-1), ())) else (Option.bind ((Option.bind (laws_szLinkS (x.1.2.2.1, (v1, ())) ()) fun v2 => (some v2.1)) : (Option Int)) fun v3 => (if (ltZ v3 0) = true then (some ((-1), ())) else (Option.bind ((Option.bind (laws_szResourceS (x.1.2.2.2.1, (v3, ())) ()) fun v4 => (some v4.1)) : (Option Int)) fun v5 => (if (ltZ v5 0) = true then (some ((-1), ())) else (Option.bind ((Option.bind (laws_szIntS (x.1.2.2.2.2.1, (v5, ())) ()) fun v6 => (some v6.1)) : (Option Int)) fun v7 => (if (ltZ v7 0) = true then (some ((-1), ())) else (some (v7, ()))))))))))
def H_laws_szProject : Hd := ⟨[.st [.int .i64, .sl 173 (.st [.str, .int .i64, .sl 263 (.st [.int .i64, .sl 3 (.int .i64), .sl 3 (.int .i64)])]), .sl 181 (.st [.int .i64, .int .i64, .bool, .int .i64]), .sl 177 (.st [.sl 266 (.st [.int .i64, .int .i64]), .sl 25 (.sl 3 (.int .i64))]), .sl 3 (.int .i64)], .int .i64], [], none, .p, .int .i64, .p, []⟩
def T_laws_szProject : FSig := ⟨H_laws_szProject.ps, H_laws_szProject.cs, H_laws_szProject.io, H_laws_szProject.im, H_laws_szProject.R, H_laws_szProject.m, laws_szProject⟩
theorem E_laws_szProject : fnOf tys [(46, T_laws_szActivityS), (47, T_laws_szLinkS), (48, T_laws_szResourceS), (49, T_laws_szIntS)] Tryz.f6 H_laws_szProject = T_laws_szProject := by kernel_rfl
theorem K_laws_szProject : SigB base_ Tryz.prog 6 T_laws_szProject := (congrArg (SigB base_ Tryz.prog 6) E_laws_szProject).mp (fnOf_ok rfl tysOk ⟨K_laws_szActivityS, K_laws_szLinkS, K_laws_szResourceS, K_laws_szIntS, trivial⟩ Tryz.func6 (by decide) rfl (fun _ h => by cases h) (nilEq_of (by kernel_rfl)))
def spec_SplitAny_L0 : (Int × (Int × ((List UInt8) × ((List (List UInt8)) × ((List UInt8) × (Int × Unit)))))) → Option (Out (Int × (Int × ((List UInt8) × ((List (List UInt8)) × ((List UInt8) × (Int × Unit)))))) ((Bool × (Int × (Int × ((List UInt8) × ((List (List UInt8)) × ((List UInt8) × (Int × Unit))))))) ⊕ ((Int × ((List UInt8) × ((List (List UInt8)) × ((List UInt8) × (Int × Unit))))) ⊕ Empty)) ((List (List UInt8)) × Unit)) :=
  (fun v1 => (if (ltZ v1.1 (lenI v1.2.2.1)) = true then (Option.bind (byteAt v1.2.2.2.2.1 v1.2.1) fun v2 => (Option.bind (byteAt v1.2.2.1 v1.1) fun v3 => (if (eqZ v2 v3) = true then (Option.bind (cutI v1.2.2.2.2.1 v1.2.2.2.2.2.1 v1.2.1) fun v4 => (Option.bind (addI v1.2.2.2.1 (v4 :: [])) fun v5 => (some (Out.exit (Sum.inr (Sum.inl (v1.2.1, (v1.2.2.1, (v5, (v1.2.2.2.2.1, ((addZ .i64 v1.2.1 1), ()))))))))))) else (some (Out.norm ((addZ .i64 v1.1 1), (v1.2.1, (v1.2.2.1, (v1.2.2.2.1, (v1.2.2.2.2.1, (v1.2.2.2.2.2.1, ()))))))))))) else (some (Out.exit (Sum.inl ((ltZ v1.1 (lenI v1.2.2.1)), (v1.1, (v1.2.1, (v1.2.2.1, (v1.2.2.2.1, (v1.2.2.2.2.1, (v1.2.2.2.2.2.1, ()))))))))))))
def spec_SplitAny_L1 : (Int × ((List UInt8) × ((List (List UInt8)) × ((List UInt8) × (Int × Unit))))) → Option (Out (Int × ((List UInt8) × ((List (List UInt8)) × ((List UInt8) × (Int × Unit))))) ((Bool × (Int × ((List UInt8) × ((List (List UInt8)) × ((List UInt8) × (Int × Unit)))))) ⊕ Empty) ((List (List UInt8)) × Unit)) :=
  (fun v0 => (if (ltZ v0.1 (lenI v0.2.2.2.1)) = true then (Option.bind (loopN (A := (Int × (Int × ((List UInt8) × ((List (List UInt8)) × ((List UInt8) × (Int × Unit))))))) big spec_SplitAny_L0 (0, (v0.1, (v0.2.1, (v0.2.2.1, (v0.2.2.2.1, (v0.2.2.2.2.1, ()))))))) fun v6 => (match v6 with | Out.norm v7 => none | Out.exit v8 => (match ((match v8 with | Sum.inl v13 => (Sum.inl (v13.2.2.1, (v13.2.2.2.1, (v13.2.2.2.2.1, (v13.2.2.2.2.2.1, (v13.2.2.2.2.2.2.1, ())))))) | Sum.inr v14 => (match v14 with | Sum.inl v15 => (Sum.inl (v15.1, (v15.2.1, (v15.2.2.1, (v15.2.2.2.1, (v15.2.2.2.2.1, ())))))) | Sum.inr v16 => (Empty.elim v16))) : ((Int × ((List UInt8) × ((List (List UInt8)) × ((List UInt8) × (Int × Unit))))) ⊕ Empty)) with | Sum.inl v9 => (some (Out.norm ((addZ .i64 v9.1 1), (v9.2.1, (v9.2.2.1, (v9.2.2.2.1, (v9.2.2.2.2.1, ()))))))) | Sum.inr v10 => (match ((Empty.elim v10) : ((Int × ((List UInt8) × ((List (List UInt8)) × ((List UInt8) × (Int × Unit))))) ⊕ Empty)) with | Sum.inl v11 => (some (Out.norm ((addZ .i64 v11.1 1), (v11.2.1, (v11.2.2.1, (v11.2.2.2.1, (v11.2.2.2.2.1, ()))))))) | Sum.inr v12 => (some (Out.exit (Sum.inr (Empty.elim v12)))))) | Out.ret v17 => (some (Out.ret v17)))) else (some (Out.exit (Sum.inl ((ltZ v0.1 (lenI v0.2.2.2.1)), (v0.1, (v0.2.1, (v0.2.2.1, (v0.2.2.2.1, (v0.2.2.2.2.1, ())))))))))))
def spec_SplitAny (x : ((List UInt8) × ((List UInt8) × Unit))) (c : Unit) : (Option ((List (List UInt8)) × Unit)) :=
  (Option.bind (loopN (A := (Int × ((List UInt8) × ((List (List UInt8)) × ((List UInt8) × (Int × Unit)))))) big spec_SplitAny_L1 (0, (x.2.1, ([], (x.1, (0, ())))))) fun v18 => (match v18 with | Out.norm v19 => none | Out.exit v20 => (match ((match v20 with | Sum.inl v25 => (Sum.inl (v25.2.2.2.1, (v25.2.2.2.2.1, (v25.2.2.2.2.2.1, ())))) | Sum.inr v26 => (Empty.elim v26)) : (((List (List UInt8)) × ((List UInt8) × (Int × Unit))) ⊕ Empty)) with | Sum.inl v21 => (Option.bind (cutI v21.2.1 v21.2.2.1 (lenI v21.2.1)) fun v22 => (Option.bind (addI v21.1 (v22 :: [])) fun v23 => (some (v23, ())))) | Sum.inr v24 => none) | Out.ret v27 => (some v27)))
def H_spec_SplitAny : Hd := ⟨[.str, .str], [], none, .p, .sl 9 (.str), (Ty.all (.sl 9 (.str))), []⟩
def T_spec_SplitAny : FSig := ⟨H_spec_SplitAny.ps, H_spec_SplitAny.cs, H_spec_SplitAny.io, H_spec_SplitAny.im, H_spec_SplitAny.R, H_spec_SplitAny.m, spec_SplitAny⟩
theorem E_spec_SplitAny : fnOf tys [] Tryz.f50 H_spec_SplitAny = T_spec_SplitAny := by kernel_rfl
theorem K_spec_SplitAny : SigB base_ Tryz.prog 50 T_spec_SplitAny := (congrArg (SigB base_ Tryz.prog 50) E_spec_SplitAny).mp (fnOf_ok rfl tysOk trivial Tryz.func50 (by decide) rfl (fun _ h => by cases h) (nilEq_of (by kernel_rfl)))
def spec_l01In (x : (Int × D_Step)) (c : Unit) : (Option (Bool × Unit)) :=
  (Option.bind ((if (leZ x.2.1 x.1) = true then (some ((leZ x.1 x.2.2.1), ())) else (some (false, ()))) : (Option (Bool × Unit))) fun v0 => (some (v0.1, ())))
def H_spec_l01In : Hd := ⟨[.int .i64, .int .i64, .int .i64], [], none, .p, .bool, .p, []⟩
def T_spec_l01In : FSig := ⟨H_spec_l01In.ps, H_spec_l01In.cs, H_spec_l01In.io, H_spec_l01In.im, H_spec_l01In.R, H_spec_l01In.m, spec_l01In⟩
theorem E_spec_l01In : fnOf tys [] Tryz.f183 H_spec_l01In = T_spec_l01In := by kernel_rfl
theorem K_spec_l01In : SigB base_ Tryz.prog 183 T_spec_l01In := (congrArg (SigB base_ Tryz.prog 183) E_spec_l01In).mp (fnOf_ok rfl tysOk trivial Tryz.func183 (by decide) rfl (fun _ h => by cases h) (nilEq_of (by kernel_rfl)))
def H_spec_FormatInt : Hd := ⟨[.int .i64], [], none, .p, .str, .p, []⟩
def spec_FormatInt_r0 : (Int × Unit) → Unit → Option ((List UInt8) × Unit) := fun _ _ => none
def T_spec_FormatInt_r0 : FSig := ⟨H_spec_FormatInt.ps, H_spec_FormatInt.cs, H_spec_FormatInt.io, H_spec_FormatInt.im, H_spec_FormatInt.R, H_spec_FormatInt.m, spec_FormatInt_r0⟩
theorem K_spec_FormatInt_r0 : SigB base_ Tryz.prog 123 T_spec_FormatInt_r0 := ⟨⟨Tryz.f123, Tryz.func123, by decide, rfl⟩, fun _ _ _ _ _ _ _ _ _ _ _ _ _ _ h => by cases h⟩
def spec_FormatInt_r1_L0 : (Int × ((List UInt8) × Unit)) → Option (Out (Int × ((List UInt8) × Unit)) ((Bool × (Int × ((List UInt8) × Unit))) ⊕ Empty) ((List UInt8) × Unit)) :=
  (fun v5 => (if (ltZ 9 v5.1) = true then (Option.bind (remZ v5.1 10) fun v6 => (Option.bind (addI (ofBytes ((wrapI .u8 (addZ .i64 48 v6)) :: [])) v5.2.1) fun v7 => (Option.bind (quoZ .i64 v5.1 10) fun v8 => (some (Out.norm (v8, (v7, ()))))))) else (some (Out.exit (Sum.inl ((ltZ 9 v5.1), (v5.1, (v5.2.1, ()))))))))
def spec_FormatInt_r1 (x : (Int × Unit)) (c : Unit) : (Option ((List UInt8) × Unit)) :=
  (Option.bind ((Option.bind (spec_l01In (x.1, ((-100000), (100000, ()))) ()) fun v0 => (some v0.1)) : (Option Bool)) fun v1 => (if (notB v1) = true then (some ([], ())) else (if (ltZ x.1 0) = true then (Option.bind ((Option.bind (spec_FormatInt_r0 ((subZ .i64 0 x.1), ()) ()) fun v2 => (some v2.1)) : (Option (List UInt8))) fun v3 => (Option.bind (addI ([45] : List UInt8) v3) fun v4 => (some (v4, ())))) else (Option.bind (loopN (A := (Int × ((List UInt8) × Unit))) big spec_FormatInt_r1_L0 (x.1, ([], ()))) fun v9 => (match v9 with | Out.norm v10 => none | Out.exit v11 => (match ((match v11 with | Sum.inl v15 => (Sum.inl (v15.2.1, (v15.2.2.1, ()))) | Sum.inr v16 => (Empty.elim v16)) : ((Int × ((List UInt8) × Unit)) ⊕ Empty)) with | Sum.inl v12 => (Option.bind (addI (ofBytes ((wrapI .u8 (addZ .i64 48 v12.1)) :: [])) v12.2.1) fun v13 => (some (v13, ()))) | Sum.inr v14 => none) | Out.ret v17 => (some v17))))))
def T_spec_FormatInt_r1 : FSig := ⟨H_spec_FormatInt.ps, H_spec_FormatInt.cs, H_spec_FormatInt.io, H_spec_FormatInt.im, H_spec_FormatInt.R, H_spec_FormatInt.m, spec_FormatInt_r1⟩
theorem E_spec_FormatInt_r1 : fnOf tys [(123, T_spec_FormatInt_r0), (183, T_spec_l01In)] Tryz.f123 H_spec_FormatInt = T_spec_FormatInt_r1 := by kernel_rfl
theorem K_spec_FormatInt_r1 : SigB base_ Tryz.prog 123 T_spec_FormatInt_r1 := (congrArg (SigB base_ Tryz.prog 123) E_spec_FormatInt_r1).mp (fnOf_ok rfl tysOk ⟨K_spec_FormatInt_r0, K_spec_l01In, trivial⟩ Tryz.func123 (by decide) rfl (fun _ h => by cases h) (nilEq_of (by kernel_rfl)))
def spec_FormatInt_L0 : (Int × ((List UInt8) × Unit)) → Option (Out (Int × ((List UInt8) × Unit)) ((Bool × (Int × ((List UInt8) × Unit))) ⊕ Empty) ((List UInt8) × Unit)) :=
  (fun v5 => (if (ltZ 9 v5.1) = true then (Option.bind (remZ v5.1 10) fun v6 => (Option.bind (addI (ofBytes ((wrapI .u8 (addZ .i64 48 v6)) :: [])) v5.2.1) fun v7 => (Option.bind (quoZ .i64 v5.1 10) fun v8 => (some (Out.norm (v8, (v7, ()))))))) else (some (Out.exit (Sum.inl ((ltZ 9 v5.1), (v5.1, (v5.2.1, ()))))))))
def spec_FormatInt (x : (Int × Unit)) (c : Unit) : (Option ((List UInt8) × Unit)) :=
  (Option.bind ((Option.bind (spec_l01In (x.1, ((-100000), (100000, ()))) ()) fun v0 => (some v0.1)) : (Option Bool)) fun v1 => (if (notB v1) = true then (some ([], ())) else (if (ltZ x.1 0) = true then (Option.bind ((Option.bind (spec_FormatInt_r1 ((subZ .i64 0 x.1), ()) ()) fun v2 => (some v2.1)) : (Option (List UInt8))) fun v3 => (Option.bind (addI ([45] : List UInt8) v3) fun v4 => (some (v4, ())))) else (Option.bind (loopN (A := (Int × ((List UInt8) × Unit))) big spec_FormatInt_L0 (x.1, ([], ()))) fun v9 => (match v9 with | Out.norm v10 => none | Out.exit v11 => (match ((match v11 with | Sum.inl v15 => (Sum.inl (v15.2.1, (v15.2.2.1, ()))) | Sum.inr v16 => (Empty.elim v16)) : ((Int × ((List UInt8) × Unit)) ⊕ Empty)) with | Sum.inl v12 => (Option.bind (addI (ofBytes ((wrapI .u8 (addZ .i64 48 v12.1)) :: [])) v12.2.1) fun v13 => (some (v13, ()))) | Sum.inr v14 => none) | Out.ret v17 => (some v17))))))
def T_spec_FormatInt : FSig := ⟨H_spec_FormatInt.ps, H_spec_FormatInt.cs, H_spec_FormatInt.io, H_spec_FormatInt.im, H_spec_FormatInt.R, H_spec_FormatInt.m, spec_FormatInt⟩
theorem E_spec_FormatInt : fnOf tys [(123, T_spec_FormatInt_r1), (183, T_spec_l01In)] Tryz.f123 H_spec_FormatInt = T_spec_FormatInt := by kernel_rfl
theorem K_spec_FormatInt : SigB base_ Tryz.prog 123 T_spec_FormatInt := (congrArg (SigB base_ Tryz.prog 123) E_spec_FormatInt).mp (fnOf_ok rfl tysOk ⟨K_spec_FormatInt_r1, K_spec_l01In, trivial⟩ Tryz.func123 (by decide) rfl (fun _ h => by cases h) (nilEq_of (by kernel_rfl)))
def spec_ParseInt_L0 : (Int × (Bool × ((List UInt8) × (Int × Unit)))) → Option (Out (Int × (Bool × ((List UInt8) × (Int × Unit)))) ((Bool × (Int × (Bool × ((List UInt8) × (Int × Unit))))) ⊕ Empty) ((Int × (Bool × Unit)) × Unit)) :=
  (fun v2 => (if (ltZ v2.1 (lenI v2.2.2.1)) = true then (Option.bind (byteAt v2.2.2.1 v2.1) fun v3 => (Option.bind ((if (eqZ v2.1 0) = true then (some (v2.2.1, (v2.2.2.2.1, ((subZ .i64 (wrapI .i64 v3) 48), (v2.1, (v2.2.1, (v2.2.2.1, ()))))))) else (some (false, (v2.2.2.2.1, ((subZ .i64 (wrapI .i64 v3) 48), (v2.1, (v2.2.1, (v2.2.2.1, ())))))))) : (Option (Bool × (Int × (Int × (Int × (Bool × ((List UInt8) × Unit)))))))) fun v4 => (if v4.1 = true then (some (Out.norm ((addZ .i64 v4.2.2.2.1 1), (v4.2.2.2.2.1, (v4.2.2.2.2.2.1, (v4.2.1, ())))))) else (Option.bind ((if (ltZ v4.2.2.1 0) = true then (some (true, (v4.2.1, (v4.2.2.1, (v4.2.2.2.1, (v4.2.2.2.2.1, (v4.2.2.2.2.2.1, ()))))))) else (Option.bind ((if (ltZ 9 v4.2.2.1) = true then (some (true, (v4.2.1, (v4.2.2.1, (v4.2.2.2.1, (v4.2.2.2.2.1, (v4.2.2.2.2.2.1, ()))))))) else (some ((ltZ 8 (lenI v4.2.2.2.2.2.1)), (v4.2.1, (v4.2.2.1, (v4.2.2.2.1, (v4.2.2.2.2.1, (v4.2.2.2.2.2.1, ())))))))) : (Option (Bool × (Int × (Int × (Int × (Bool × ((List UInt8) × Unit)))))))) fun v5 => (some (v5.1, (v5.2.1, (v5.2.2.1, (v5.2.2.2.1, (v5.2.2.2.2.1, (v5.2.2.2.2.2.1, ()))))))))) : (Option (Bool × (Int × (Int × (Int × (Bool × ((List UInt8) × Unit)))))))) fun v6 => (if v6.1 = true then (some (Out.ret ((0, (false, ())), ()))) else (some (Out.norm ((addZ .i64 v6.2.2.2.1 1), (v6.2.2.2.2.1, (v6.2.2.2.2.2.1, ((addZ .i64 (mulZ .i64 v6.2.1 10) v6.2.2.1), ()))))))))))) else (some (Out.exit (Sum.inl ((ltZ v2.1 (lenI v2.2.2.1)), (v2.1, (v2.2.1, (v2.2.2.1, (v2.2.2.2.1, ()))))))))))
def spec_ParseInt (x : ((List UInt8) × Unit)) (c : Unit) : (Option ((Int × (Bool × Unit)) × Unit)) :=
  (Option.bind ((if (ltZ 0 (lenI x.1)) = true then (Option.bind (byteAt x.1 0) fun v0 => (some ((eqZ v0 45), (x.1, (0, ()))))) else (some (false, (x.1, (0, ()))))) : (Option (Bool × ((List UInt8) × (Int × Unit))))) fun v1 => (Option.bind (loopN (A := (Int × (Bool × ((List UInt8) × (Int × Unit))))) big spec_ParseInt_L0 (0, (v1.1, (v1.2.1, (v1.2.2.1, ()))))) fun v7 => (match v7 with | Out.norm v8 => none | Out.exit v9 => (match ((match v9 with | Sum.inl v22 => (Sum.inl (v22.2.2.1, (v22.2.2.2.1, (v22.2.2.2.2.1, ())))) | Sum.inr v23 => (Empty.elim v23)) : ((Bool × ((List UInt8) × (Int × Unit))) ⊕ Empty)) with | Sum.inl v10 => (Option.bind ((if v10.1 = true then (some (Out.norm (v10.2.1, ((subZ .i64 0 v10.2.2.1), ())))) else (some (Out.norm (v10.2.1, (v10.2.2.1, ()))))) : (Option (Out ((List UInt8) × (Int × Unit)) Empty ((Int × (Bool × Unit)) × Unit)))) fun v11 => (match ((match v11 with | Out.norm v18 => (Out.norm v18) | Out.exit v19 => (Out.exit v19) | Out.ret v20 => (Out.ret v20)) : (Out ((List UInt8) × (Int × Unit)) Empty ((Int × (Bool × Unit)) × Unit))) with | Out.norm v12 => (Option.bind ((if (eqS v12.1 []) = true then (some (true, (v12.2.1, ()))) else (Option.bind ((Option.bind (spec_FormatInt (v12.2.1, ()) ()) fun v13 => (some v13.1)) : (Option (List UInt8))) fun v14 => (some ((notB (eqS v14 v12.1)), (v12.2.1, ()))))) : (Option (Bool × (Int × Unit)))) fun v15 => (if v15.1 = true then (some ((0, (false, ())), ())) else (some ((v15.2.1, (true, ())), ())))) | Out.exit v16 => none | Out.ret v17 => (some v17))) | Sum.inr v21 => none) | Out.ret v24 => (some v24))))
def H_spec_ParseInt : Hd := ⟨[.str], [], none, .p, .tup [.int .i64, .bool], .p, []⟩
def T_spec_ParseInt : FSig := ⟨H_spec_ParseInt.ps, H_spec_ParseInt.cs, H_spec_ParseInt.io, H_spec_ParseInt.im, H_spec_ParseInt.R, H_spec_ParseInt.m, spec_ParseInt⟩
theorem E_spec_ParseInt : fnOf tys [(123, T_spec_FormatInt)] Tryz.f51 H_spec_ParseInt = T_spec_ParseInt := by kernel_rfl
theorem K_spec_ParseInt : SigB base_ Tryz.prog 51 T_spec_ParseInt := (congrArg (SigB base_ Tryz.prog 51) E_spec_ParseInt).mp (fnOf_ok rfl tysOk ⟨K_spec_FormatInt, trivial⟩ Tryz.func51 (by decide) rfl (fun _ h => by cases h) (nilEq_of (by kernel_rfl)))
def spec_ActivityIndex_L0 : (Int × (Int × ((List D_Activity) × ((List UInt8) × Unit)))) → Option (Out (Int × (Int × ((List D_Activity) × ((List UInt8) × Unit)))) ((Bool × (Int × (Int × ((List D_Activity) × ((List UInt8) × Unit))))) ⊕ Empty) (Int × Unit)) :=
  (fun v0 => (if (ltZ v0.1 v0.2.1) = true then (Option.bind (getI v0.2.2.1 v0.1) fun v1 => (if (eqS v1.1 v0.2.2.2.1) = true then (some (Out.ret (v0.1, ()))) else (some (Out.norm ((addZ .i64 v0.1 1), (v0.2.1, (v0.2.2.1, (v0.2.2.2.1, ())))))))) else (some (Out.exit (Sum.inl ((ltZ v0.1 v0.2.1), (v0.1, (v0.2.1, (v0.2.2.1, (v0.2.2.2.1, ()))))))))))
def spec_ActivityIndex (x : (D_Project × ((List UInt8) × Unit))) (c : Unit) : (Option (Int × Unit)) :=
  (Option.bind (loopN (A := (Int × (Int × ((List D_Activity) × ((List UInt8) × Unit))))) big spec_ActivityIndex_L0 (0, ((lenI x.1.2.1), (x.1.2.1, (x.2.1, ()))))) fun v2 => (match v2 with | Out.norm v3 => none | Out.exit v4 => (match ((match v4 with | Sum.inl v7 => (Sum.inl ()) | Sum.inr v8 => (Empty.elim v8)) : (Unit ⊕ Empty)) with | Sum.inl v5 => (some ((-1), ())) | Sum.inr v6 => none) | Out.ret v9 => (some v9)))
def H_spec_ActivityIndex : Hd := ⟨[.st [.int .i64, .sl 75 (.st [.str, .int .i64, .sl 131 (.st [.int .i64, .sl 3 (.int .i64), .sl 3 (.int .i64)])]), .sl 69 (.st [.int .i64, .int .i64, .bool, .int .i64]), .sl 126 (.st [.sl 203 (.st [.int .i64, .int .i64]), .sl 25 (.sl 3 (.int .i64))]), .sl 3 (.int .i64)], .str], [], none, .p, .int .i64, .p, []⟩
def T_spec_ActivityIndex : FSig := ⟨H_spec_ActivityIndex.ps, H_spec_ActivityIndex.cs, H_spec_ActivityIndex.io, H_spec_ActivityIndex.im, H_spec_ActivityIndex.R, H_spec_ActivityIndex.m, spec_ActivityIndex⟩
theorem E_spec_ActivityIndex : fnOf tys [] Tryz.f52 H_spec_ActivityIndex = T_spec_ActivityIndex := by kernel_rfl
theorem K_spec_ActivityIndex : SigB base_ Tryz.prog 52 T_spec_ActivityIndex := (congrArg (SigB base_ Tryz.prog 52) E_spec_ActivityIndex).mp (fnOf_ok rfl tysOk trivial Tryz.func52 (by decide) rfl (fun _ h => by cases h) (nilEq_of (by kernel_rfl)))
def spec_l04Nums_L0 : (Int × (Int × ((List Int) × ((List Int) × (Int × Unit))))) → Option (Out (Int × (Int × ((List Int) × ((List Int) × (Int × Unit))))) ((Bool × (Int × (Int × ((List Int) × ((List Int) × (Int × Unit)))))) ⊕ Empty) (Bool × Unit)) :=
  (fun v0 => (if (ltZ v0.1 v0.2.1) = true then (Option.bind (getI v0.2.2.1 v0.1) fun v1 => (Option.bind ((Option.bind (spec_l01In (v1, (0, (20, ()))) ()) fun v2 => (some v2.1)) : (Option Bool)) fun v3 => (if (notB v3) = true then (some (Out.ret (false, ()))) else (some (Out.norm ((addZ .i64 v0.1 1), (v0.2.1, (v0.2.2.1, (v0.2.2.2.1, (v0.2.2.2.2.1, ())))))))))) else (some (Out.exit (Sum.inl ((ltZ v0.1 v0.2.1), (v0.1, (v0.2.1, (v0.2.2.1, (v0.2.2.2.1, (v0.2.2.2.2.1, ())))))))))))
def spec_l04Nums (x : ((List Int) × (Int × Unit))) (c : Unit) : (Option (Bool × Unit)) :=
  (Option.bind (loopN (A := (Int × (Int × ((List Int) × ((List Int) × (Int × Unit)))))) big spec_l04Nums_L0 (0, ((lenI x.1), (x.1, (x.1, (x.2.1, ())))))) fun v4 => (match v4 with | Out.norm v5 => none | Out.exit v6 => (match ((match v6 with | Sum.inl v9 => (Sum.inl (v9.2.2.2.2.1, (v9.2.2.2.2.2.1, ()))) | Sum.inr v10 => (Empty.elim v10)) : (((List Int) × (Int × Unit)) ⊕ Empty)) with | Sum.inl v7 => (some ((eqZ (lenI v7.1) v7.2.1), ())) | Sum.inr v8 => none) | Out.ret v11 => (some v11)))
def H_spec_l04Nums : Hd := ⟨[.sl 3 (.int .i64), .int .i64], [], none, .p, .bool, .p, []⟩
def T_spec_l04Nums : FSig := ⟨H_spec_l04Nums.ps, H_spec_l04Nums.cs, H_spec_l04Nums.io, H_spec_l04Nums.im, H_spec_l04Nums.R, H_spec_l04Nums.m, spec_l04Nums⟩
theorem E_spec_l04Nums : fnOf tys [(183, T_spec_l01In)] Tryz.f256 H_spec_l04Nums = T_spec_l04Nums := by kernel_rfl
theorem K_spec_l04Nums : SigB base_ Tryz.prog 256 T_spec_l04Nums := (congrArg (SigB base_ Tryz.prog 256) E_spec_l04Nums).mp (fnOf_ok rfl tysOk ⟨K_spec_l01In, trivial⟩ Tryz.func256 (by decide) rfl (fun _ h => by cases h) (nilEq_of (by kernel_rfl)))
def spec_ModeOk (x : (D_Mode × D_Step)) (c : Unit) : (Option (Bool × Unit)) :=
  (Option.bind ((Option.bind (spec_l01In (x.1.1, (1, (12, ()))) ()) fun v0 => (some v0.1)) : (Option Bool)) fun v1 => (Option.bind ((if v1 = true then (Option.bind ((Option.bind (spec_l04Nums (x.1.2.1, (x.2.1, ())) ()) fun v2 => (some v2.1)) : (Option Bool)) fun v3 => (Option.bind ((if v3 = true then (Option.bind ((Option.bind (spec_l04Nums (x.1.2.2.1, (x.2.2.1, ())) ()) fun v4 => (some v4.1)) : (Option Bool)) fun v5 => (some (v5, ()))) else (some (false, ()))) : (Option (Bool × Unit))) fun v6 => (some (v6.1, ())))) else (some (false, ()))) : (Option (Bool × Unit))) fun v7 => (some (v7.1, ()))))
def H_spec_ModeOk : Hd := ⟨[.st [.int .i64, .sl 3 (.int .i64), .sl 3 (.int .i64)], .int .i64, .int .i64], [], none, .p, .bool, .p, []⟩
def T_spec_ModeOk : FSig := ⟨H_spec_ModeOk.ps, H_spec_ModeOk.cs, H_spec_ModeOk.io, H_spec_ModeOk.im, H_spec_ModeOk.R, H_spec_ModeOk.m, spec_ModeOk⟩
theorem E_spec_ModeOk : fnOf tys [(183, T_spec_l01In), (256, T_spec_l04Nums)] Tryz.f244 H_spec_ModeOk = T_spec_ModeOk := by kernel_rfl
theorem K_spec_ModeOk : SigB base_ Tryz.prog 244 T_spec_ModeOk := (congrArg (SigB base_ Tryz.prog 244) E_spec_ModeOk).mp (fnOf_ok rfl tysOk ⟨K_spec_l01In, K_spec_l04Nums, trivial⟩ Tryz.func244 (by decide) rfl (fun _ h => by cases h) (nilEq_of (by kernel_rfl)))
def spec_IsName_L0 : (Int × ((List UInt8) × Unit)) → Option (Out (Int × ((List UInt8) × Unit)) ((Bool × (Int × ((List UInt8) × Unit))) ⊕ Empty) (Bool × Unit)) :=
  (fun v0 => (if (ltZ v0.1 (lenI v0.2.1)) = true then (Option.bind (byteAt v0.2.1 v0.1) fun v1 => (Option.bind ((if (leZ 97 v1) = true then (Option.bind (byteAt v0.2.1 v0.1) fun v2 => (some ((leZ v2 122), (v0.1, (v0.2.1, ()))))) else (some (false, (v0.1, (v0.2.1, ()))))) : (Option (Bool × (Int × ((List UInt8) × Unit))))) fun v3 => (Option.bind ((if (notB v3.1) = true then (Option.bind ((if (eqZ v3.2.1 0) = true then (some (true, (v3.2.1, (v3.2.2.1, ())))) else (Option.bind (byteAt v3.2.2.1 v3.2.1) fun v4 => (Option.bind ((if (ltZ v4 48) = true then (some (true, (v3.2.1, (v3.2.2.1, ())))) else (Option.bind (byteAt v3.2.2.1 v3.2.1) fun v5 => (some ((ltZ 57 v5), (v3.2.1, (v3.2.2.1, ())))))) : (Option (Bool × (Int × ((List UInt8) × Unit))))) fun v6 => (some (v6.1, (v6.2.1, (v6.2.2.1, ()))))))) : (Option (Bool × (Int × ((List UInt8) × Unit))))) fun v7 => (some (v7.1, (v7.2.1, (v7.2.2.1, ()))))) else (some (false, (v3.2.1, (v3.2.2.1, ()))))) : (Option (Bool × (Int × ((List UInt8) × Unit))))) fun v8 => (if v8.1 = true then (some (Out.ret (false, ()))) else (some (Out.norm ((addZ .i64 v8.2.1 1), (v8.2.2.1, ())))))))) else (some (Out.exit (Sum.inl ((ltZ v0.1 (lenI v0.2.1)), (v0.1, (v0.2.1, ()))))))))
def spec_IsName (x : ((List UInt8) × Unit)) (c : Unit) : (Option (Bool × Unit)) :=
  (Option.bind (loopN (A := (Int × ((List UInt8) × Unit))) big spec_IsName_L0 (0, (x.1, ()))) fun v9 => (match v9 with | Out.norm v10 => none | Out.exit v11 => (match ((match v11 with | Sum.inl v16 => (Sum.inl (v16.2.2.1, ())) | Sum.inr v17 => (Empty.elim v17)) : (((List UInt8) × Unit) ⊕ Empty)) with | Sum.inl v12 => (Option.bind ((Option.bind (spec_l01In ((lenI v12.1), (1, (8, ()))) ()) fun v13 => (some v13.1)) : (Option Bool)) fun v14 => (some (v14, ()))) | Sum.inr v15 => none) | Out.ret v18 => (some v18)))
def H_spec_IsName : Hd := ⟨[.str], [], none, .p, .bool, .p, []⟩
def T_spec_IsName : FSig := ⟨H_spec_IsName.ps, H_spec_IsName.cs, H_spec_IsName.io, H_spec_IsName.im, H_spec_IsName.R, H_spec_IsName.m, spec_IsName⟩
theorem E_spec_IsName : fnOf tys [(183, T_spec_l01In)] Tryz.f245 H_spec_IsName = T_spec_IsName := by kernel_rfl
theorem K_spec_IsName : SigB base_ Tryz.prog 245 T_spec_IsName := (congrArg (SigB base_ Tryz.prog 245) E_spec_IsName).mp (fnOf_ok rfl tysOk ⟨K_spec_l01In, trivial⟩ Tryz.func245 (by decide) rfl (fun _ h => by cases h) (nilEq_of (by kernel_rfl)))
def spec_ActivityOk_L0 : (Int × (Int × ((List D_Mode) × (Int × (Int × (D_Activity × Unit)))))) → Option (Out (Int × (Int × ((List D_Mode) × (Int × (Int × (D_Activity × Unit)))))) ((Bool × (Int × (Int × ((List D_Mode) × (Int × (Int × (D_Activity × Unit))))))) ⊕ Empty) (Bool × Unit)) :=
  (fun v0 => (if (ltZ v0.1 v0.2.1) = true then (Option.bind (getI v0.2.2.1 v0.1) fun v1 => (Option.bind ((Option.bind (spec_ModeOk (v1, (v0.2.2.2.1, (v0.2.2.2.2.1, ()))) ()) fun v2 => (some v2.1)) : (Option Bool)) fun v3 => (if (notB v3) = true then (some (Out.ret (false, ()))) else (some (Out.norm ((addZ .i64 v0.1 1), (v0.2.1, (v0.2.2.1, (v0.2.2.2.1, (v0.2.2.2.2.1, (v0.2.2.2.2.2.1, ()))))))))))) else (some (Out.exit (Sum.inl ((ltZ v0.1 v0.2.1), (v0.1, (v0.2.1, (v0.2.2.1, (v0.2.2.2.1, (v0.2.2.2.2.1, (v0.2.2.2.2.2.1, ()))))))))))))
def spec_ActivityOk (x : (D_Activity × D_Step)) (c : Unit) : (Option (Bool × Unit)) :=
  (Option.bind (loopN (A := (Int × (Int × ((List D_Mode) × (Int × (Int × (D_Activity × Unit))))))) big spec_ActivityOk_L0 (0, ((lenI x.1.2.2.1), (x.1.2.2.1, (x.2.1, (x.2.2.1, (x.1, ()))))))) fun v4 => (match v4 with | Out.norm v5 => none | Out.exit v6 => (match ((match v6 with | Sum.inl v17 => (Sum.inl (v17.2.2.2.2.2.2.1, ())) | Sum.inr v18 => (Empty.elim v18)) : ((D_Activity × Unit) ⊕ Empty)) with | Sum.inl v7 => (Option.bind ((Option.bind (spec_IsName (v7.1.1, ()) ()) fun v8 => (some v8.1)) : (Option Bool)) fun v9 => (Option.bind ((if v9 = true then (Option.bind ((Option.bind (spec_l01In (v7.1.2.1, (0, (3, ()))) ()) fun v10 => (some v10.1)) : (Option Bool)) fun v11 => (Option.bind ((if v11 = true then (Option.bind ((Option.bind (spec_l01In ((lenI v7.1.2.2.1), (1, (3, ()))) ()) fun v12 => (some v12.1)) : (Option Bool)) fun v13 => (some (v13, ()))) else (some (false, ()))) : (Option (Bool × Unit))) fun v14 => (some (v14.1, ())))) else (some (false, ()))) : (Option (Bool × Unit))) fun v15 => (some (v15.1, ())))) | Sum.inr v16 => none) | Out.ret v19 => (some v19)))
def H_spec_ActivityOk : Hd := ⟨[.st [.str, .int .i64, .sl 131 (.st [.int .i64, .sl 3 (.int .i64), .sl 3 (.int .i64)])], .int .i64, .int .i64], [], none, .p, .bool, .p, []⟩
def T_spec_ActivityOk : FSig := ⟨H_spec_ActivityOk.ps, H_spec_ActivityOk.cs, H_spec_ActivityOk.io, H_spec_ActivityOk.im, H_spec_ActivityOk.R, H_spec_ActivityOk.m, spec_ActivityOk⟩
theorem E_spec_ActivityOk : fnOf tys [(183, T_spec_l01In), (244, T_spec_ModeOk), (245, T_spec_IsName)] Tryz.f220 H_spec_ActivityOk = T_spec_ActivityOk := by kernel_rfl
theorem K_spec_ActivityOk : SigB base_ Tryz.prog 220 T_spec_ActivityOk := (congrArg (SigB base_ Tryz.prog 220) E_spec_ActivityOk).mp (fnOf_ok rfl tysOk ⟨K_spec_l01In, K_spec_ModeOk, K_spec_IsName, trivial⟩ Tryz.func220 (by decide) rfl (fun _ h => by cases h) (nilEq_of (by kernel_rfl)))
def spec_StepsOk_L0 : (Int × (Int × ((List D_Step) × ((List D_Step) × Unit)))) → Option (Out (Int × (Int × ((List D_Step) × ((List D_Step) × Unit)))) ((Bool × (Int × (Int × ((List D_Step) × ((List D_Step) × Unit))))) ⊕ Empty) (Bool × Unit)) :=
  (fun v0 => (if (ltZ v0.1 v0.2.1) = true then (Option.bind (getI v0.2.2.1 v0.1) fun v1 => (Option.bind ((Option.bind (spec_l01In (v1.1, (0, (60, ()))) ()) fun v2 => (some v2.1)) : (Option Bool)) fun v3 => (Option.bind ((if (notB v3) = true then (some (true, (v0.1, (v0.2.1, (v0.2.2.1, (v0.2.2.2.1, ())))))) else (Option.bind ((Option.bind (spec_l01In (v1.2.1, (0, (20, ()))) ()) fun v4 => (some v4.1)) : (Option Bool)) fun v5 => (Option.bind ((if (notB v5) = true then (some (true, (v0.1, (v0.2.1, (v0.2.2.1, (v0.2.2.2.1, ())))))) else (Option.bind ((if (ltZ 0 v0.1) = true then (Option.bind (getI v0.2.2.2.1 (subZ .i64 v0.1 1)) fun v6 => (some ((leZ v1.1 v6.1), (v0.1, (v0.2.1, (v0.2.2.1, (v0.2.2.2.1, ()))))))) else (some (false, (v0.1, (v0.2.1, (v0.2.2.1, (v0.2.2.2.1, ()))))))) : (Option (Bool × (Int × (Int × ((List D_Step) × ((List D_Step) × Unit))))))) fun v7 => (some (v7.1, (v7.2.1, (v7.2.2.1, (v7.2.2.2.1, (v7.2.2.2.2.1, ())))))))) : (Option (Bool × (Int × (Int × ((List D_Step) × ((List D_Step) × Unit))))))) fun v8 => (some (v8.1, (v8.2.1, (v8.2.2.1, (v8.2.2.2.1, (v8.2.2.2.2.1, ()))))))))) : (Option (Bool × (Int × (Int × ((List D_Step) × ((List D_Step) × Unit))))))) fun v9 => (if v9.1 = true then (some (Out.ret (false, ()))) else (some (Out.norm ((addZ .i64 v9.2.1 1), (v9.2.2.1, (v9.2.2.2.1, (v9.2.2.2.2.1, ())))))))))) else (some (Out.exit (Sum.inl ((ltZ v0.1 v0.2.1), (v0.1, (v0.2.1, (v0.2.2.1, (v0.2.2.2.1, ()))))))))))
def spec_StepsOk (x : ((List D_Step) × Unit)) (c : Unit) : (Option (Bool × Unit)) :=
  (Option.bind (loopN (A := (Int × (Int × ((List D_Step) × ((List D_Step) × Unit))))) big spec_StepsOk_L0 (0, ((lenI x.1), (x.1, (x.1, ()))))) fun v10 => (match v10 with | Out.norm v11 => none | Out.exit v12 => (match ((match v12 with | Sum.inl v19 => (Sum.inl (v19.2.2.2.2.1, ())) | Sum.inr v20 => (Empty.elim v20)) : (((List D_Step) × Unit) ⊕ Empty)) with | Sum.inl v13 => (Option.bind ((Option.bind (spec_l01In ((lenI v13.1), (1, (8, ()))) ()) fun v14 => (some v14.1)) : (Option Bool)) fun v15 => (Option.bind ((if v15 = true then (Option.bind (getI v13.1 0) fun v16 => (some ((eqZ v16.1 0), ()))) else (some (false, ()))) : (Option (Bool × Unit))) fun v17 => (some (v17.1, ())))) | Sum.inr v18 => none) | Out.ret v21 => (some v21)))
def H_spec_StepsOk : Hd := ⟨[.sl 203 (.st [.int .i64, .int .i64])], [], none, .p, .bool, .p, []⟩
def T_spec_StepsOk : FSig := ⟨H_spec_StepsOk.ps, H_spec_StepsOk.cs, H_spec_StepsOk.io, H_spec_StepsOk.im, H_spec_StepsOk.R, H_spec_StepsOk.m, spec_StepsOk⟩
theorem E_spec_StepsOk : fnOf tys [(183, T_spec_l01In)] Tryz.f246 H_spec_StepsOk = T_spec_StepsOk := by kernel_rfl
theorem K_spec_StepsOk : SigB base_ Tryz.prog 246 T_spec_StepsOk := (congrArg (SigB base_ Tryz.prog 246) E_spec_StepsOk).mp (fnOf_ok rfl tysOk ⟨K_spec_l01In, trivial⟩ Tryz.func246 (by decide) rfl (fun _ h => by cases h) (nilEq_of (by kernel_rfl)))
def spec_ResourceOk_L0 : (Int × (Int × ((List Int) × (Int × (Int × ((List (List Int)) × (D_Resource × Unit))))))) → Option (Out (Int × (Int × ((List Int) × (Int × (Int × ((List (List Int)) × (D_Resource × Unit))))))) ((Bool × (Int × (Int × ((List Int) × (Int × (Int × ((List (List Int)) × (D_Resource × Unit)))))))) ⊕ Empty) (Bool × Unit)) :=
  (fun v2 => (if (ltZ v2.1 v2.2.1) = true then (Option.bind (getI v2.2.2.1 v2.1) fun v3 => (Option.bind ((Option.bind (spec_l01In (v3, (0, (12, ()))) ()) fun v4 => (some v4.1)) : (Option Bool)) fun v5 => (if (notB v5) = true then (some (Out.ret (false, ()))) else (some (Out.norm ((addZ .i64 v2.1 1), (v2.2.1, (v2.2.2.1, (v2.2.2.2.1, (v2.2.2.2.2.1, (v2.2.2.2.2.2.1, (v2.2.2.2.2.2.2.1, ())))))))))))) else (some (Out.exit (Sum.inl ((ltZ v2.1 v2.2.1), (v2.1, (v2.2.1, (v2.2.2.1, (v2.2.2.2.1, (v2.2.2.2.2.1, (v2.2.2.2.2.2.1, (v2.2.2.2.2.2.2.1, ())))))))))))))
def spec_ResourceOk_L1 : (Int × (Int × ((List (List Int)) × (D_Resource × Unit)))) → Option (Out (Int × (Int × ((List (List Int)) × (D_Resource × Unit)))) ((Bool × (Int × (Int × ((List (List Int)) × (D_Resource × Unit))))) ⊕ Empty) (Bool × Unit)) :=
  (fun v0 => (if (ltZ v0.1 v0.2.1) = true then (Option.bind (getI v0.2.2.1 v0.1) fun v1 => (if (notB (eqZ (lenI v1) 4)) = true then (some (Out.ret (false, ()))) else (Option.bind (loopN (A := (Int × (Int × ((List Int) × (Int × (Int × ((List (List Int)) × (D_Resource × Unit)))))))) big spec_ResourceOk_L0 (0, ((lenI v1), (v1, (v0.1, (v0.2.1, (v0.2.2.1, (v0.2.2.2.1, ())))))))) fun v6 => (match v6 with | Out.norm v7 => none | Out.exit v8 => (match ((match v8 with | Sum.inl v13 => (Sum.inl (v13.2.2.2.2.1, (v13.2.2.2.2.2.1, (v13.2.2.2.2.2.2.1, (v13.2.2.2.2.2.2.2.1, ()))))) | Sum.inr v14 => (Empty.elim v14)) : ((Int × (Int × ((List (List Int)) × (D_Resource × Unit)))) ⊕ Empty)) with | Sum.inl v9 => (some (Out.norm ((addZ .i64 v9.1 1), (v9.2.1, (v9.2.2.1, (v9.2.2.2.1, ())))))) | Sum.inr v10 => (match ((Empty.elim v10) : ((Int × (Int × ((List (List Int)) × (D_Resource × Unit)))) ⊕ Empty)) with | Sum.inl v11 => (some (Out.norm ((addZ .i64 v11.1 1), (v11.2.1, (v11.2.2.1, (v11.2.2.2.1, ())))))) | Sum.inr v12 => (some (Out.exit (Sum.inr (Empty.elim v12)))))) | Out.ret v15 => (some (Out.ret v15)))))) else (some (Out.exit (Sum.inl ((ltZ v0.1 v0.2.1), (v0.1, (v0.2.1, (v0.2.2.1, (v0.2.2.2.1, ()))))))))))
def spec_ResourceOk (x : (D_Resource × Unit)) (c : Unit) : (Option (Bool × Unit)) :=
  (Option.bind (loopN (A := (Int × (Int × ((List (List Int)) × (D_Resource × Unit))))) big spec_ResourceOk_L1 (0, ((lenI x.1.2.1), (x.1.2.1, (x.1, ()))))) fun v16 => (match v16 with | Out.norm v17 => none | Out.exit v18 => (match ((match v18 with | Sum.inl v25 => (Sum.inl (v25.2.2.2.2.1, ())) | Sum.inr v26 => (Empty.elim v26)) : ((D_Resource × Unit) ⊕ Empty)) with | Sum.inl v19 => (Option.bind ((Option.bind (spec_StepsOk (v19.1.1, ()) ()) fun v20 => (some v20.1)) : (Option Bool)) fun v21 => (Option.bind ((if v21 = true then (Option.bind ((if (eqZ (lenI v19.1.2.1) 0) = true then (some (true, ())) else (some ((eqZ (lenI v19.1.2.1) 4), ()))) : (Option (Bool × Unit))) fun v22 => (some (v22.1, ()))) else (some (false, ()))) : (Option (Bool × Unit))) fun v23 => (some (v23.1, ())))) | Sum.inr v24 => none) | Out.ret v27 => (some v27)))
def H_spec_ResourceOk : Hd := ⟨[.st [.sl 203 (.st [.int .i64, .int .i64]), .sl 25 (.sl 3 (.int .i64))]], [], none, .p, .bool, .p, []⟩
def T_spec_ResourceOk : FSig := ⟨H_spec_ResourceOk.ps, H_spec_ResourceOk.cs, H_spec_ResourceOk.io, H_spec_ResourceOk.im, H_spec_ResourceOk.R, H_spec_ResourceOk.m, spec_ResourceOk⟩
theorem E_spec_ResourceOk : fnOf tys [(183, T_spec_l01In), (246, T_spec_StepsOk)] Tryz.f221 H_spec_ResourceOk = T_spec_ResourceOk := by kernel_rfl
theorem K_spec_ResourceOk : SigB base_ Tryz.prog 221 T_spec_ResourceOk := (congrArg (SigB base_ Tryz.prog 221) E_spec_ResourceOk).mp (fnOf_ok rfl tysOk ⟨K_spec_l01In, K_spec_StepsOk, trivial⟩ Tryz.func221 (by decide) rfl (fun _ h => by cases h) (nilEq_of (by kernel_rfl)))
def spec_ProjectOk_L0 : (Int × (Int × ((List D_Activity) × (D_Project × (Int × Unit))))) → Option (Out (Int × (Int × ((List D_Activity) × (D_Project × (Int × Unit))))) ((Bool × (Int × (Int × ((List D_Activity) × (D_Project × (Int × Unit)))))) ⊕ Empty) (Bool × Unit)) :=
  (fun v8 => (if (ltZ v8.1 v8.2.1) = true then (Option.bind (getI v8.2.2.1 v8.1) fun v9 => (Option.bind ((Option.bind (spec_ActivityOk (v9, ((lenI v8.2.2.2.1.2.2.2.1), ((lenI v8.2.2.2.1.2.2.2.2.1), ()))) ()) fun v10 => (some v10.1)) : (Option Bool)) fun v11 => (Option.bind ((if (notB v11) = true then (some (true, (v8.1, (v8.2.1, (v8.2.2.1, (v8.2.2.2.1, (v8.2.2.2.2.1, ()))))))) else (Option.bind ((Option.bind (spec_ActivityIndex (v8.2.2.2.1, (v9.1, ())) ()) fun v12 => (some v12.1)) : (Option Int)) fun v13 => (some ((notB (eqZ v13 v8.1)), (v8.1, (v8.2.1, (v8.2.2.1, (v8.2.2.2.1, (v8.2.2.2.2.1, ()))))))))) : (Option (Bool × (Int × (Int × ((List D_Activity) × (D_Project × (Int × Unit)))))))) fun v14 => (if v14.1 = true then (some (Out.ret (false, ()))) else (some (Out.norm ((addZ .i64 v14.2.1 1), (v14.2.2.1, (v14.2.2.2.1, (v14.2.2.2.2.1, (v14.2.2.2.2.2.1, ()))))))))))) else (some (Out.exit (Sum.inl ((ltZ v8.1 v8.2.1), (v8.1, (v8.2.1, (v8.2.2.1, (v8.2.2.2.1, (v8.2.2.2.2.1, ())))))))))))
def spec_ProjectOk_L1 : (Int × (Int × ((List D_Resource) × (D_Project × (Int × Unit))))) → Option (Out (Int × (Int × ((List D_Resource) × (D_Project × (Int × Unit))))) ((Bool × (Int × (Int × ((List D_Resource) × (D_Project × (Int × Unit)))))) ⊕ Empty) (Bool × Unit)) :=
  (fun v19 => (if (ltZ v19.1 v19.2.1) = true then (Option.bind (getI v19.2.2.1 v19.1) fun v20 => (Option.bind ((Option.bind (spec_ResourceOk (v20, ()) ()) fun v21 => (some v21.1)) : (Option Bool)) fun v22 => (if (notB v22) = true then (some (Out.ret (false, ()))) else (some (Out.norm ((addZ .i64 v19.1 1), (v19.2.1, (v19.2.2.1, (v19.2.2.2.1, (v19.2.2.2.2.1, ())))))))))) else (some (Out.exit (Sum.inl ((ltZ v19.1 v19.2.1), (v19.1, (v19.2.1, (v19.2.2.1, (v19.2.2.2.1, (v19.2.2.2.2.1, ())))))))))))
def spec_ProjectOk_L2 : (Int × (Int × ((List Int) × (D_Project × (Int × Unit))))) → Option (Out (Int × (Int × ((List Int) × (D_Project × (Int × Unit))))) ((Bool × (Int × (Int × ((List Int) × (D_Project × (Int × Unit)))))) ⊕ Empty) (Bool × Unit)) :=
  (fun v27 => (if (ltZ v27.1 v27.2.1) = true then (Option.bind (getI v27.2.2.1 v27.1) fun v28 => (Option.bind ((Option.bind (spec_l01In (v28, (0, (100, ()))) ()) fun v29 => (some v29.1)) : (Option Bool)) fun v30 => (if (notB v30) = true then (some (Out.ret (false, ()))) else (some (Out.norm ((addZ .i64 v27.1 1), (v27.2.1, (v27.2.2.1, (v27.2.2.2.1, (v27.2.2.2.2.1, ())))))))))) else (some (Out.exit (Sum.inl ((ltZ v27.1 v27.2.1), (v27.1, (v27.2.1, (v27.2.2.1, (v27.2.2.2.1, (v27.2.2.2.2.1, ())))))))))))
def spec_ProjectOk_L3 : (Int × (Int × ((List D_Link) × (Int × Unit)))) → Option (Out (Int × (Int × ((List D_Link) × (Int × Unit)))) ((Bool × (Int × (Int × ((List D_Link) × (Int × Unit))))) ⊕ Empty) (Bool × Unit)) :=
  (fun v35 => (if (ltZ v35.1 v35.2.1) = true then (Option.bind (getI v35.2.2.1 v35.1) fun v36 => (Option.bind ((Option.bind (spec_l01In (v36.1, (0, ((subZ .i64 v35.2.2.2.1 1), ()))) ()) fun v37 => (some v37.1)) : (Option Bool)) fun v38 => (Option.bind ((if (notB v38) = true then (some (true, (v35.1, (v35.2.1, (v35.2.2.1, (v35.2.2.2.1, ())))))) else (Option.bind ((Option.bind (spec_l01In (v36.2.1, (0, ((subZ .i64 v35.2.2.2.1 1), ()))) ()) fun v39 => (some v39.1)) : (Option Bool)) fun v40 => (Option.bind ((if (notB v40) = true then (some (true, (v35.1, (v35.2.1, (v35.2.2.1, (v35.2.2.2.1, ())))))) else (Option.bind ((if (eqZ v36.1 v36.2.1) = true then (some (true, (v35.1, (v35.2.1, (v35.2.2.1, (v35.2.2.2.1, ())))))) else (Option.bind ((Option.bind (spec_l01In (v36.2.2.2.1, ((-60), (60, ()))) ()) fun v41 => (some v41.1)) : (Option Bool)) fun v42 => (some ((notB v42), (v35.1, (v35.2.1, (v35.2.2.1, (v35.2.2.2.1, ())))))))) : (Option (Bool × (Int × (Int × ((List D_Link) × (Int × Unit))))))) fun v43 => (some (v43.1, (v43.2.1, (v43.2.2.1, (v43.2.2.2.1, (v43.2.2.2.2.1, ())))))))) : (Option (Bool × (Int × (Int × ((List D_Link) × (Int × Unit))))))) fun v44 => (some (v44.1, (v44.2.1, (v44.2.2.1, (v44.2.2.2.1, (v44.2.2.2.2.1, ()))))))))) : (Option (Bool × (Int × (Int × ((List D_Link) × (Int × Unit))))))) fun v45 => (if v45.1 = true then (some (Out.ret (false, ()))) else (some (Out.norm ((addZ .i64 v45.2.1 1), (v45.2.2.1, (v45.2.2.2.1, (v45.2.2.2.2.1, ())))))))))) else (some (Out.exit (Sum.inl ((ltZ v35.1 v35.2.1), (v35.1, (v35.2.1, (v35.2.2.1, (v35.2.2.2.1, ()))))))))))
def spec_ProjectOk (x : (D_Project × Unit)) (c : Unit) : (Option (Bool × Unit)) :=
  (Option.bind ((Option.bind (spec_l01In (x.1.1, (1, (60, ()))) ()) fun v0 => (some v0.1)) : (Option Bool)) fun v1 => (Option.bind ((if (notB v1) = true then (some (true, (x.1, ((lenI x.1.2.1), ())))) else (Option.bind ((Option.bind (spec_l01In ((lenI x.1.2.1), (1, (6, ()))) ()) fun v2 => (some v2.1)) : (Option Bool)) fun v3 => (Option.bind ((if (notB v3) = true then (some (true, (x.1, ((lenI x.1.2.1), ())))) else (Option.bind ((if (ltZ 3 (lenI x.1.2.2.2.1)) = true then (some (true, (x.1, ((lenI x.1.2.1), ())))) else (Option.bind ((if (ltZ 2 (lenI x.1.2.2.2.2.1)) = true then (some (true, (x.1, ((lenI x.1.2.1), ())))) else (some ((ltZ 12 (lenI x.1.2.2.1)), (x.1, ((lenI x.1.2.1), ()))))) : (Option (Bool × (D_Project × (Int × Unit))))) fun v4 => (some (v4.1, (v4.2.1, (v4.2.2.1, ())))))) : (Option (Bool × (D_Project × (Int × Unit))))) fun v5 => (some (v5.1, (v5.2.1, (v5.2.2.1, ())))))) : (Option (Bool × (D_Project × (Int × Unit))))) fun v6 => (some (v6.1, (v6.2.1, (v6.2.2.1, ()))))))) : (Option (Bool × (D_Project × (Int × Unit))))) fun v7 => (if v7.1 = true then (some (false, ())) else (Option.bind (loopN (A := (Int × (Int × ((List D_Activity) × (D_Project × (Int × Unit)))))) big spec_ProjectOk_L0 (0, ((lenI v7.2.1.2.1), (v7.2.1.2.1, (v7.2.1, (v7.2.2.1, ())))))) fun v15 => (match v15 with | Out.norm v16 => none | Out.exit v17 => (match ((match v17 with | Sum.inl v63 => (Sum.inl (v63.2.2.2.2.1, (v63.2.2.2.2.2.1, ()))) | Sum.inr v64 => (Empty.elim v64)) : ((D_Project × (Int × Unit)) ⊕ Empty)) with | Sum.inl v18 => (Option.bind (loopN (A := (Int × (Int × ((List D_Resource) × (D_Project × (Int × Unit)))))) big spec_ProjectOk_L1 (0, ((lenI v18.1.2.2.2.1), (v18.1.2.2.2.1, (v18.1, (v18.2.1, ())))))) fun v23 => (match v23 with | Out.norm v24 => none | Out.exit v25 => (match ((match v25 with | Sum.inl v59 => (Sum.inl (v59.2.2.2.2.1, (v59.2.2.2.2.2.1, ()))) | Sum.inr v60 => (Empty.elim v60)) : ((D_Project × (Int × Unit)) ⊕ Empty)) with | Sum.inl v26 => (Option.bind (loopN (A := (Int × (Int × ((List Int) × (D_Project × (Int × Unit)))))) big spec_ProjectOk_L2 (0, ((lenI v26.1.2.2.2.2.1), (v26.1.2.2.2.2.1, (v26.1, (v26.2.1, ())))))) fun v31 => (match v31 with | Out.norm v32 => none | Out.exit v33 => (match ((match v33 with | Sum.inl v55 => (Sum.inl (v55.2.2.2.2.1, (v55.2.2.2.2.2.1, ()))) | Sum.inr v56 => (Empty.elim v56)) : ((D_Project × (Int × Unit)) ⊕ Empty)) with | Sum.inl v34 => (Option.bind (loopN (A := (Int × (Int × ((List D_Link) × (Int × Unit))))) big spec_ProjectOk_L3 (0, ((lenI v34.1.2.2.1), (v34.1.2.2.1, (v34.2.1, ()))))) fun v46 => (match v46 with | Out.norm v47 => none | Out.exit v48 => (match ((match v48 with | Sum.inl v51 => (Sum.inl ()) | Sum.inr v52 => (Empty.elim v52)) : (Unit ⊕ Empty)) with | Sum.inl v49 => (some (true, ())) | Sum.inr v50 => none) | Out.ret v53 => (some v53))) | Sum.inr v54 => none) | Out.ret v57 => (some v57))) | Sum.inr v58 => none) | Out.ret v61 => (some v61))) | Sum.inr v62 => none) | Out.ret v65 => (some v65))))))
def H_spec_ProjectOk : Hd := ⟨[.st [.int .i64, .sl 75 (.st [.str, .int .i64, .sl 131 (.st [.int .i64, .sl 3 (.int .i64), .sl 3 (.int .i64)])]), .sl 69 (.st [.int .i64, .int .i64, .bool, .int .i64]), .sl 126 (.st [.sl 203 (.st [.int .i64, .int .i64]), .sl 25 (.sl 3 (.int .i64))]), .sl 3 (.int .i64)]], [], none, .p, .bool, .p, []⟩
def T_spec_ProjectOk : FSig := ⟨H_spec_ProjectOk.ps, H_spec_ProjectOk.cs, H_spec_ProjectOk.io, H_spec_ProjectOk.im, H_spec_ProjectOk.R, H_spec_ProjectOk.m, spec_ProjectOk⟩
theorem E_spec_ProjectOk : fnOf tys [(52, T_spec_ActivityIndex), (183, T_spec_l01In), (220, T_spec_ActivityOk), (221, T_spec_ResourceOk)] Tryz.f184 H_spec_ProjectOk = T_spec_ProjectOk := by kernel_rfl
theorem K_spec_ProjectOk : SigB base_ Tryz.prog 184 T_spec_ProjectOk := (congrArg (SigB base_ Tryz.prog 184) E_spec_ProjectOk).mp (fnOf_ok rfl tysOk ⟨K_spec_ActivityIndex, K_spec_l01In, K_spec_ActivityOk, K_spec_ResourceOk, trivial⟩ Tryz.func184 (by decide) rfl (fun _ h => by cases h) (nilEq_of (by kernel_rfl)))
def spec_DelayOk (x : (D_Project × (D_Delay × Unit))) (c : Unit) : (Option (Bool × Unit)) :=
  (Option.bind ((Option.bind (spec_ProjectOk (x.1, ()) ()) fun v0 => (some v0.1)) : (Option Bool)) fun v1 => (Option.bind ((if (notB v1) = true then (some (true, (x.1, (x.2.1, ())))) else (Option.bind ((Option.bind (spec_l01In (x.2.1.2.2.2.1, (0, (60, ()))) ()) fun v2 => (some v2.1)) : (Option Bool)) fun v3 => (some ((notB v3), (x.1, (x.2.1, ())))))) : (Option (Bool × (D_Project × (D_Delay × Unit))))) fun v4 => (if v4.1 = true then (some (false, ())) else (if (eqZ v4.2.2.1.1 1) = true then (Option.bind ((Option.bind (spec_l01In (v4.2.2.1.2.1, (0, ((subZ .i64 (lenI v4.2.1.2.1) 1), ()))) ()) fun v5 => (some v5.1)) : (Option Bool)) fun v6 => (Option.bind ((if v6 = true then (Option.bind ((Option.bind (spec_l01In (v4.2.2.1.2.2.1, (0, (60, ()))) ()) fun v7 => (some v7.1)) : (Option Bool)) fun v8 => (some (v8, ()))) else (some (false, ()))) : (Option (Bool × Unit))) fun v9 => (some (v9.1, ())))) else (if (eqZ v4.2.2.1.1 2) = true then (Option.bind ((Option.bind (spec_l01In (v4.2.2.1.2.1, (0, ((subZ .i64 (lenI v4.2.1.2.1) 1), ()))) ()) fun v10 => (some v10.1)) : (Option Bool)) fun v11 => (Option.bind ((if v11 = true then (Option.bind ((Option.bind (spec_l01In (v4.2.2.1.2.2.1, (1, (12, ()))) ()) fun v12 => (some v12.1)) : (Option Bool)) fun v13 => (some (v13, ()))) else (some (false, ()))) : (Option (Bool × Unit))) fun v14 => (some (v14.1, ())))) else (if (eqZ v4.2.2.1.1 3) = true then (Option.bind ((Option.bind (spec_l01In (v4.2.2.1.2.1, (0, ((subZ .i64 (lenI v4.2.1.2.2.2.1) 1), ()))) ()) fun v15 => (some v15.1)) : (Option Bool)) fun v16 => (Option.bind ((if v16 = true then (Option.bind ((Option.bind (spec_l01In (v4.2.2.1.2.2.1, (1, (20, ()))) ()) fun v17 => (some v17.1)) : (Option Bool)) fun v18 => (some (v18, ()))) else (some (false, ()))) : (Option (Bool × Unit))) fun v19 => (some (v19.1, ())))) else (some (false, ()))))))))
def H_spec_DelayOk : Hd := ⟨[.st [.int .i64, .sl 75 (.st [.str, .int .i64, .sl 131 (.st [.int .i64, .sl 3 (.int .i64), .sl 3 (.int .i64)])]), .sl 69 (.st [.int .i64, .int .i64, .bool, .int .i64]), .sl 126 (.st [.sl 203 (.st [.int .i64, .int .i64]), .sl 25 (.sl 3 (.int .i64))]), .sl 3 (.int .i64)], .st [.int .i64, .int .i64, .int .i64, .int .i64]], [], none, .p, .bool, .p, []⟩
def T_spec_DelayOk : FSig := ⟨H_spec_DelayOk.ps, H_spec_DelayOk.cs, H_spec_DelayOk.io, H_spec_DelayOk.im, H_spec_DelayOk.R, H_spec_DelayOk.m, spec_DelayOk⟩
theorem E_spec_DelayOk : fnOf tys [(183, T_spec_l01In), (184, T_spec_ProjectOk)] Tryz.f124 H_spec_DelayOk = T_spec_DelayOk := by kernel_rfl
theorem K_spec_DelayOk : SigB base_ Tryz.prog 124 T_spec_DelayOk := (congrArg (SigB base_ Tryz.prog 124) E_spec_DelayOk).mp (fnOf_ok rfl tysOk ⟨K_spec_l01In, K_spec_ProjectOk, trivial⟩ Tryz.func124 (by decide) rfl (fun _ h => by cases h) (nilEq_of (by kernel_rfl)))
def spec_Join_L0 : (Int × (Int × ((List (List UInt8)) × ((List UInt8) × ((List UInt8) × Unit))))) → Option (Out (Int × (Int × ((List (List UInt8)) × ((List UInt8) × ((List UInt8) × Unit))))) ((Bool × (Int × (Int × ((List (List UInt8)) × ((List UInt8) × ((List UInt8) × Unit)))))) ⊕ Empty) ((List UInt8) × Unit)) :=
  (fun v0 => (if (ltZ v0.1 v0.2.1) = true then (Option.bind (getI v0.2.2.1 v0.1) fun v1 => (Option.bind ((if (ltZ 0 v0.1) = true then (Option.bind (addI v0.2.2.2.2.1 v0.2.2.2.1) fun v2 => (some (Out.norm (v2, (v1, (v0.1, (v0.2.1, (v0.2.2.1, (v0.2.2.2.1, ()))))))))) else (some (Out.norm (v0.2.2.2.2.1, (v1, (v0.1, (v0.2.1, (v0.2.2.1, (v0.2.2.2.1, ()))))))))) : (Option (Out ((List UInt8) × ((List UInt8) × (Int × (Int × ((List (List UInt8)) × ((List UInt8) × Unit)))))) Empty ((List UInt8) × Unit)))) fun v3 => (match ((match v3 with | Out.norm v10 => (Out.norm v10) | Out.exit v11 => (Out.exit v11) | Out.ret v12 => (Out.ret v12)) : (Out ((List UInt8) × ((List UInt8) × (Int × (Int × ((List (List UInt8)) × ((List UInt8) × Unit)))))) Empty ((List UInt8) × Unit))) with | Out.norm v4 => (Option.bind (addI v4.1 v4.2.1) fun v5 => (some (Out.norm ((addZ .i64 v4.2.2.1 1), (v4.2.2.2.1, (v4.2.2.2.2.1, (v4.2.2.2.2.2.1, (v5, ())))))))) | Out.exit v6 => (match ((Empty.elim (Empty.elim v6)) : ((Int × (Int × ((List (List UInt8)) × ((List UInt8) × ((List UInt8) × Unit))))) ⊕ Empty)) with | Sum.inl v7 => (some (Out.norm ((addZ .i64 v7.1 1), (v7.2.1, (v7.2.2.1, (v7.2.2.2.1, (v7.2.2.2.2.1, ()))))))) | Sum.inr v8 => (some (Out.exit (Sum.inr (Empty.elim v8))))) | Out.ret v9 => (some (Out.ret v9))))) else (some (Out.exit (Sum.inl ((ltZ v0.1 v0.2.1), (v0.1, (v0.2.1, (v0.2.2.1, (v0.2.2.2.1, (v0.2.2.2.2.1, ())))))))))))
def spec_Join (x : ((List (List UInt8)) × ((List UInt8) × Unit))) (c : Unit) : (Option ((List UInt8) × Unit)) :=
  (Option.bind (loopN (A := (Int × (Int × ((List (List UInt8)) × ((List UInt8) × ((List UInt8) × Unit)))))) big spec_Join_L0 (0, ((lenI x.1), (x.1, (x.2.1, ([], ())))))) fun v13 => (match v13 with | Out.norm v14 => none | Out.exit v15 => (match ((match v15 with | Sum.inl v18 => (Sum.inl (v18.2.2.2.2.2.1, ())) | Sum.inr v19 => (Empty.elim v19)) : (((List UInt8) × Unit) ⊕ Empty)) with | Sum.inl v16 => (some (v16.1, ())) | Sum.inr v17 => none) | Out.ret v20 => (some v20)))
def H_spec_Join : Hd := ⟨[.sl 9 (.str), .str], [], none, .p, .str, .p, []⟩
def T_spec_Join : FSig := ⟨H_spec_Join.ps, H_spec_Join.cs, H_spec_Join.io, H_spec_Join.im, H_spec_Join.R, H_spec_Join.m, spec_Join⟩
theorem E_spec_Join : fnOf tys [] Tryz.f125 H_spec_Join = T_spec_Join := by kernel_rfl
theorem K_spec_Join : SigB base_ Tryz.prog 125 T_spec_Join := (congrArg (SigB base_ Tryz.prog 125) E_spec_Join).mp (fnOf_ok rfl tysOk trivial Tryz.func125 (by decide) rfl (fun _ h => by cases h) (nilEq_of (by kernel_rfl)))
def spec_FormatDelay (x : (D_Project × (D_Delay × Unit))) (c : Unit) : (Option ((List UInt8) × Unit)) :=
  (Option.bind ((Option.bind (spec_DelayOk (x.1, (x.2.1, ())) ()) fun v0 => (some v0.1)) : (Option Bool)) fun v1 => (if (notB v1) = true then (some ([], ())) else (Option.bind ((Option.bind (getI ([] :: (([108, 97, 116, 101] : List UInt8) :: (([108, 111, 110, 103] : List UInt8) :: (([99, 97, 112, 97, 99, 105, 116, 121] : List UInt8) :: [])))) x.2.1.1) fun v2 => (some ())) : (Option Unit)) fun v3 => (Option.bind ((Option.bind (getI ([] :: (([108, 97, 116, 101] : List UInt8) :: (([108, 111, 110, 103] : List UInt8) :: (([99, 97, 112, 97, 99, 105, 116, 121] : List UInt8) :: [])))) x.2.1.1) fun v4 => (some v4)) : (Option (List UInt8))) fun v5 => (Option.bind ((Option.bind (spec_FormatInt (x.2.1.2.1, ()) ()) fun v6 => (some v6.1)) : (Option (List UInt8))) fun v7 => (Option.bind ((if (notB (eqZ x.2.1.1 3)) = true then (Option.bind (getI x.1.2.1 x.2.1.2.1) fun v8 => (some (Out.norm (v5, (v8.1, (x.2.1, ())))))) else (some (Out.norm (v5, (v7, (x.2.1, ())))))) : (Option (Out ((List UInt8) × ((List UInt8) × (D_Delay × Unit))) Empty ((List UInt8) × Unit)))) fun v9 => (match ((match v9 with | Out.norm v19 => (Out.norm v19) | Out.exit v20 => (Out.exit v20) | Out.ret v21 => (Out.ret v21)) : (Out ((List UInt8) × ((List UInt8) × (D_Delay × Unit))) Empty ((List UInt8) × Unit))) with | Out.norm v10 => (Option.bind ((Option.bind (spec_FormatInt (v10.2.2.1.2.2.1, ()) ()) fun v11 => (some v11.1)) : (Option (List UInt8))) fun v12 => (Option.bind ((Option.bind (spec_FormatInt (v10.2.2.1.2.2.2.1, ()) ()) fun v13 => (some v13.1)) : (Option (List UInt8))) fun v14 => (Option.bind ((Option.bind (spec_Join ((v10.1 :: (v10.2.1 :: (v12 :: (v14 :: [])))), (([32] : List UInt8), ())) ()) fun v15 => (some v15.1)) : (Option (List UInt8))) fun v16 => (some (v16, ()))))) | Out.exit v17 => none | Out.ret v18 => (some v18))))))))
def H_spec_FormatDelay : Hd := ⟨[.st [.int .i64, .sl 75 (.st [.str, .int .i64, .sl 131 (.st [.int .i64, .sl 3 (.int .i64), .sl 3 (.int .i64)])]), .sl 69 (.st [.int .i64, .int .i64, .bool, .int .i64]), .sl 126 (.st [.sl 203 (.st [.int .i64, .int .i64]), .sl 25 (.sl 3 (.int .i64))]), .sl 3 (.int .i64)], .st [.int .i64, .int .i64, .int .i64, .int .i64]], [], none, .p, .str, .p, []⟩
def T_spec_FormatDelay : FSig := ⟨H_spec_FormatDelay.ps, H_spec_FormatDelay.cs, H_spec_FormatDelay.io, H_spec_FormatDelay.im, H_spec_FormatDelay.R, H_spec_FormatDelay.m, spec_FormatDelay⟩
theorem E_spec_FormatDelay : fnOf tys [(123, T_spec_FormatInt), (124, T_spec_DelayOk), (125, T_spec_Join)] Tryz.f53 H_spec_FormatDelay = T_spec_FormatDelay := by kernel_rfl
theorem K_spec_FormatDelay : SigB base_ Tryz.prog 53 T_spec_FormatDelay := (congrArg (SigB base_ Tryz.prog 53) E_spec_FormatDelay).mp (fnOf_ok rfl tysOk ⟨K_spec_FormatInt, K_spec_DelayOk, K_spec_Join, trivial⟩ Tryz.func53 (by decide) rfl (fun _ h => by cases h) (nilEq_of (by kernel_rfl)))
def spec_ParseDelay (x : (D_Project × ((List UInt8) × Unit))) (c : Unit) : (Option ((D_Delay × (Bool × Unit)) × Unit)) :=
  (Option.bind ((Option.bind (spec_SplitAny (x.2.1, (([32] : List UInt8), ())) ()) fun v0 => (some v0.1)) : (Option (List (List UInt8)))) fun v1 => (Option.bind (addI v1 ([] :: ([] :: ([] :: [])))) fun v2 => (Option.bind ((Option.bind (getI v2 2) fun v3 => (some ())) : (Option Unit)) fun v4 => (Option.bind ((Option.bind (getI v2 2) fun v5 => (some v5)) : (Option (List UInt8))) fun v6 => (Option.bind ((Option.bind (spec_ParseInt (v6, ()) ()) fun v7 => (some v7.1)) : (Option (Int × (Bool × Unit)))) fun v8 => (Option.bind ((Option.bind (getI v2 3) fun v9 => (some ())) : (Option Unit)) fun v10 => (Option.bind ((Option.bind (getI v2 3) fun v11 => (some v11)) : (Option (List UInt8))) fun v12 => (Option.bind ((Option.bind (spec_ParseInt (v12, ()) ()) fun v13 => (some v13.1)) : (Option (Int × (Bool × Unit)))) fun v14 => (Option.bind ((Option.bind (getI v2 1) fun v15 => (some ())) : (Option Unit)) fun v16 => (Option.bind ((Option.bind (getI v2 1) fun v17 => (some v17)) : (Option (List UInt8))) fun v18 => (Option.bind ((Option.bind (spec_ActivityIndex (x.1, (v18, ())) ()) fun v19 => (some v19.1)) : (Option Int)) fun v20 => (Option.bind ((Option.bind (getI v2 0) fun v21 => (some ())) : (Option Unit)) fun v22 => (Option.bind ((Option.bind (getI v2 0) fun v23 => (some v23)) : (Option (List UInt8))) fun v24 => (Option.bind ((if (eqS v24 ([108, 97, 116, 101] : List UInt8)) = true then (some (Out.norm (x.1, (x.2.1, ((1, (v20, (v8.1, (v14.1, ())))), ((0, (0, (0, (0, ())))), ())))))) else (Option.bind ((if (eqS v24 ([108, 111, 110, 103] : List UInt8)) = true then (some (Out.norm (x.1, (x.2.1, ((2, (v20, (v8.1, (v14.1, ())))), ((0, (0, (0, (0, ())))), ())))))) else (Option.bind ((if (eqS v24 ([99, 97, 112, 97, 99, 105, 116, 121] : List UInt8)) = true then (Option.bind ((Option.bind (getI v2 1) fun v25 => (some ())) : (Option Unit)) fun v26 => (Option.bind ((Option.bind (getI v2 1) fun v27 => (some v27)) : (Option (List UInt8))) fun v28 => (Option.bind ((Option.bind (spec_ParseInt (v28, ()) ()) fun v29 => (some v29.1)) : (Option (Int × (Bool × Unit)))) fun v30 => (some (Out.norm (x.1, (x.2.1, ((3, (v30.1, (v8.1, (v14.1, ())))), ((0, (0, (0, (0, ())))), ()))))))))) else (some (Out.norm (x.1, (x.2.1, ((0, (v20, (v8.1, (v14.1, ())))), ((0, (0, (0, (0, ())))), ()))))))) : (Option (Out (D_Project × ((List UInt8) × (D_Delay × (D_Delay × Unit)))) Empty ((D_Delay × (Bool × Unit)) × Unit)))) fun v31 => (match ((match v31 with | Out.norm v35 => (Out.norm v35) | Out.exit v36 => (Out.exit v36) | Out.ret v37 => (Out.ret v37)) : (Out (D_Project × ((List UInt8) × (D_Delay × (D_Delay × Unit)))) Empty ((D_Delay × (Bool × Unit)) × Unit))) with | Out.norm v32 => (some (Out.norm (v32.1, (v32.2.1, (v32.2.2.1, (v32.2.2.2.1, ())))))) | Out.exit v33 => (some (Out.exit v33)) | Out.ret v34 => (some (Out.ret v34))))) : (Option (Out (D_Project × ((List UInt8) × (D_Delay × (D_Delay × Unit)))) Empty ((D_Delay × (Bool × Unit)) × Unit)))) fun v38 => (match ((match v38 with | Out.norm v42 => (Out.norm v42) | Out.exit v43 => (Out.exit v43) | Out.ret v44 => (Out.ret v44)) : (Out (D_Project × ((List UInt8) × (D_Delay × (D_Delay × Unit)))) Empty ((D_Delay × (Bool × Unit)) × Unit))) with | Out.norm v39 => (some (Out.norm (v39.1, (v39.2.1, (v39.2.2.1, (v39.2.2.2.1, ())))))) | Out.exit v40 => (some (Out.exit v40)) | Out.ret v41 => (some (Out.ret v41))))) : (Option (Out (D_Project × ((List UInt8) × (D_Delay × (D_Delay × Unit)))) Empty ((D_Delay × (Bool × Unit)) × Unit)))) fun v45 => (match ((match v45 with | Out.norm v61 => (Out.norm v61) | Out.exit v62 => (Out.exit v62) | Out.ret v63 => (Out.ret v63)) : (Out (D_Project × ((List UInt8) × (D_Delay × (D_Delay × Unit)))) Empty ((D_Delay × (Bool × Unit)) × Unit))) with | Out.norm v46 => (Option.bind ((Option.bind (spec_FormatDelay (v46.1, (v46.2.2.1, ())) ()) fun v47 => (some v47.1)) : (Option (List UInt8))) fun v48 => (Option.bind ((if (eqS v48 []) = true then (some (true, (v46.2.2.1, (v46.2.2.2.1, ())))) else (Option.bind ((Option.bind (spec_FormatDelay (v46.1, (v46.2.2.1, ())) ()) fun v49 => (some v49.1)) : (Option (List UInt8))) fun v50 => (some ((notB (eqS v50 v46.2.1)), (v46.2.2.1, (v46.2.2.2.1, ())))))) : (Option (Bool × (D_Delay × (D_Delay × Unit))))) fun v51 => (if v51.1 = true then (some (((0, (0, (0, (0, ())))), (false, ())), ())) else (some ((v51.2.1, (true, ())), ()))))) | Out.exit v52 => (match ((Empty.elim v52) : ((D_Project × ((List UInt8) × (D_Delay × (D_Delay × Unit)))) ⊕ Empty)) with | Sum.inl v53 => (Option.bind ((Option.bind (spec_FormatDelay (v53.1, (v53.2.2.1, ())) ()) fun v54 => (some v54.1)) : (Option (List UInt8))) fun v55 => (Option.bind ((if (eqS v55 []) = true then (some (true, (v53.2.2.1, (v53.2.2.2.1, ())))) else (Option.bind ((Option.bind (spec_FormatDelay (v53.1, (v53.2.2.1, ())) ()) fun v56 => (some v56.1)) : (Option (List UInt8))) fun v57 => (some ((notB (eqS v57 v53.2.1)), (v53.2.2.1, (v53.2.2.2.1, ())))))) : (Option (Bool × (D_Delay × (D_Delay × Unit))))) fun v58 => (if v58.1 = true then (some (((0, (0, (0, (0, ())))), (false, ())), ())) else (some ((v58.2.1, (true, ())), ()))))) | Sum.inr v59 => none) | Out.ret v60 => (some v60))))))))))))))))
def H_spec_ParseDelay : Hd := ⟨[.st [.int .i64, .sl 75 (.st [.str, .int .i64, .sl 131 (.st [.int .i64, .sl 3 (.int .i64), .sl 3 (.int .i64)])]), .sl 69 (.st [.int .i64, .int .i64, .bool, .int .i64]), .sl 126 (.st [.sl 203 (.st [.int .i64, .int .i64]), .sl 25 (.sl 3 (.int .i64))]), .sl 3 (.int .i64)], .str], [], none, .p, .tup [.st [.int .i64, .int .i64, .int .i64, .int .i64], .bool], .p, []⟩
def T_spec_ParseDelay : FSig := ⟨H_spec_ParseDelay.ps, H_spec_ParseDelay.cs, H_spec_ParseDelay.io, H_spec_ParseDelay.im, H_spec_ParseDelay.R, H_spec_ParseDelay.m, spec_ParseDelay⟩
theorem E_spec_ParseDelay : fnOf tys [(50, T_spec_SplitAny), (51, T_spec_ParseInt), (52, T_spec_ActivityIndex), (53, T_spec_FormatDelay)] Tryz.f7 H_spec_ParseDelay = T_spec_ParseDelay := by kernel_rfl
theorem K_spec_ParseDelay : SigB base_ Tryz.prog 7 T_spec_ParseDelay := (congrArg (SigB base_ Tryz.prog 7) E_spec_ParseDelay).mp (fnOf_ok rfl tysOk ⟨K_spec_SplitAny, K_spec_ParseInt, K_spec_ActivityIndex, K_spec_FormatDelay, trivial⟩ Tryz.func7 (by decide) rfl (fun _ h => by cases h) (nilEq_of (by kernel_rfl)))
def laws_toIntS_L0 : D_Mode → Option (Out D_Mode ((Bool × D_Mode) ⊕ Empty) ((List Int) × Unit)) :=
  (fun v1 => (if (ltZ v1.1 (lenI v1.2.1)) = true then (Option.bind (getI v1.2.1 v1.1) fun v2 => (Option.bind ((Option.bind (getI v1.2.2.1 v1.1) fun v3 => (some ())) : (Option Unit)) fun v4 => (Option.bind ((Option.bind ((Option.bind (getI v1.2.2.1 v1.1) fun v5 => (some v5)) : (Option Int)) fun v6 => (some v2)) : (Option Int)) fun v7 => (some (Out.norm ((addZ .i64 v1.1 1), (v1.2.1, ((setI v1.2.2.1 v1.1 (fun v8 => v7)), ())))))))) else (some (Out.exit (Sum.inl ((ltZ v1.1 (lenI v1.2.1)), (v1.1, (v1.2.1, (v1.2.2.1, ())))))))))
def laws_toIntS (x : ((List Int) × Unit)) (c : Unit) : (Option ((List Int) × Unit)) :=
  (Option.bind ((if (eqZ (lenI x.1) (lenI x.1)) = true then (zerosI (lenI x.1) 0) else none) : (Option (List Int))) fun v0 => (Option.bind (loopN (A := D_Mode) big laws_toIntS_L0 (0, (x.1, (v0, ())))) fun v9 => (match v9 with | Out.norm v10 => none | Out.exit v11 => (match ((match v11 with | Sum.inl v14 => (Sum.inl (v14.2.2.2.1, ())) | Sum.inr v15 => (Empty.elim v15)) : (((List Int) × Unit) ⊕ Empty)) with | Sum.inl v12 => (some (v12.1, ())) | Sum.inr v13 => none) | Out.ret v16 => (some v16))))
def H_laws_toIntS : Hd := ⟨[.sl 3 (.int .i64)], [], none, .p, .sl 3 (.int .i64), (Ty.all (.sl 3 (.int .i64))), []⟩
def T_laws_toIntS : FSig := ⟨H_laws_toIntS.ps, H_laws_toIntS.cs, H_laws_toIntS.io, H_laws_toIntS.im, H_laws_toIntS.R, H_laws_toIntS.m, laws_toIntS⟩
theorem E_laws_toIntS : fnOf tys [] Tryz.f57 H_laws_toIntS = T_laws_toIntS := by kernel_rfl
theorem K_laws_toIntS : SigB base_ Tryz.prog 57 T_laws_toIntS := (congrArg (SigB base_ Tryz.prog 57) E_laws_toIntS).mp (fnOf_ok rfl tysOk trivial Tryz.func57 (by decide) rfl (fun _ h => by cases h) (nilEq_of (by kernel_rfl)))
def laws_toMode (x : (D_Mode × Unit)) (c : Unit) : (Option (D_Mode × Unit)) :=
  (Option.bind ((Option.bind (laws_toIntS (x.1.2.1, ()) ()) fun v0 => (some v0.1)) : (Option (List Int))) fun v1 => (Option.bind ((Option.bind (laws_toIntS (x.1.2.2.1, ()) ()) fun v2 => (some v2.1)) : (Option (List Int))) fun v3 => (some ((x.1.1, (v1, (v3, ()))), ()))))
def H_laws_toMode : Hd := ⟨[.st [.int .i64, .sl 3 (.int .i64), .sl 3 (.int .i64)]], [], none, .p, .st [.int .i64, .sl 3 (.int .i64), .sl 3 (.int .i64)], (Ty.all (.st [.int .i64, .sl 3 (.int .i64), .sl 3 (.int .i64)])), []⟩
def T_laws_toMode : FSig := ⟨H_laws_toMode.ps, H_laws_toMode.cs, H_laws_toMode.io, H_laws_toMode.im, H_laws_toMode.R, H_laws_toMode.m, laws_toMode⟩
theorem E_laws_toMode : fnOf tys [(57, T_laws_toIntS)] Tryz.f222 H_laws_toMode = T_laws_toMode := by kernel_rfl
theorem K_laws_toMode : SigB base_ Tryz.prog 222 T_laws_toMode := (congrArg (SigB base_ Tryz.prog 222) E_laws_toMode).mp (fnOf_ok rfl tysOk ⟨K_laws_toIntS, trivial⟩ Tryz.func222 (by decide) rfl (fun _ h => by cases h) (nilEq_of (by kernel_rfl)))
def laws_toModeS_L0 : (Int × ((List D_Mode) × ((List D_Mode) × Unit))) → Option (Out (Int × ((List D_Mode) × ((List D_Mode) × Unit))) ((Bool × (Int × ((List D_Mode) × ((List D_Mode) × Unit)))) ⊕ Empty) ((List D_Mode) × Unit)) :=
  (fun v1 => (if (ltZ v1.1 (lenI v1.2.1)) = true then (Option.bind (getI v1.2.1 v1.1) fun v2 => (Option.bind ((Option.bind (laws_toMode (v2, ()) ()) fun v3 => (some v3.1)) : (Option D_Mode)) fun v4 => (Option.bind ((Option.bind (getI v1.2.2.1 v1.1) fun v5 => (some ())) : (Option Unit)) fun v6 => (Option.bind ((Option.bind ((Option.bind (getI v1.2.2.1 v1.1) fun v7 => (some v7)) : (Option D_Mode)) fun v8 => (some v4)) : (Option D_Mode)) fun v9 => (some (Out.norm ((addZ .i64 v1.1 1), (v1.2.1, ((setI v1.2.2.1 v1.1 (fun v10 => v9)), ()))))))))) else (some (Out.exit (Sum.inl ((ltZ v1.1 (lenI v1.2.1)), (v1.1, (v1.2.1, (v1.2.2.1, ())))))))))
def laws_toModeS (x : ((List D_Mode) × Unit)) (c : Unit) : (Option ((List D_Mode) × Unit)) :=
  (Option.bind ((if (eqZ (lenI x.1) (lenI x.1)) = true then (zerosI (lenI x.1) (0, ([], ([], ())))) else none) : (Option (List D_Mode))) fun v0 => (Option.bind (loopN (A := (Int × ((List D_Mode) × ((List D_Mode) × Unit)))) big laws_toModeS_L0 (0, (x.1, (v0, ())))) fun v11 => (match v11 with | Out.norm v12 => none | Out.exit v13 => (match ((match v13 with | Sum.inl v16 => (Sum.inl (v16.2.2.2.1, ())) | Sum.inr v17 => (Empty.elim v17)) : (((List D_Mode) × Unit) ⊕ Empty)) with | Sum.inl v14 => (some (v14.1, ())) | Sum.inr v15 => none) | Out.ret v18 => (some v18))))
def H_laws_toModeS : Hd := ⟨[.sl 263 (.st [.int .i64, .sl 3 (.int .i64), .sl 3 (.int .i64)])], [], none, .p, .sl 131 (.st [.int .i64, .sl 3 (.int .i64), .sl 3 (.int .i64)]), (Ty.all (.sl 131 (.st [.int .i64, .sl 3 (.int .i64), .sl 3 (.int .i64)]))), []⟩
def T_laws_toModeS : FSig := ⟨H_laws_toModeS.ps, H_laws_toModeS.cs, H_laws_toModeS.io, H_laws_toModeS.im, H_laws_toModeS.R, H_laws_toModeS.m, laws_toModeS⟩
theorem E_laws_toModeS : fnOf tys [(222, T_laws_toMode)] Tryz.f185 H_laws_toModeS = T_laws_toModeS := by kernel_rfl
theorem K_laws_toModeS : SigB base_ Tryz.prog 185 T_laws_toModeS := (congrArg (SigB base_ Tryz.prog 185) E_laws_toModeS).mp (fnOf_ok rfl tysOk ⟨K_laws_toMode, trivial⟩ Tryz.func185 (by decide) rfl (fun _ h => by cases h) (nilEq_of (by kernel_rfl)))
def laws_toActivity (x : (D_Activity × Unit)) (c : Unit) : (Option (D_Activity × Unit)) :=
  (Option.bind ((Option.bind (laws_toModeS (x.1.2.2.1, ()) ()) fun v0 => (some v0.1)) : (Option (List D_Mode))) fun v1 => (some ((x.1.1, (x.1.2.1, (v1, ()))), ())))
def H_laws_toActivity : Hd := ⟨[.st [.str, .int .i64, .sl 263 (.st [.int .i64, .sl 3 (.int .i64), .sl 3 (.int .i64)])]], [], none, .p, .st [.str, .int .i64, .sl 131 (.st [.int .i64, .sl 3 (.int .i64), .sl 3 (.int .i64)])], (Ty.all (.st [.str, .int .i64, .sl 131 (.st [.int .i64, .sl 3 (.int .i64), .sl 3 (.int .i64)])])), []⟩
def T_laws_toActivity : FSig := ⟨H_laws_toActivity.ps, H_laws_toActivity.cs, H_laws_toActivity.io, H_laws_toActivity.im, H_laws_toActivity.R, H_laws_toActivity.m, laws_toActivity⟩
theorem E_laws_toActivity : fnOf tys [(185, T_laws_toModeS)] Tryz.f126 H_laws_toActivity = T_laws_toActivity := by kernel_rfl
theorem K_laws_toActivity : SigB base_ Tryz.prog 126 T_laws_toActivity := (congrArg (SigB base_ Tryz.prog 126) E_laws_toActivity).mp (fnOf_ok rfl tysOk ⟨K_laws_toModeS, trivial⟩ Tryz.func126 (by decide) rfl (fun _ h => by cases h) (nilEq_of (by kernel_rfl)))
def laws_toActivityS_L0 : (Int × ((List D_Activity) × ((List D_Activity) × Unit))) → Option (Out (Int × ((List D_Activity) × ((List D_Activity) × Unit))) ((Bool × (Int × ((List D_Activity) × ((List D_Activity) × Unit)))) ⊕ Empty) ((List D_Activity) × Unit)) :=
  (fun v1 => (if (ltZ v1.1 (lenI v1.2.1)) = true then (Option.bind (getI v1.2.1 v1.1) fun v2 => (Option.bind ((Option.bind (laws_toActivity (v2, ()) ()) fun v3 => (some v3.1)) : (Option D_Activity)) fun v4 => (Option.bind ((Option.bind (getI v1.2.2.1 v1.1) fun v5 => (some ())) : (Option Unit)) fun v6 => (Option.bind ((Option.bind ((Option.bind (getI v1.2.2.1 v1.1) fun v7 => (some v7)) : (Option D_Activity)) fun v8 => (some v4)) : (Option D_Activity)) fun v9 => (some (Out.norm ((addZ .i64 v1.1 1), (v1.2.1, ((setI v1.2.2.1 v1.1 (fun v10 => v9)), ()))))))))) else (some (Out.exit (Sum.inl ((ltZ v1.1 (lenI v1.2.1)), (v1.1, (v1.2.1, (v1.2.2.1, ())))))))))
def laws_toActivityS (x : ((List D_Activity) × Unit)) (c : Unit) : (Option ((List D_Activity) × Unit)) :=
  (Option.bind ((if (eqZ (lenI x.1) (lenI x.1)) = true then (zerosI (lenI x.1) ([], (0, ([], ())))) else none) : (Option (List D_Activity))) fun v0 => (Option.bind (loopN (A := (Int × ((List D_Activity) × ((List D_Activity) × Unit)))) big laws_toActivityS_L0 (0, (x.1, (v0, ())))) fun v11 => (match v11 with | Out.norm v12 => none | Out.exit v13 => (match ((match v13 with | Sum.inl v16 => (Sum.inl (v16.2.2.2.1, ())) | Sum.inr v17 => (Empty.elim v17)) : (((List D_Activity) × Unit) ⊕ Empty)) with | Sum.inl v14 => (some (v14.1, ())) | Sum.inr v15 => none) | Out.ret v18 => (some v18))))
def H_laws_toActivityS : Hd := ⟨[.sl 173 (.st [.str, .int .i64, .sl 263 (.st [.int .i64, .sl 3 (.int .i64), .sl 3 (.int .i64)])])], [], none, .p, .sl 75 (.st [.str, .int .i64, .sl 131 (.st [.int .i64, .sl 3 (.int .i64), .sl 3 (.int .i64)])]), (Ty.all (.sl 75 (.st [.str, .int .i64, .sl 131 (.st [.int .i64, .sl 3 (.int .i64), .sl 3 (.int .i64)])]))), []⟩
def T_laws_toActivityS : FSig := ⟨H_laws_toActivityS.ps, H_laws_toActivityS.cs, H_laws_toActivityS.io, H_laws_toActivityS.im, H_laws_toActivityS.R, H_laws_toActivityS.m, laws_toActivityS⟩
theorem E_laws_toActivityS : fnOf tys [(126, T_laws_toActivity)] Tryz.f54 H_laws_toActivityS = T_laws_toActivityS := by kernel_rfl
theorem K_laws_toActivityS : SigB base_ Tryz.prog 54 T_laws_toActivityS := (congrArg (SigB base_ Tryz.prog 54) E_laws_toActivityS).mp (fnOf_ok rfl tysOk ⟨K_laws_toActivity, trivial⟩ Tryz.func54 (by decide) rfl (fun _ h => by cases h) (nilEq_of (by kernel_rfl)))
def laws_toLink (x : (D_Link × Unit)) (c : Unit) : (Option (D_Link × Unit)) :=
  (some ((x.1.1, (x.1.2.1, (x.1.2.2.1, (x.1.2.2.2.1, ())))), ()))
def H_laws_toLink : Hd := ⟨[.st [.int .i64, .int .i64, .bool, .int .i64]], [], none, .p, .st [.int .i64, .int .i64, .bool, .int .i64], .p, []⟩
def T_laws_toLink : FSig := ⟨H_laws_toLink.ps, H_laws_toLink.cs, H_laws_toLink.io, H_laws_toLink.im, H_laws_toLink.R, H_laws_toLink.m, laws_toLink⟩
theorem E_laws_toLink : fnOf tys [] Tryz.f127 H_laws_toLink = T_laws_toLink := by kernel_rfl
theorem K_laws_toLink : SigB base_ Tryz.prog 127 T_laws_toLink := (congrArg (SigB base_ Tryz.prog 127) E_laws_toLink).mp (fnOf_ok rfl tysOk trivial Tryz.func127 (by decide) rfl (fun _ h => by cases h) (nilEq_of (by kernel_rfl)))
def laws_toLinkS_L0 : (Int × ((List D_Link) × ((List D_Link) × Unit))) → Option (Out (Int × ((List D_Link) × ((List D_Link) × Unit))) ((Bool × (Int × ((List D_Link) × ((List D_Link) × Unit)))) ⊕ Empty) ((List D_Link) × Unit)) :=
  (fun v1 => (if (ltZ v1.1 (lenI v1.2.1)) = true then (Option.bind (getI v1.2.1 v1.1) fun v2 => (Option.bind ((Option.bind (laws_toLink (v2, ()) ()) fun v3 => (some v3.1)) : (Option D_Link)) fun v4 => (Option.bind ((Option.bind (getI v1.2.2.1 v1.1) fun v5 => (some ())) : (Option Unit)) fun v6 => (Option.bind ((Option.bind ((Option.bind (getI v1.2.2.1 v1.1) fun v7 => (some v7)) : (Option D_Link)) fun v8 => (some v4)) : (Option D_Link)) fun v9 => (some (Out.norm ((addZ .i64 v1.1 1), (v1.2.1, ((setI v1.2.2.1 v1.1 (fun v10 => v9)), ()))))))))) else (some (Out.exit (Sum.inl ((ltZ v1.1 (lenI v1.2.1)), (v1.1, (v1.2.1, (v1.2.2.1, ())))))))))
def laws_toLinkS (x : ((List D_Link) × Unit)) (c : Unit) : (Option ((List D_Link) × Unit)) :=
  (Option.bind ((if (eqZ (lenI x.1) (lenI x.1)) = true then (zerosI (lenI x.1) (0, (0, (false, (0, ()))))) else none) : (Option (List D_Link))) fun v0 => (Option.bind (loopN (A := (Int × ((List D_Link) × ((List D_Link) × Unit)))) big laws_toLinkS_L0 (0, (x.1, (v0, ())))) fun v11 => (match v11 with | Out.norm v12 => none | Out.exit v13 => (match ((match v13 with | Sum.inl v16 => (Sum.inl (v16.2.2.2.1, ())) | Sum.inr v17 => (Empty.elim v17)) : (((List D_Link) × Unit) ⊕ Empty)) with | Sum.inl v14 => (some (v14.1, ())) | Sum.inr v15 => none) | Out.ret v18 => (some v18))))
def H_laws_toLinkS : Hd := ⟨[.sl 181 (.st [.int .i64, .int .i64, .bool, .int .i64])], [], none, .p, .sl 69 (.st [.int .i64, .int .i64, .bool, .int .i64]), (Ty.all (.sl 69 (.st [.int .i64, .int .i64, .bool, .int .i64]))), []⟩
def T_laws_toLinkS : FSig := ⟨H_laws_toLinkS.ps, H_laws_toLinkS.cs, H_laws_toLinkS.io, H_laws_toLinkS.im, H_laws_toLinkS.R, H_laws_toLinkS.m, laws_toLinkS⟩
theorem E_laws_toLinkS : fnOf tys [(127, T_laws_toLink)] Tryz.f55 H_laws_toLinkS = T_laws_toLinkS := by kernel_rfl
theorem K_laws_toLinkS : SigB base_ Tryz.prog 55 T_laws_toLinkS := (congrArg (SigB base_ Tryz.prog 55) E_laws_toLinkS).mp (fnOf_ok rfl tysOk ⟨K_laws_toLink, trivial⟩ Tryz.func55 (by decide) rfl (fun _ h => by cases h) (nilEq_of (by kernel_rfl)))
def laws_toStep (x : (D_Step × Unit)) (c : Unit) : (Option (D_Step × Unit)) :=
  (some ((x.1.1, (x.1.2.1, ())), ()))
def H_laws_toStep : Hd := ⟨[.st [.int .i64, .int .i64]], [], none, .p, .st [.int .i64, .int .i64], .p, []⟩
def T_laws_toStep : FSig := ⟨H_laws_toStep.ps, H_laws_toStep.cs, H_laws_toStep.io, H_laws_toStep.im, H_laws_toStep.R, H_laws_toStep.m, laws_toStep⟩
theorem E_laws_toStep : fnOf tys [] Tryz.f223 H_laws_toStep = T_laws_toStep := by kernel_rfl
theorem K_laws_toStep : SigB base_ Tryz.prog 223 T_laws_toStep := (congrArg (SigB base_ Tryz.prog 223) E_laws_toStep).mp (fnOf_ok rfl tysOk trivial Tryz.func223 (by decide) rfl (fun _ h => by cases h) (nilEq_of (by kernel_rfl)))
def laws_toStepS_L0 : (Int × ((List D_Step) × ((List D_Step) × Unit))) → Option (Out (Int × ((List D_Step) × ((List D_Step) × Unit))) ((Bool × (Int × ((List D_Step) × ((List D_Step) × Unit)))) ⊕ Empty) ((List D_Step) × Unit)) :=
  (fun v1 => (if (ltZ v1.1 (lenI v1.2.1)) = true then (Option.bind (getI v1.2.1 v1.1) fun v2 => (Option.bind ((Option.bind (laws_toStep (v2, ()) ()) fun v3 => (some v3.1)) : (Option D_Step)) fun v4 => (Option.bind ((Option.bind (getI v1.2.2.1 v1.1) fun v5 => (some ())) : (Option Unit)) fun v6 => (Option.bind ((Option.bind ((Option.bind (getI v1.2.2.1 v1.1) fun v7 => (some v7)) : (Option D_Step)) fun v8 => (some v4)) : (Option D_Step)) fun v9 => (some (Out.norm ((addZ .i64 v1.1 1), (v1.2.1, ((setI v1.2.2.1 v1.1 (fun v10 => v9)), ()))))))))) else (some (Out.exit (Sum.inl ((ltZ v1.1 (lenI v1.2.1)), (v1.1, (v1.2.1, (v1.2.2.1, ())))))))))
def laws_toStepS (x : ((List D_Step) × Unit)) (c : Unit) : (Option ((List D_Step) × Unit)) :=
  (Option.bind ((if (eqZ (lenI x.1) (lenI x.1)) = true then (zerosI (lenI x.1) (0, (0, ()))) else none) : (Option (List D_Step))) fun v0 => (Option.bind (loopN (A := (Int × ((List D_Step) × ((List D_Step) × Unit)))) big laws_toStepS_L0 (0, (x.1, (v0, ())))) fun v11 => (match v11 with | Out.norm v12 => none | Out.exit v13 => (match ((match v13 with | Sum.inl v16 => (Sum.inl (v16.2.2.2.1, ())) | Sum.inr v17 => (Empty.elim v17)) : (((List D_Step) × Unit) ⊕ Empty)) with | Sum.inl v14 => (some (v14.1, ())) | Sum.inr v15 => none) | Out.ret v18 => (some v18))))
def H_laws_toStepS : Hd := ⟨[.sl 266 (.st [.int .i64, .int .i64])], [], none, .p, .sl 203 (.st [.int .i64, .int .i64]), (Ty.all (.sl 203 (.st [.int .i64, .int .i64]))), []⟩
def T_laws_toStepS : FSig := ⟨H_laws_toStepS.ps, H_laws_toStepS.cs, H_laws_toStepS.io, H_laws_toStepS.im, H_laws_toStepS.R, H_laws_toStepS.m, laws_toStepS⟩
theorem E_laws_toStepS : fnOf tys [(223, T_laws_toStep)] Tryz.f186 H_laws_toStepS = T_laws_toStepS := by kernel_rfl
theorem K_laws_toStepS : SigB base_ Tryz.prog 186 T_laws_toStepS := (congrArg (SigB base_ Tryz.prog 186) E_laws_toStepS).mp (fnOf_ok rfl tysOk ⟨K_laws_toStep, trivial⟩ Tryz.func186 (by decide) rfl (fun _ h => by cases h) (nilEq_of (by kernel_rfl)))
def laws_toIntSS_L0 : (Int × ((List (List Int)) × ((List (List Int)) × Unit))) → Option (Out (Int × ((List (List Int)) × ((List (List Int)) × Unit))) ((Bool × (Int × ((List (List Int)) × ((List (List Int)) × Unit)))) ⊕ Empty) ((List (List Int)) × Unit)) :=
  (fun v1 => (if (ltZ v1.1 (lenI v1.2.1)) = true then (Option.bind (getI v1.2.1 v1.1) fun v2 => (Option.bind ((Option.bind (laws_toIntS (v2, ()) ()) fun v3 => (some v3.1)) : (Option (List Int))) fun v4 => (Option.bind ((Option.bind (getI v1.2.2.1 v1.1) fun v5 => (some ())) : (Option Unit)) fun v6 => (Option.bind ((Option.bind ((Option.bind (getI v1.2.2.1 v1.1) fun v7 => (some v7)) : (Option (List Int))) fun v8 => (some v4)) : (Option (List Int))) fun v9 => (some (Out.norm ((addZ .i64 v1.1 1), (v1.2.1, ((setI v1.2.2.1 v1.1 (fun v10 => v9)), ()))))))))) else (some (Out.exit (Sum.inl ((ltZ v1.1 (lenI v1.2.1)), (v1.1, (v1.2.1, (v1.2.2.1, ())))))))))
def laws_toIntSS (x : ((List (List Int)) × Unit)) (c : Unit) : (Option ((List (List Int)) × Unit)) :=
  (Option.bind ((if (eqZ (lenI x.1) (lenI x.1)) = true then (zerosI (lenI x.1) []) else none) : (Option (List (List Int)))) fun v0 => (Option.bind (loopN (A := (Int × ((List (List Int)) × ((List (List Int)) × Unit)))) big laws_toIntSS_L0 (0, (x.1, (v0, ())))) fun v11 => (match v11 with | Out.norm v12 => none | Out.exit v13 => (match ((match v13 with | Sum.inl v16 => (Sum.inl (v16.2.2.2.1, ())) | Sum.inr v17 => (Empty.elim v17)) : (((List (List Int)) × Unit) ⊕ Empty)) with | Sum.inl v14 => (some (v14.1, ())) | Sum.inr v15 => none) | Out.ret v18 => (some v18))))
def H_laws_toIntSS : Hd := ⟨[.sl 25 (.sl 3 (.int .i64))], [], none, .p, .sl 25 (.sl 3 (.int .i64)), (Ty.all (.sl 25 (.sl 3 (.int .i64)))), []⟩
def T_laws_toIntSS : FSig := ⟨H_laws_toIntSS.ps, H_laws_toIntSS.cs, H_laws_toIntSS.io, H_laws_toIntSS.im, H_laws_toIntSS.R, H_laws_toIntSS.m, laws_toIntSS⟩
theorem E_laws_toIntSS : fnOf tys [(57, T_laws_toIntS)] Tryz.f187 H_laws_toIntSS = T_laws_toIntSS := by kernel_rfl
theorem K_laws_toIntSS : SigB base_ Tryz.prog 187 T_laws_toIntSS := (congrArg (SigB base_ Tryz.prog 187) E_laws_toIntSS).mp (fnOf_ok rfl tysOk ⟨K_laws_toIntS, trivial⟩ Tryz.func187 (by decide) rfl (fun _ h => by cases h) (nilEq_of (by kernel_rfl)))
def laws_toResource (x : (D_Resource × Unit)) (c : Unit) : (Option (D_Resource × Unit)) :=
  (Option.bind ((Option.bind (laws_toStepS (x.1.1, ()) ()) fun v0 => (some v0.1)) : (Option (List D_Step))) fun v1 => (Option.bind ((Option.bind (laws_toIntSS (x.1.2.1, ()) ()) fun v2 => (some v2.1)) : (Option (List (List Int)))) fun v3 => (some ((v1, (v3, ())), ()))))
def H_laws_toResource : Hd := ⟨[.st [.sl 266 (.st [.int .i64, .int .i64]), .sl 25 (.sl 3 (.int .i64))]], [], none, .p, .st [.sl 203 (.st [.int .i64, .int .i64]), .sl 25 (.sl 3 (.int .i64))], (Ty.all (.st [.sl 203 (.st [.int .i64, .int .i64]), .sl 25 (.sl 3 (.int .i64))])), []⟩
def T_laws_toResource : FSig := ⟨H_laws_toResource.ps, H_laws_toResource.cs, H_laws_toResource.io, H_laws_toResource.im, H_laws_toResource.R, H_laws_toResource.m, laws_toResource⟩
theorem E_laws_toResource : fnOf tys [(186, T_laws_toStepS), (187, T_laws_toIntSS)] Tryz.f128 H_laws_toResource = T_laws_toResource := by kernel_rfl
theorem K_laws_toResource : SigB base_ Tryz.prog 128 T_laws_toResource := (congrArg (SigB base_ Tryz.prog 128) E_laws_toResource).mp (fnOf_ok rfl tysOk ⟨K_laws_toStepS, K_laws_toIntSS, trivial⟩ Tryz.func128 (by decide) rfl (fun _ h => by cases h) (nilEq_of (by kernel_rfl)))
def laws_toResourceS_L0 : (Int × ((List D_Resource) × ((List D_Resource) × Unit))) → Option (Out (Int × ((List D_Resource) × ((List D_Resource) × Unit))) ((Bool × (Int × ((List D_Resource) × ((List D_Resource) × Unit)))) ⊕ Empty) ((List D_Resource) × Unit)) :=
  (fun v1 => (if (ltZ v1.1 (lenI v1.2.1)) = true then (Option.bind (getI v1.2.1 v1.1) fun v2 => (Option.bind ((Option.bind (laws_toResource (v2, ()) ()) fun v3 => (some v3.1)) : (Option D_Resource)) fun v4 => (Option.bind ((Option.bind (getI v1.2.2.1 v1.1) fun v5 => (some ())) : (Option Unit)) fun v6 => (Option.bind ((Option.bind ((Option.bind (getI v1.2.2.1 v1.1) fun v7 => (some v7)) : (Option D_Resource)) fun v8 => (some v4)) : (Option D_Resource)) fun v9 => (some (Out.norm ((addZ .i64 v1.1 1), (v1.2.1, ((setI v1.2.2.1 v1.1 (fun v10 => v9)), ()))))))))) else (some (Out.exit (Sum.inl ((ltZ v1.1 (lenI v1.2.1)), (v1.1, (v1.2.1, (v1.2.2.1, ())))))))))
def laws_toResourceS (x : ((List D_Resource) × Unit)) (c : Unit) : (Option ((List D_Resource) × Unit)) :=
  (Option.bind ((if (eqZ (lenI x.1) (lenI x.1)) = true then (zerosI (lenI x.1) ([], ([], ()))) else none) : (Option (List D_Resource))) fun v0 => (Option.bind (loopN (A := (Int × ((List D_Resource) × ((List D_Resource) × Unit)))) big laws_toResourceS_L0 (0, (x.1, (v0, ())))) fun v11 => (match v11 with | Out.norm v12 => none | Out.exit v13 => (match ((match v13 with | Sum.inl v16 => (Sum.inl (v16.2.2.2.1, ())) | Sum.inr v17 => (Empty.elim v17)) : (((List D_Resource) × Unit) ⊕ Empty)) with | Sum.inl v14 => (some (v14.1, ())) | Sum.inr v15 => none) | Out.ret v18 => (some v18))))
def H_laws_toResourceS : Hd := ⟨[.sl 177 (.st [.sl 266 (.st [.int .i64, .int .i64]), .sl 25 (.sl 3 (.int .i64))])], [], none, .p, .sl 126 (.st [.sl 203 (.st [.int .i64, .int .i64]), .sl 25 (.sl 3 (.int .i64))]), (Ty.all (.sl 126 (.st [.sl 203 (.st [.int .i64, .int .i64]), .sl 25 (.sl 3 (.int .i64))]))), []⟩
def T_laws_toResourceS : FSig := ⟨H_laws_toResourceS.ps, H_laws_toResourceS.cs, H_laws_toResourceS.io, H_laws_toResourceS.im, H_laws_toResourceS.R, H_laws_toResourceS.m, laws_toResourceS⟩
theorem E_laws_toResourceS : fnOf tys [(128, T_laws_toResource)] Tryz.f56 H_laws_toResourceS = T_laws_toResourceS := by kernel_rfl
theorem K_laws_toResourceS : SigB base_ Tryz.prog 56 T_laws_toResourceS := (congrArg (SigB base_ Tryz.prog 56) E_laws_toResourceS).mp (fnOf_ok rfl tysOk ⟨K_laws_toResource, trivial⟩ Tryz.func56 (by decide) rfl (fun _ h => by cases h) (nilEq_of (by kernel_rfl)))
def laws_toProject (x : (D_Project × Unit)) (c : Unit) : (Option (D_Project × Unit)) :=
  (Option.bind ((Option.bind (laws_toActivityS (x.1.2.1, ()) ()) fun v0 => (some v0.1)) : (Option (List D_Activity))) fun v1 => (Option.bind ((Option.bind (laws_toLinkS (x.1.2.2.1, ()) ()) fun v2 => (some v2.1)) : (Option (List D_Link))) fun v3 => (Option.bind ((Option.bind (laws_toResourceS (x.1.2.2.2.1, ()) ()) fun v4 => (some v4.1)) : (Option (List D_Resource))) fun v5 => (Option.bind ((Option.bind (laws_toIntS (x.1.2.2.2.2.1, ()) ()) fun v6 => (some v6.1)) : (Option (List Int))) fun v7 => (some ((x.1.1, (v1, (v3, (v5, (v7, ()))))), ()))))))
def H_laws_toProject : Hd := ⟨[.st [.int .i64, .sl 173 (.st [.str, .int .i64, .sl 263 (.st [.int .i64, .sl 3 (.int .i64), .sl 3 (.int .i64)])]), .sl 181 (.st [.int .i64, .int .i64, .bool, .int .i64]), .sl 177 (.st [.sl 266 (.st [.int .i64, .int .i64]), .sl 25 (.sl 3 (.int .i64))]), .sl 3 (.int .i64)]], [], none, .p, .st [.int .i64, .sl 75 (.st [.str, .int .i64, .sl 131 (.st [.int .i64, .sl 3 (.int .i64), .sl 3 (.int .i64)])]), .sl 69 (.st [.int .i64, .int .i64, .bool, .int .i64]), .sl 126 (.st [.sl 203 (.st [.int .i64, .int .i64]), .sl 25 (.sl 3 (.int .i64))]), .sl 3 (.int .i64)], (Ty.all (.st [.int .i64, .sl 75 (.st [.str, .int .i64, .sl 131 (.st [.int .i64, .sl 3 (.int .i64), .sl 3 (.int .i64)])]), .sl 69 (.st [.int .i64, .int .i64, .bool, .int .i64]), .sl 126 (.st [.sl 203 (.st [.int .i64, .int .i64]), .sl 25 (.sl 3 (.int .i64))]), .sl 3 (.int .i64)])), []⟩
def T_laws_toProject : FSig := ⟨H_laws_toProject.ps, H_laws_toProject.cs, H_laws_toProject.io, H_laws_toProject.im, H_laws_toProject.R, H_laws_toProject.m, laws_toProject⟩
theorem E_laws_toProject : fnOf tys [(54, T_laws_toActivityS), (55, T_laws_toLinkS), (56, T_laws_toResourceS), (57, T_laws_toIntS)] Tryz.f8 H_laws_toProject = T_laws_toProject := by kernel_rfl
theorem K_laws_toProject : SigB base_ Tryz.prog 8 T_laws_toProject := (congrArg (SigB base_ Tryz.prog 8) E_laws_toProject).mp (fnOf_ok rfl tysOk ⟨K_laws_toActivityS, K_laws_toLinkS, K_laws_toResourceS, K_laws_toIntS, trivial⟩ Tryz.func8 (by decide) rfl (fun _ h => by cases h) (nilEq_of (by kernel_rfl)))
def slices_IndexFunc_impl_Activity_impl_Activity_L0 : (Int × (Int × (((D_Activity × Unit) → (Option Bool)) × ((List D_Activity) × Unit)))) → Option (Out (Int × (Int × (((D_Activity × Unit) → (Option Bool)) × ((List D_Activity) × Unit)))) ((Bool × (Int × (Int × (((D_Activity × Unit) → (Option Bool)) × ((List D_Activity) × Unit))))) ⊕ Empty) (Int × Unit)) :=
  (fun v0 => (if (ltZ v0.1 v0.2.1) = true then (Option.bind (getI v0.2.2.2.1 v0.1) fun v1 => (Option.bind (v0.2.2.1 (v1, ())) fun v2 => (if v2 = true then (some (Out.ret (v0.1, ()))) else (some (Out.norm ((addZ .i64 v0.1 1), (v0.2.1, (v0.2.2.1, (v0.2.2.2.1, ()))))))))) else (some (Out.exit (Sum.inl ((ltZ v0.1 v0.2.1), (v0.1, (v0.2.1, (v0.2.2.1, (v0.2.2.2.1, ()))))))))))
def slices_IndexFunc_impl_Activity_impl_Activity (x : ((List D_Activity) × (((D_Activity × Unit) → (Option Bool)) × Unit))) (c : Unit) : (Option (Int × Unit)) :=
  (Option.bind (loopN (A := (Int × (Int × (((D_Activity × Unit) → (Option Bool)) × ((List D_Activity) × Unit))))) big slices_IndexFunc_impl_Activity_impl_Activity_L0 (0, ((lenI x.1), (x.2.1, (x.1, ()))))) fun v3 => (match v3 with | Out.norm v4 => none | Out.exit v5 => (match ((match v5 with | Sum.inl v8 => (Sum.inl ()) | Sum.inr v9 => (Empty.elim v9)) : (Unit ⊕ Empty)) with | Sum.inl v6 => (some ((-1), ())) | Sum.inr v7 => none) | Out.ret v10 => (some v10)))
def H_slices_IndexFunc_impl_Activity_impl_Activity : Hd := ⟨[.sl 75 (.st [.str, .int .i64, .sl 131 (.st [.int .i64, .sl 3 (.int .i64), .sl 3 (.int .i64)])]), .fn [.st [.str, .int .i64, .sl 131 (.st [.int .i64, .sl 3 (.int .i64), .sl 3 (.int .i64)])]] (.bool)], [], none, .p, .int .i64, .p, []⟩
def T_slices_IndexFunc_impl_Activity_impl_Activity : FSig := ⟨H_slices_IndexFunc_impl_Activity_impl_Activity.ps, H_slices_IndexFunc_impl_Activity_impl_Activity.cs, H_slices_IndexFunc_impl_Activity_impl_Activity.io, H_slices_IndexFunc_impl_Activity_impl_Activity.im, H_slices_IndexFunc_impl_Activity_impl_Activity.R, H_slices_IndexFunc_impl_Activity_impl_Activity.m, slices_IndexFunc_impl_Activity_impl_Activity⟩
theorem E_slices_IndexFunc_impl_Activity_impl_Activity : fnOf tys [] Tryz.f102 H_slices_IndexFunc_impl_Activity_impl_Activity = T_slices_IndexFunc_impl_Activity_impl_Activity := by kernel_rfl
theorem K_slices_IndexFunc_impl_Activity_impl_Activity : SigB base_ Tryz.prog 102 T_slices_IndexFunc_impl_Activity_impl_Activity := (congrArg (SigB base_ Tryz.prog 102) E_slices_IndexFunc_impl_Activity_impl_Activity).mp (fnOf_ok rfl tysOk trivial Tryz.func102 (by decide) rfl (fun _ h => by cases h) (nilEq_of (by kernel_rfl)))
def impl_ActivityIndex_1 (x : (D_Activity × Unit)) (c : ((List UInt8) × Unit)) : (Option (Bool × Unit)) :=
  (some ((eqS x.1.1 c.1), ()))
def H_impl_ActivityIndex_1 : Hd := ⟨[.st [.str, .int .i64, .sl 131 (.st [.int .i64, .sl 3 (.int .i64), .sl 3 (.int .i64)])]], [.str], none, .p, .bool, .p, []⟩
def T_impl_ActivityIndex_1 : FSig := ⟨H_impl_ActivityIndex_1.ps, H_impl_ActivityIndex_1.cs, H_impl_ActivityIndex_1.io, H_impl_ActivityIndex_1.im, H_impl_ActivityIndex_1.R, H_impl_ActivityIndex_1.m, impl_ActivityIndex_1⟩
theorem E_impl_ActivityIndex_1 : fnOf tys [] Tryz.f103 H_impl_ActivityIndex_1 = T_impl_ActivityIndex_1 := by kernel_rfl
theorem K_impl_ActivityIndex_1 : SigB base_ Tryz.prog 103 T_impl_ActivityIndex_1 := (congrArg (SigB base_ Tryz.prog 103) E_impl_ActivityIndex_1).mp (fnOf_ok rfl tysOk trivial Tryz.func103 (by decide) rfl (fun _ h => by cases h) (nilEq_of (by kernel_rfl)))
def impl_ActivityIndex (x : (D_Project × ((List UInt8) × Unit))) (c : Unit) : (Option (Int × Unit)) :=
  (Option.bind ((Option.bind (slices_IndexFunc_impl_Activity_impl_Activity (x.1.2.1, ((fun v0 => (Option.bind (impl_ActivityIndex_1 v0 (x.2.1, ())) fun v1 => (some v1.1))), ())) ()) fun v2 => (some v2.1)) : (Option Int)) fun v3 => (some (v3, ())))
def H_impl_ActivityIndex : Hd := ⟨[.st [.int .i64, .sl 75 (.st [.str, .int .i64, .sl 131 (.st [.int .i64, .sl 3 (.int .i64), .sl 3 (.int .i64)])]), .sl 69 (.st [.int .i64, .int .i64, .bool, .int .i64]), .sl 126 (.st [.sl 203 (.st [.int .i64, .int .i64]), .sl 25 (.sl 3 (.int .i64))]), .sl 3 (.int .i64)], .str], [], none, .p, .int .i64, .p, []⟩
def T_impl_ActivityIndex : FSig := ⟨H_impl_ActivityIndex.ps, H_impl_ActivityIndex.cs, H_impl_ActivityIndex.io, H_impl_ActivityIndex.im, H_impl_ActivityIndex.R, H_impl_ActivityIndex.m, impl_ActivityIndex⟩
theorem E_impl_ActivityIndex : fnOf tys [(102, T_slices_IndexFunc_impl_Activity_impl_Activity), (103, T_impl_ActivityIndex_1)] Tryz.f30 H_impl_ActivityIndex = T_impl_ActivityIndex := by kernel_rfl
theorem K_impl_ActivityIndex : SigB base_ Tryz.prog 30 T_impl_ActivityIndex := (congrArg (SigB base_ Tryz.prog 30) E_impl_ActivityIndex).mp (fnOf_ok rfl tysOk ⟨K_slices_IndexFunc_impl_Activity_impl_Activity, K_impl_ActivityIndex_1, trivial⟩ Tryz.func30 (by decide) rfl (fun _ h => by cases h) (nilEq_of (by kernel_rfl)))
def H_strings_IndexByte : Hd := ⟨[.str, .int .u8], [], none, .p, .int .i64, .p, []⟩
def strings_IndexByte : ((List UInt8) × (Int × Unit)) → Unit → Option (Int × Unit) := idxbF
def T_strings_IndexByte : FSig := ⟨H_strings_IndexByte.ps, H_strings_IndexByte.cs, H_strings_IndexByte.io, H_strings_IndexByte.im, H_strings_IndexByte.R, H_strings_IndexByte.m, strings_IndexByte⟩
theorem K_strings_IndexByte : SigB base_ Tryz.prog 129 T_strings_IndexByte := idxb_ok ⟨Tryz.f129, Tryz.func129, by decide, rfl⟩ (Any.strings_IndexByte Tryz.lays137)
def impl_SplitAny_L0 : (Int × (Int × ((List UInt8) × ((List (List UInt8)) × ((List UInt8) × (Int × Unit)))))) → Option (Out (Int × (Int × ((List UInt8) × ((List (List UInt8)) × ((List UInt8) × (Int × Unit)))))) ((Bool × (Int × (Int × ((List UInt8) × ((List (List UInt8)) × ((List UInt8) × (Int × Unit))))))) ⊕ Empty) ((List (List UInt8)) × Unit)) :=
  (fun v0 => (if (ltZ v0.1 v0.2.1) = true then (Option.bind (byteAt v0.2.2.2.2.1 v0.1) fun v1 => (Option.bind ((Option.bind (strings_IndexByte (v0.2.2.1, (v1, ())) ()) fun v2 => (some v2.1)) : (Option Int)) fun v3 => (Option.bind ((if (leZ 0 v3) = true then (Option.bind (cutI v0.2.2.2.2.1 v0.2.2.2.2.2.1 v0.1) fun v4 => (Option.bind (addI v0.2.2.2.1 (v4 :: [])) fun v5 => (some (Out.norm (v0.1, (v0.2.1, (v0.2.2.1, (v5, (v0.2.2.2.2.1, ((addZ .i64 v0.1 1), ())))))))))) else (some (Out.norm (v0.1, (v0.2.1, (v0.2.2.1, (v0.2.2.2.1, (v0.2.2.2.2.1, (v0.2.2.2.2.2.1, ()))))))))) : (Option (Out (Int × (Int × ((List UInt8) × ((List (List UInt8)) × ((List UInt8) × (Int × Unit)))))) Empty ((List (List UInt8)) × Unit)))) fun v6 => (match ((match ((match v6 with | Out.norm v15 => (Out.norm v15) | Out.exit v16 => (Out.exit v16) | Out.ret v17 => (Out.ret v17)) : (Out (Int × (Int × ((List UInt8) × ((List (List UInt8)) × ((List UInt8) × (Int × Unit)))))) Empty ((List (List UInt8)) × Unit))) with | Out.norm v12 => (Out.norm v12) | Out.exit v13 => (Out.exit v13) | Out.ret v14 => (Out.ret v14)) : (Out (Int × (Int × ((List UInt8) × ((List (List UInt8)) × ((List UInt8) × (Int × Unit)))))) Empty ((List (List UInt8)) × Unit))) with | Out.norm v7 => (some (Out.norm ((addZ .i64 v7.1 1), (v7.2.1, (v7.2.2.1, (v7.2.2.2.1, (v7.2.2.2.2.1, (v7.2.2.2.2.2.1, ())))))))) | Out.exit v8 => (match ((Empty.elim v8) : ((Int × (Int × ((List UInt8) × ((List (List UInt8)) × ((List UInt8) × (Int × Unit)))))) ⊕ Empty)) with | Sum.inl v9 => (some (Out.norm ((addZ .i64 v9.1 1), (v9.2.1, (v9.2.2.1, (v9.2.2.2.1, (v9.2.2.2.2.1, (v9.2.2.2.2.2.1, ())))))))) | Sum.inr v10 => (some (Out.exit (Sum.inr (Empty.elim v10))))) | Out.ret v11 => (some (Out.ret v11)))))) else (some (Out.exit (Sum.inl ((ltZ v0.1 v0.2.1), (v0.1, (v0.2.1, (v0.2.2.1, (v0.2.2.2.1, (v0.2.2.2.2.1, (v0.2.2.2.2.2.1, ()))))))))))))
def impl_SplitAny (x : ((List UInt8) × ((List UInt8) × Unit))) (c : Unit) : (Option ((List (List UInt8)) × Unit)) :=
  (Option.bind (loopN (A := (Int × (Int × ((List UInt8) × ((List (List UInt8)) × ((List UInt8) × (Int × Unit))))))) big impl_SplitAny_L0 (0, ((lenI x.1), (x.2.1, ([], (x.1, (0, ()))))))) fun v18 => (match v18 with | Out.norm v19 => none | Out.exit v20 => (match ((match v20 with | Sum.inl v25 => (Sum.inl (v25.2.2.2.2.1, (v25.2.2.2.2.2.1, (v25.2.2.2.2.2.2.1, ())))) | Sum.inr v26 => (Empty.elim v26)) : (((List (List UInt8)) × ((List UInt8) × (Int × Unit))) ⊕ Empty)) with | Sum.inl v21 => (Option.bind (cutI v21.2.1 v21.2.2.1 (lenI v21.2.1)) fun v22 => (Option.bind (addI v21.1 (v22 :: [])) fun v23 => (some (v23, ())))) | Sum.inr v24 => none) | Out.ret v27 => (some v27)))
def H_impl_SplitAny : Hd := ⟨[.str, .str], [], none, .p, .sl 9 (.str), (Ty.all (.sl 9 (.str))), []⟩
def T_impl_SplitAny : FSig := ⟨H_impl_SplitAny.ps, H_impl_SplitAny.cs, H_impl_SplitAny.io, H_impl_SplitAny.im, H_impl_SplitAny.R, H_impl_SplitAny.m, impl_SplitAny⟩
theorem E_impl_SplitAny : fnOf tys [(129, T_strings_IndexByte)] Tryz.f58 H_impl_SplitAny = T_impl_SplitAny := by kernel_rfl
theorem K_impl_SplitAny : SigB base_ Tryz.prog 58 T_impl_SplitAny := (congrArg (SigB base_ Tryz.prog 58) E_impl_SplitAny).mp (fnOf_ok rfl tysOk ⟨K_strings_IndexByte, trivial⟩ Tryz.func58 (by decide) rfl (fun _ h => by cases h) (nilEq_of (by kernel_rfl)))
def impl_within (x : (Int × D_Step)) (c : Unit) : (Option (Bool × Unit)) :=
  (Option.bind ((if (leZ x.2.1 x.1) = true then (some ((leZ x.1 x.2.2.1), ())) else (some (false, ()))) : (Option (Bool × Unit))) fun v0 => (some (v0.1, ())))
def H_impl_within : Hd := ⟨[.int .i64, .int .i64, .int .i64], [], none, .p, .bool, .p, []⟩
def T_impl_within : FSig := ⟨H_impl_within.ps, H_impl_within.cs, H_impl_within.io, H_impl_within.im, H_impl_within.R, H_impl_within.m, impl_within⟩
theorem E_impl_within : fnOf tys [] Tryz.f90 H_impl_within = T_impl_within := by kernel_rfl
theorem K_impl_within : SigB base_ Tryz.prog 90 T_impl_within := (congrArg (SigB base_ Tryz.prog 90) E_impl_within).mp (fnOf_ok rfl tysOk trivial Tryz.func90 (by decide) rfl (fun _ h => by cases h) (nilEq_of (by kernel_rfl)))
def H_strconv_Itoa : Hd := ⟨[.int .i64], [], none, .p, .str, .p, []⟩
def strconv_Itoa : (Int × Unit) → Unit → Option (List UInt8 × Unit) := itoaF
def T_strconv_Itoa : FSig := ⟨H_strconv_Itoa.ps, H_strconv_Itoa.cs, H_strconv_Itoa.io, H_strconv_Itoa.im, H_strconv_Itoa.R, H_strconv_Itoa.m, strconv_Itoa⟩
theorem K_strconv_Itoa : SigB base_ Tryz.prog 143 T_strconv_Itoa := itoa_ok ⟨Tryz.f143, Tryz.func143, by decide, rfl⟩ base_tab (fun n h0 h1 w h => Any.strconv_Itoa Tryz.laysM171 n h0 h1 w (tab_cast h (by kernel_rfl)))
def impl_FormatInt (x : (Int × Unit)) (c : Unit) : (Option ((List UInt8) × Unit)) :=
  (Option.bind ((Option.bind (impl_within (x.1, ((-100000), (100000, ()))) ()) fun v0 => (some v0.1)) : (Option Bool)) fun v1 => (if (notB v1) = true then (some ([], ())) else (Option.bind ((Option.bind (strconv_Itoa (x.1, ()) ()) fun v2 => (some v2.1)) : (Option (List UInt8))) fun v3 => (some (v3, ())))))
def H_impl_FormatInt : Hd := ⟨[.int .i64], [], none, .p, .str, .p, []⟩
def T_impl_FormatInt : FSig := ⟨H_impl_FormatInt.ps, H_impl_FormatInt.cs, H_impl_FormatInt.io, H_impl_FormatInt.im, H_impl_FormatInt.R, H_impl_FormatInt.m, impl_FormatInt⟩
theorem E_impl_FormatInt : fnOf tys [(90, T_impl_within), (143, T_strconv_Itoa)] Tryz.f70 H_impl_FormatInt = T_impl_FormatInt := by kernel_rfl
theorem K_impl_FormatInt : SigB base_ Tryz.prog 70 T_impl_FormatInt := (congrArg (SigB base_ Tryz.prog 70) E_impl_FormatInt).mp (fnOf_ok rfl tysOk ⟨K_impl_within, K_strconv_Itoa, trivial⟩ Tryz.func70 (by decide) rfl (fun _ h => by cases h) (nilEq_of (by kernel_rfl)))
def H_impl_ParseInt : Hd := ⟨[.str], [], none, .p, .tup [.int .i64, .bool], .p, []⟩
def impl_ParseInt : ((List UInt8) × Unit) → Unit → Option ((Int × (Bool × Unit)) × Unit) := parseF
def T_impl_ParseInt : FSig := ⟨H_impl_ParseInt.ps, H_impl_ParseInt.cs, H_impl_ParseInt.io, H_impl_ParseInt.im, H_impl_ParseInt.R, H_impl_ParseInt.m, impl_ParseInt⟩
theorem K_impl_ParseInt : SigB base_ Tryz.prog 59 T_impl_ParseInt := parse_ok ⟨Tryz.f59, Tryz.func59, by decide, rfl⟩ (fun s w P hb hl => Tryz.parseInt_any s w (tab_cast (base_tab w P hb) (by kernel_rfl)) (base_syn w P hb) (base_rng w P hb) hl)
def H_strings_Join : Hd := ⟨[.sl 9 (.str), .str], [], none, .p, .str, .p, []⟩
def strings_Join : ((List (List UInt8)) × ((List UInt8) × Unit)) → Unit → Option (List UInt8 × Unit) := joinF 9
def T_strings_Join : FSig := ⟨H_strings_Join.ps, H_strings_Join.cs, H_strings_Join.io, H_strings_Join.im, H_strings_Join.R, H_strings_Join.m, strings_Join⟩
theorem K_strings_Join : SigB base_ Tryz.prog 76 T_strings_Join := join_ok ⟨Tryz.f76, Tryz.func76, by decide, rfl⟩ (Any.strings_Join_none Tryz.lays156 Tryz.Builder_Extra_156) (Any.strings_Join Tryz.lays156 Tryz.Builder_Extra_156)
def impl_isAmount (x : (Int × Unit)) (c : Unit) : (Option (Bool × Unit)) :=
  (Option.bind ((Option.bind (impl_within (x.1, (0, (20, ()))) ()) fun v0 => (some v0.1)) : (Option Bool)) fun v1 => (some (v1, ())))
def H_impl_isAmount : Hd := ⟨[.int .i64], [], none, .p, .bool, .p, []⟩
def T_impl_isAmount : FSig := ⟨H_impl_isAmount.ps, H_impl_isAmount.cs, H_impl_isAmount.io, H_impl_isAmount.im, H_impl_isAmount.R, H_impl_isAmount.m, impl_isAmount⟩
theorem E_impl_isAmount : fnOf tys [(90, T_impl_within)] Tryz.f200 H_impl_isAmount = T_impl_isAmount := by kernel_rfl
theorem K_impl_isAmount : SigB base_ Tryz.prog 200 T_impl_isAmount := (congrArg (SigB base_ Tryz.prog 200) E_impl_isAmount).mp (fnOf_ok rfl tysOk ⟨K_impl_within, trivial⟩ Tryz.func200 (by decide) rfl (fun _ h => by cases h) (nilEq_of (by kernel_rfl)))
def impl_areAmounts_L0 : (Int × (Int × ((List Int) × ((List Int) × (Int × Unit))))) → Option (Out (Int × (Int × ((List Int) × ((List Int) × (Int × Unit))))) ((Bool × (Int × (Int × ((List Int) × ((List Int) × (Int × Unit)))))) ⊕ Empty) (Bool × Unit)) :=
  (fun v0 => (if (ltZ v0.1 v0.2.1) = true then (Option.bind (getI v0.2.2.1 v0.1) fun v1 => (Option.bind ((Option.bind (impl_isAmount (v1, ()) ()) fun v2 => (some v2.1)) : (Option Bool)) fun v3 => (if (notB v3) = true then (some (Out.ret (false, ()))) else (some (Out.norm ((addZ .i64 v0.1 1), (v0.2.1, (v0.2.2.1, (v0.2.2.2.1, (v0.2.2.2.2.1, ())))))))))) else (some (Out.exit (Sum.inl ((ltZ v0.1 v0.2.1), (v0.1, (v0.2.1, (v0.2.2.1, (v0.2.2.2.1, (v0.2.2.2.2.1, ())))))))))))
def impl_areAmounts (x : ((List Int) × (Int × Unit))) (c : Unit) : (Option (Bool × Unit)) :=
  (Option.bind (loopN (A := (Int × (Int × ((List Int) × ((List Int) × (Int × Unit)))))) big impl_areAmounts_L0 (0, ((lenI x.1), (x.1, (x.1, (x.2.1, ())))))) fun v4 => (match v4 with | Out.norm v5 => none | Out.exit v6 => (match ((match v6 with | Sum.inl v9 => (Sum.inl (v9.2.2.2.2.1, (v9.2.2.2.2.2.1, ()))) | Sum.inr v10 => (Empty.elim v10)) : (((List Int) × (Int × Unit)) ⊕ Empty)) with | Sum.inl v7 => (some ((eqZ (lenI v7.1) v7.2.1), ())) | Sum.inr v8 => none) | Out.ret v11 => (some v11)))
def H_impl_areAmounts : Hd := ⟨[.sl 3 (.int .i64), .int .i64], [], none, .p, .bool, .p, []⟩
def T_impl_areAmounts : FSig := ⟨H_impl_areAmounts.ps, H_impl_areAmounts.cs, H_impl_areAmounts.io, H_impl_areAmounts.im, H_impl_areAmounts.R, H_impl_areAmounts.m, impl_areAmounts⟩
theorem E_impl_areAmounts : fnOf tys [(200, T_impl_isAmount)] Tryz.f204 H_impl_areAmounts = T_impl_areAmounts := by kernel_rfl
theorem K_impl_areAmounts : SigB base_ Tryz.prog 204 T_impl_areAmounts := (congrArg (SigB base_ Tryz.prog 204) E_impl_areAmounts).mp (fnOf_ok rfl tysOk ⟨K_impl_isAmount, trivial⟩ Tryz.func204 (by decide) rfl (fun _ h => by cases h) (nilEq_of (by kernel_rfl)))
def impl_ModeOk (x : (D_Mode × D_Step)) (c : Unit) : (Option (Bool × Unit)) :=
  (Option.bind ((Option.bind (impl_within (x.1.1, (1, (12, ()))) ()) fun v0 => (some v0.1)) : (Option Bool)) fun v1 => (Option.bind ((if v1 = true then (Option.bind ((Option.bind (impl_areAmounts (x.1.2.1, (x.2.1, ())) ()) fun v2 => (some v2.1)) : (Option Bool)) fun v3 => (Option.bind ((if v3 = true then (Option.bind ((Option.bind (impl_areAmounts (x.1.2.2.1, (x.2.2.1, ())) ()) fun v4 => (some v4.1)) : (Option Bool)) fun v5 => (some (v5, ()))) else (some (false, ()))) : (Option (Bool × Unit))) fun v6 => (some (v6.1, ())))) else (some (false, ()))) : (Option (Bool × Unit))) fun v7 => (some (v7.1, ()))))
def H_impl_ModeOk : Hd := ⟨[.st [.int .i64, .sl 3 (.int .i64), .sl 3 (.int .i64)], .int .i64, .int .i64], [], none, .p, .bool, .p, []⟩
def T_impl_ModeOk : FSig := ⟨H_impl_ModeOk.ps, H_impl_ModeOk.cs, H_impl_ModeOk.io, H_impl_ModeOk.im, H_impl_ModeOk.R, H_impl_ModeOk.m, impl_ModeOk⟩
theorem E_impl_ModeOk : fnOf tys [(90, T_impl_within), (204, T_impl_areAmounts)] Tryz.f158 H_impl_ModeOk = T_impl_ModeOk := by kernel_rfl
theorem K_impl_ModeOk : SigB base_ Tryz.prog 158 T_impl_ModeOk := (congrArg (SigB base_ Tryz.prog 158) E_impl_ModeOk).mp (fnOf_ok rfl tysOk ⟨K_impl_within, K_impl_areAmounts, trivial⟩ Tryz.func158 (by decide) rfl (fun _ h => by cases h) (nilEq_of (by kernel_rfl)))
def impl_IsName_L0 : (Int × (Int × ((List UInt8) × Unit))) → Option (Out (Int × (Int × ((List UInt8) × Unit))) ((Bool × (Int × (Int × ((List UInt8) × Unit)))) ⊕ Empty) (Bool × Unit)) :=
  (fun v0 => (if (ltZ v0.1 v0.2.1) = true then (Option.bind (byteAt v0.2.2.1 v0.1) fun v1 => (Option.bind ((if (leZ 97 v1) = true then (Option.bind (byteAt v0.2.2.1 v0.1) fun v2 => (some ((leZ v2 122), (v0.1, (v0.1, (v0.2.1, (v0.2.2.1, ()))))))) else (some (false, (v0.1, (v0.1, (v0.2.1, (v0.2.2.1, ()))))))) : (Option (Bool × (Int × (Int × (Int × ((List UInt8) × Unit))))))) fun v3 => (Option.bind ((if (notB v3.1) = true then (Option.bind ((if (eqZ v3.2.1 0) = true then (some (true, (v3.2.2.1, (v3.2.2.2.1, (v3.2.2.2.2.1, ()))))) else (Option.bind (byteAt v3.2.2.2.2.1 v3.2.1) fun v4 => (Option.bind ((if (ltZ v4 48) = true then (some (true, (v3.2.2.1, (v3.2.2.2.1, (v3.2.2.2.2.1, ()))))) else (Option.bind (byteAt v3.2.2.2.2.1 v3.2.1) fun v5 => (some ((ltZ 57 v5), (v3.2.2.1, (v3.2.2.2.1, (v3.2.2.2.2.1, ()))))))) : (Option (Bool × (Int × (Int × ((List UInt8) × Unit)))))) fun v6 => (some (v6.1, (v6.2.1, (v6.2.2.1, (v6.2.2.2.1, ())))))))) : (Option (Bool × (Int × (Int × ((List UInt8) × Unit)))))) fun v7 => (some (v7.1, (v7.2.1, (v7.2.2.1, (v7.2.2.2.1, ())))))) else (some (false, (v3.2.2.1, (v3.2.2.2.1, (v3.2.2.2.2.1, ())))))) : (Option (Bool × (Int × (Int × ((List UInt8) × Unit)))))) fun v8 => (if v8.1 = true then (some (Out.ret (false, ()))) else (some (Out.norm ((addZ .i64 v8.2.1 1), (v8.2.2.1, (v8.2.2.2.1, ()))))))))) else (some (Out.exit (Sum.inl ((ltZ v0.1 v0.2.1), (v0.1, (v0.2.1, (v0.2.2.1, ())))))))))
def impl_IsName (x : ((List UInt8) × Unit)) (c : Unit) : (Option (Bool × Unit)) :=
  (Option.bind (loopN (A := (Int × (Int × ((List UInt8) × Unit)))) big impl_IsName_L0 (0, ((lenI x.1), (x.1, ())))) fun v9 => (match v9 with | Out.norm v10 => none | Out.exit v11 => (match ((match v11 with | Sum.inl v16 => (Sum.inl (v16.2.2.2.1, ())) | Sum.inr v17 => (Empty.elim v17)) : (((List UInt8) × Unit) ⊕ Empty)) with | Sum.inl v12 => (Option.bind ((Option.bind (impl_within ((lenI v12.1), (1, (8, ()))) ()) fun v13 => (some v13.1)) : (Option Bool)) fun v14 => (some (v14, ()))) | Sum.inr v15 => none) | Out.ret v18 => (some v18)))
def H_impl_IsName : Hd := ⟨[.str], [], none, .p, .bool, .p, []⟩
def T_impl_IsName : FSig := ⟨H_impl_IsName.ps, H_impl_IsName.cs, H_impl_IsName.io, H_impl_IsName.im, H_impl_IsName.R, H_impl_IsName.m, impl_IsName⟩
theorem E_impl_IsName : fnOf tys [(90, T_impl_within)] Tryz.f159 H_impl_IsName = T_impl_IsName := by kernel_rfl
theorem K_impl_IsName : SigB base_ Tryz.prog 159 T_impl_IsName := (congrArg (SigB base_ Tryz.prog 159) E_impl_IsName).mp (fnOf_ok rfl tysOk ⟨K_impl_within, trivial⟩ Tryz.func159 (by decide) rfl (fun _ h => by cases h) (nilEq_of (by kernel_rfl)))
def impl_ActivityOk_L0 : (Int × (Int × ((List D_Mode) × (Int × (Int × (D_Activity × Unit)))))) → Option (Out (Int × (Int × ((List D_Mode) × (Int × (Int × (D_Activity × Unit)))))) ((Bool × (Int × (Int × ((List D_Mode) × (Int × (Int × (D_Activity × Unit))))))) ⊕ Empty) (Bool × Unit)) :=
  (fun v0 => (if (ltZ v0.1 v0.2.1) = true then (Option.bind (getI v0.2.2.1 v0.1) fun v1 => (Option.bind ((Option.bind (impl_ModeOk (v1, (v0.2.2.2.1, (v0.2.2.2.2.1, ()))) ()) fun v2 => (some v2.1)) : (Option Bool)) fun v3 => (if (notB v3) = true then (some (Out.ret (false, ()))) else (some (Out.norm ((addZ .i64 v0.1 1), (v0.2.1, (v0.2.2.1, (v0.2.2.2.1, (v0.2.2.2.2.1, (v0.2.2.2.2.2.1, ()))))))))))) else (some (Out.exit (Sum.inl ((ltZ v0.1 v0.2.1), (v0.1, (v0.2.1, (v0.2.2.1, (v0.2.2.2.1, (v0.2.2.2.2.1, (v0.2.2.2.2.2.1, ()))))))))))))
def impl_ActivityOk (x : (D_Activity × D_Step)) (c : Unit) : (Option (Bool × Unit)) :=
  (Option.bind (loopN (A := (Int × (Int × ((List D_Mode) × (Int × (Int × (D_Activity × Unit))))))) big impl_ActivityOk_L0 (0, ((lenI x.1.2.2.1), (x.1.2.2.1, (x.2.1, (x.2.2.1, (x.1, ()))))))) fun v4 => (match v4 with | Out.norm v5 => none | Out.exit v6 => (match ((match v6 with | Sum.inl v17 => (Sum.inl (v17.2.2.2.2.2.2.1, ())) | Sum.inr v18 => (Empty.elim v18)) : ((D_Activity × Unit) ⊕ Empty)) with | Sum.inl v7 => (Option.bind ((Option.bind (impl_IsName (v7.1.1, ()) ()) fun v8 => (some v8.1)) : (Option Bool)) fun v9 => (Option.bind ((if v9 = true then (Option.bind ((Option.bind (impl_within (v7.1.2.1, (0, (3, ()))) ()) fun v10 => (some v10.1)) : (Option Bool)) fun v11 => (Option.bind ((if v11 = true then (Option.bind ((Option.bind (impl_within ((lenI v7.1.2.2.1), (1, (3, ()))) ()) fun v12 => (some v12.1)) : (Option Bool)) fun v13 => (some (v13, ()))) else (some (false, ()))) : (Option (Bool × Unit))) fun v14 => (some (v14.1, ())))) else (some (false, ()))) : (Option (Bool × Unit))) fun v15 => (some (v15.1, ())))) | Sum.inr v16 => none) | Out.ret v19 => (some v19)))
def H_impl_ActivityOk : Hd := ⟨[.st [.str, .int .i64, .sl 131 (.st [.int .i64, .sl 3 (.int .i64), .sl 3 (.int .i64)])], .int .i64, .int .i64], [], none, .p, .bool, .p, []⟩
def T_impl_ActivityOk : FSig := ⟨H_impl_ActivityOk.ps, H_impl_ActivityOk.cs, H_impl_ActivityOk.io, H_impl_ActivityOk.im, H_impl_ActivityOk.R, H_impl_ActivityOk.m, impl_ActivityOk⟩
theorem E_impl_ActivityOk : fnOf tys [(90, T_impl_within), (158, T_impl_ModeOk), (159, T_impl_IsName)] Tryz.f97 H_impl_ActivityOk = T_impl_ActivityOk := by kernel_rfl
theorem K_impl_ActivityOk : SigB base_ Tryz.prog 97 T_impl_ActivityOk := (congrArg (SigB base_ Tryz.prog 97) E_impl_ActivityOk).mp (fnOf_ok rfl tysOk ⟨K_impl_within, K_impl_ModeOk, K_impl_IsName, trivial⟩ Tryz.func97 (by decide) rfl (fun _ h => by cases h) (nilEq_of (by kernel_rfl)))
def impl_isTime (x : (Int × Unit)) (c : Unit) : (Option (Bool × Unit)) :=
  (Option.bind ((Option.bind (impl_within (x.1, (0, (60, ()))) ()) fun v0 => (some v0.1)) : (Option Bool)) fun v1 => (some (v1, ())))
def H_impl_isTime : Hd := ⟨[.int .i64], [], none, .p, .bool, .p, []⟩
def T_impl_isTime : FSig := ⟨H_impl_isTime.ps, H_impl_isTime.cs, H_impl_isTime.io, H_impl_isTime.im, H_impl_isTime.R, H_impl_isTime.m, impl_isTime⟩
theorem E_impl_isTime : fnOf tys [(90, T_impl_within)] Tryz.f93 H_impl_isTime = T_impl_isTime := by kernel_rfl
theorem K_impl_isTime : SigB base_ Tryz.prog 93 T_impl_isTime := (congrArg (SigB base_ Tryz.prog 93) E_impl_isTime).mp (fnOf_ok rfl tysOk ⟨K_impl_within, trivial⟩ Tryz.func93 (by decide) rfl (fun _ h => by cases h) (nilEq_of (by kernel_rfl)))
def impl_StepsOk_L0 : (Int × (Int × ((List D_Step) × ((List D_Step) × Unit)))) → Option (Out (Int × (Int × ((List D_Step) × ((List D_Step) × Unit)))) ((Bool × (Int × (Int × ((List D_Step) × ((List D_Step) × Unit))))) ⊕ Empty) (Bool × Unit)) :=
  (fun v0 => (if (ltZ v0.1 v0.2.1) = true then (Option.bind (getI v0.2.2.1 v0.1) fun v1 => (Option.bind ((Option.bind (impl_isTime (v1.1, ()) ()) fun v2 => (some v2.1)) : (Option Bool)) fun v3 => (Option.bind ((if (notB v3) = true then (some (true, (v0.1, (v0.2.1, (v0.2.2.1, (v0.2.2.2.1, ())))))) else (Option.bind ((Option.bind (impl_isAmount (v1.2.1, ()) ()) fun v4 => (some v4.1)) : (Option Bool)) fun v5 => (Option.bind ((if (notB v5) = true then (some (true, (v0.1, (v0.2.1, (v0.2.2.1, (v0.2.2.2.1, ())))))) else (Option.bind ((if (eqZ v0.1 0) = true then (Option.bind ((if (notB (eqZ v1.1 0)) = true then (some (true, (v0.1, (v0.2.1, (v0.2.2.1, (v0.2.2.2.1, ())))))) else (Option.bind ((if (ltZ 0 v0.1) = true then (Option.bind (getI v0.2.2.2.1 (subZ .i64 v0.1 1)) fun v6 => (some ((leZ v1.1 v6.1), (v0.1, (v0.2.1, (v0.2.2.1, (v0.2.2.2.1, ()))))))) else (some (false, (v0.1, (v0.2.1, (v0.2.2.1, (v0.2.2.2.1, ()))))))) : (Option (Bool × (Int × (Int × ((List D_Step) × ((List D_Step) × Unit))))))) fun v7 => (some (v7.1, (v7.2.1, (v7.2.2.1, (v7.2.2.2.1, (v7.2.2.2.2.1, ())))))))) : (Option (Bool × (Int × (Int × ((List D_Step) × ((List D_Step) × Unit))))))) fun v8 => (some (v8.1, (v8.2.1, (v8.2.2.1, (v8.2.2.2.1, (v8.2.2.2.2.1, ()))))))) else (Option.bind ((if (ltZ 0 v0.1) = true then (Option.bind (getI v0.2.2.2.1 (subZ .i64 v0.1 1)) fun v9 => (some ((leZ v1.1 v9.1), (v0.1, (v0.2.1, (v0.2.2.1, (v0.2.2.2.1, ()))))))) else (some (false, (v0.1, (v0.2.1, (v0.2.2.1, (v0.2.2.2.1, ()))))))) : (Option (Bool × (Int × (Int × ((List D_Step) × ((List D_Step) × Unit))))))) fun v10 => (some (v10.1, (v10.2.1, (v10.2.2.1, (v10.2.2.2.1, (v10.2.2.2.2.1, ())))))))) : (Option (Bool × (Int × (Int × ((List D_Step) × ((List D_Step) × Unit))))))) fun v11 => (some (v11.1, (v11.2.1, (v11.2.2.1, (v11.2.2.2.1, (v11.2.2.2.2.1, ())))))))) : (Option (Bool × (Int × (Int × ((List D_Step) × ((List D_Step) × Unit))))))) fun v12 => (some (v12.1, (v12.2.1, (v12.2.2.1, (v12.2.2.2.1, (v12.2.2.2.2.1, ()))))))))) : (Option (Bool × (Int × (Int × ((List D_Step) × ((List D_Step) × Unit))))))) fun v13 => (if v13.1 = true then (some (Out.ret (false, ()))) else (some (Out.norm ((addZ .i64 v13.2.1 1), (v13.2.2.1, (v13.2.2.2.1, (v13.2.2.2.2.1, ())))))))))) else (some (Out.exit (Sum.inl ((ltZ v0.1 v0.2.1), (v0.1, (v0.2.1, (v0.2.2.1, (v0.2.2.2.1, ()))))))))))
def impl_StepsOk (x : ((List D_Step) × Unit)) (c : Unit) : (Option (Bool × Unit)) :=
  (Option.bind (loopN (A := (Int × (Int × ((List D_Step) × ((List D_Step) × Unit))))) big impl_StepsOk_L0 (0, ((lenI x.1), (x.1, (x.1, ()))))) fun v14 => (match v14 with | Out.norm v15 => none | Out.exit v16 => (match ((match v16 with | Sum.inl v21 => (Sum.inl (v21.2.2.2.2.1, ())) | Sum.inr v22 => (Empty.elim v22)) : (((List D_Step) × Unit) ⊕ Empty)) with | Sum.inl v17 => (Option.bind ((Option.bind (impl_within ((lenI v17.1), (1, (8, ()))) ()) fun v18 => (some v18.1)) : (Option Bool)) fun v19 => (some (v19, ()))) | Sum.inr v20 => none) | Out.ret v23 => (some v23)))
def H_impl_StepsOk : Hd := ⟨[.sl 203 (.st [.int .i64, .int .i64])], [], none, .p, .bool, .p, []⟩
def T_impl_StepsOk : FSig := ⟨H_impl_StepsOk.ps, H_impl_StepsOk.cs, H_impl_StepsOk.io, H_impl_StepsOk.im, H_impl_StepsOk.R, H_impl_StepsOk.m, impl_StepsOk⟩
theorem E_impl_StepsOk : fnOf tys [(90, T_impl_within), (93, T_impl_isTime), (200, T_impl_isAmount)] Tryz.f144 H_impl_StepsOk = T_impl_StepsOk := by kernel_rfl
theorem K_impl_StepsOk : SigB base_ Tryz.prog 144 T_impl_StepsOk := (congrArg (SigB base_ Tryz.prog 144) E_impl_StepsOk).mp (fnOf_ok rfl tysOk ⟨K_impl_within, K_impl_isTime, K_impl_isAmount, trivial⟩ Tryz.func144 (by decide) rfl (fun _ h => by cases h) (nilEq_of (by kernel_rfl)))
def impl_ResourceOk_L0 : (Int × (Int × ((List Int) × (Int × (Int × ((List (List Int)) × (D_Resource × Unit))))))) → Option (Out (Int × (Int × ((List Int) × (Int × (Int × ((List (List Int)) × (D_Resource × Unit))))))) ((Bool × (Int × (Int × ((List Int) × (Int × (Int × ((List (List Int)) × (D_Resource × Unit)))))))) ⊕ Empty) (Bool × Unit)) :=
  (fun v2 => (if (ltZ v2.1 v2.2.1) = true then (Option.bind (getI v2.2.2.1 v2.1) fun v3 => (Option.bind ((Option.bind (impl_within (v3, (0, (12, ()))) ()) fun v4 => (some v4.1)) : (Option Bool)) fun v5 => (if (notB v5) = true then (some (Out.ret (false, ()))) else (some (Out.norm ((addZ .i64 v2.1 1), (v2.2.1, (v2.2.2.1, (v2.2.2.2.1, (v2.2.2.2.2.1, (v2.2.2.2.2.2.1, (v2.2.2.2.2.2.2.1, ())))))))))))) else (some (Out.exit (Sum.inl ((ltZ v2.1 v2.2.1), (v2.1, (v2.2.1, (v2.2.2.1, (v2.2.2.2.1, (v2.2.2.2.2.1, (v2.2.2.2.2.2.1, (v2.2.2.2.2.2.2.1, ())))))))))))))
def impl_ResourceOk_L1 : (Int × (Int × ((List (List Int)) × (D_Resource × Unit)))) → Option (Out (Int × (Int × ((List (List Int)) × (D_Resource × Unit)))) ((Bool × (Int × (Int × ((List (List Int)) × (D_Resource × Unit))))) ⊕ Empty) (Bool × Unit)) :=
  (fun v0 => (if (ltZ v0.1 v0.2.1) = true then (Option.bind (getI v0.2.2.1 v0.1) fun v1 => (if (notB (eqZ (lenI v1) 4)) = true then (some (Out.ret (false, ()))) else (Option.bind (loopN (A := (Int × (Int × ((List Int) × (Int × (Int × ((List (List Int)) × (D_Resource × Unit)))))))) big impl_ResourceOk_L0 (0, ((lenI v1), (v1, (v0.1, (v0.2.1, (v0.2.2.1, (v0.2.2.2.1, ())))))))) fun v6 => (match v6 with | Out.norm v7 => none | Out.exit v8 => (match ((match v8 with | Sum.inl v13 => (Sum.inl (v13.2.2.2.2.1, (v13.2.2.2.2.2.1, (v13.2.2.2.2.2.2.1, (v13.2.2.2.2.2.2.2.1, ()))))) | Sum.inr v14 => (Empty.elim v14)) : ((Int × (Int × ((List (List Int)) × (D_Resource × Unit)))) ⊕ Empty)) with | Sum.inl v9 => (some (Out.norm ((addZ .i64 v9.1 1), (v9.2.1, (v9.2.2.1, (v9.2.2.2.1, ())))))) | Sum.inr v10 => (match ((Empty.elim v10) : ((Int × (Int × ((List (List Int)) × (D_Resource × Unit)))) ⊕ Empty)) with | Sum.inl v11 => (some (Out.norm ((addZ .i64 v11.1 1), (v11.2.1, (v11.2.2.1, (v11.2.2.2.1, ())))))) | Sum.inr v12 => (some (Out.exit (Sum.inr (Empty.elim v12)))))) | Out.ret v15 => (some (Out.ret v15)))))) else (some (Out.exit (Sum.inl ((ltZ v0.1 v0.2.1), (v0.1, (v0.2.1, (v0.2.2.1, (v0.2.2.2.1, ()))))))))))
def impl_ResourceOk (x : (D_Resource × Unit)) (c : Unit) : (Option (Bool × Unit)) :=
  (Option.bind (loopN (A := (Int × (Int × ((List (List Int)) × (D_Resource × Unit))))) big impl_ResourceOk_L1 (0, ((lenI x.1.2.1), (x.1.2.1, (x.1, ()))))) fun v16 => (match v16 with | Out.norm v17 => none | Out.exit v18 => (match ((match v18 with | Sum.inl v25 => (Sum.inl (v25.2.2.2.2.1, ())) | Sum.inr v26 => (Empty.elim v26)) : ((D_Resource × Unit) ⊕ Empty)) with | Sum.inl v19 => (Option.bind ((Option.bind (impl_StepsOk (v19.1.1, ()) ()) fun v20 => (some v20.1)) : (Option Bool)) fun v21 => (Option.bind ((if v21 = true then (Option.bind ((if (eqZ (lenI v19.1.2.1) 0) = true then (some (true, ())) else (some ((eqZ (lenI v19.1.2.1) 4), ()))) : (Option (Bool × Unit))) fun v22 => (some (v22.1, ()))) else (some (false, ()))) : (Option (Bool × Unit))) fun v23 => (some (v23.1, ())))) | Sum.inr v24 => none) | Out.ret v27 => (some v27)))
def H_impl_ResourceOk : Hd := ⟨[.st [.sl 203 (.st [.int .i64, .int .i64]), .sl 25 (.sl 3 (.int .i64))]], [], none, .p, .bool, .p, []⟩
def T_impl_ResourceOk : FSig := ⟨H_impl_ResourceOk.ps, H_impl_ResourceOk.cs, H_impl_ResourceOk.io, H_impl_ResourceOk.im, H_impl_ResourceOk.R, H_impl_ResourceOk.m, impl_ResourceOk⟩
theorem E_impl_ResourceOk : fnOf tys [(90, T_impl_within), (144, T_impl_StepsOk)] Tryz.f98 H_impl_ResourceOk = T_impl_ResourceOk := by kernel_rfl
theorem K_impl_ResourceOk : SigB base_ Tryz.prog 98 T_impl_ResourceOk := (congrArg (SigB base_ Tryz.prog 98) E_impl_ResourceOk).mp (fnOf_ok rfl tysOk ⟨K_impl_within, K_impl_StepsOk, trivial⟩ Tryz.func98 (by decide) rfl (fun _ h => by cases h) (nilEq_of (by kernel_rfl)))
def slices_IndexFunc_impl_Link_impl_Link_L0 : (Int × (Int × (((D_Link × Unit) → (Option Bool)) × ((List D_Link) × Unit)))) → Option (Out (Int × (Int × (((D_Link × Unit) → (Option Bool)) × ((List D_Link) × Unit)))) ((Bool × (Int × (Int × (((D_Link × Unit) → (Option Bool)) × ((List D_Link) × Unit))))) ⊕ Empty) (Int × Unit)) :=
  (fun v0 => (if (ltZ v0.1 v0.2.1) = true then (Option.bind (getI v0.2.2.2.1 v0.1) fun v1 => (Option.bind (v0.2.2.1 (v1, ())) fun v2 => (if v2 = true then (some (Out.ret (v0.1, ()))) else (some (Out.norm ((addZ .i64 v0.1 1), (v0.2.1, (v0.2.2.1, (v0.2.2.2.1, ()))))))))) else (some (Out.exit (Sum.inl ((ltZ v0.1 v0.2.1), (v0.1, (v0.2.1, (v0.2.2.1, (v0.2.2.2.1, ()))))))))))
def slices_IndexFunc_impl_Link_impl_Link (x : ((List D_Link) × (((D_Link × Unit) → (Option Bool)) × Unit))) (c : Unit) : (Option (Int × Unit)) :=
  (Option.bind (loopN (A := (Int × (Int × (((D_Link × Unit) → (Option Bool)) × ((List D_Link) × Unit))))) big slices_IndexFunc_impl_Link_impl_Link_L0 (0, ((lenI x.1), (x.2.1, (x.1, ()))))) fun v3 => (match v3 with | Out.norm v4 => none | Out.exit v5 => (match ((match v5 with | Sum.inl v8 => (Sum.inl ()) | Sum.inr v9 => (Empty.elim v9)) : (Unit ⊕ Empty)) with | Sum.inl v6 => (some ((-1), ())) | Sum.inr v7 => none) | Out.ret v10 => (some v10)))
def H_slices_IndexFunc_impl_Link_impl_Link : Hd := ⟨[.sl 69 (.st [.int .i64, .int .i64, .bool, .int .i64]), .fn [.st [.int .i64, .int .i64, .bool, .int .i64]] (.bool)], [], none, .p, .int .i64, .p, []⟩
def T_slices_IndexFunc_impl_Link_impl_Link : FSig := ⟨H_slices_IndexFunc_impl_Link_impl_Link.ps, H_slices_IndexFunc_impl_Link_impl_Link.cs, H_slices_IndexFunc_impl_Link_impl_Link.io, H_slices_IndexFunc_impl_Link_impl_Link.im, H_slices_IndexFunc_impl_Link_impl_Link.R, H_slices_IndexFunc_impl_Link_impl_Link.m, slices_IndexFunc_impl_Link_impl_Link⟩
theorem E_slices_IndexFunc_impl_Link_impl_Link : fnOf tys [] Tryz.f160 H_slices_IndexFunc_impl_Link_impl_Link = T_slices_IndexFunc_impl_Link_impl_Link := by kernel_rfl
theorem K_slices_IndexFunc_impl_Link_impl_Link : SigB base_ Tryz.prog 160 T_slices_IndexFunc_impl_Link_impl_Link := (congrArg (SigB base_ Tryz.prog 160) E_slices_IndexFunc_impl_Link_impl_Link).mp (fnOf_ok rfl tysOk trivial Tryz.func160 (by decide) rfl (fun _ h => by cases h) (nilEq_of (by kernel_rfl)))
def slices_ContainsFunc_impl_Link_impl_Link (x : ((List D_Link) × (((D_Link × Unit) → (Option Bool)) × Unit))) (c : Unit) : (Option (Bool × Unit)) :=
  (Option.bind ((Option.bind (slices_IndexFunc_impl_Link_impl_Link (x.1, (x.2.1, ())) ()) fun v0 => (some v0.1)) : (Option Int)) fun v1 => (some ((leZ 0 v1), ())))
def H_slices_ContainsFunc_impl_Link_impl_Link : Hd := ⟨[.sl 69 (.st [.int .i64, .int .i64, .bool, .int .i64]), .fn [.st [.int .i64, .int .i64, .bool, .int .i64]] (.bool)], [], none, .p, .bool, .p, []⟩
def T_slices_ContainsFunc_impl_Link_impl_Link : FSig := ⟨H_slices_ContainsFunc_impl_Link_impl_Link.ps, H_slices_ContainsFunc_impl_Link_impl_Link.cs, H_slices_ContainsFunc_impl_Link_impl_Link.io, H_slices_ContainsFunc_impl_Link_impl_Link.im, H_slices_ContainsFunc_impl_Link_impl_Link.R, H_slices_ContainsFunc_impl_Link_impl_Link.m, slices_ContainsFunc_impl_Link_impl_Link⟩
theorem E_slices_ContainsFunc_impl_Link_impl_Link : fnOf tys [(160, T_slices_IndexFunc_impl_Link_impl_Link)] Tryz.f99 H_slices_ContainsFunc_impl_Link_impl_Link = T_slices_ContainsFunc_impl_Link_impl_Link := by kernel_rfl
theorem K_slices_ContainsFunc_impl_Link_impl_Link : SigB base_ Tryz.prog 99 T_slices_ContainsFunc_impl_Link_impl_Link := (congrArg (SigB base_ Tryz.prog 99) E_slices_ContainsFunc_impl_Link_impl_Link).mp (fnOf_ok rfl tysOk ⟨K_slices_IndexFunc_impl_Link_impl_Link, trivial⟩ Tryz.func99 (by decide) rfl (fun _ h => by cases h) (nilEq_of (by kernel_rfl)))
def impl_Project_hasActivity (x : (D_Project × (Int × Unit))) (c : Unit) : (Option (Bool × Unit)) :=
  (Option.bind ((Option.bind (impl_within (x.2.1, (0, ((subZ .i64 (lenI x.1.2.1) 1), ()))) ()) fun v0 => (some v0.1)) : (Option Bool)) fun v1 => (some (v1, ())))
def H_impl_Project_hasActivity : Hd := ⟨[.st [.int .i64, .sl 75 (.st [.str, .int .i64, .sl 131 (.st [.int .i64, .sl 3 (.int .i64), .sl 3 (.int .i64)])]), .sl 69 (.st [.int .i64, .int .i64, .bool, .int .i64]), .sl 126 (.st [.sl 203 (.st [.int .i64, .int .i64]), .sl 25 (.sl 3 (.int .i64))]), .sl 3 (.int .i64)], .int .i64], [], none, .p, .bool, .p, []⟩
def T_impl_Project_hasActivity : FSig := ⟨H_impl_Project_hasActivity.ps, H_impl_Project_hasActivity.cs, H_impl_Project_hasActivity.io, H_impl_Project_hasActivity.im, H_impl_Project_hasActivity.R, H_impl_Project_hasActivity.m, impl_Project_hasActivity⟩
theorem E_impl_Project_hasActivity : fnOf tys [(90, T_impl_within)] Tryz.f91 H_impl_Project_hasActivity = T_impl_Project_hasActivity := by kernel_rfl
theorem K_impl_Project_hasActivity : SigB base_ Tryz.prog 91 T_impl_Project_hasActivity := (congrArg (SigB base_ Tryz.prog 91) E_impl_Project_hasActivity).mp (fnOf_ok rfl tysOk ⟨K_impl_within, trivial⟩ Tryz.func91 (by decide) rfl (fun _ h => by cases h) (nilEq_of (by kernel_rfl)))
def impl_Project_linkOk (x : (D_Project × (D_Link × Unit))) (c : Unit) : (Option (Bool × Unit)) :=
  (Option.bind ((Option.bind (impl_Project_hasActivity (x.1, (x.2.1.1, ())) ()) fun v0 => (some v0.1)) : (Option Bool)) fun v1 => (Option.bind ((if v1 = true then (Option.bind ((Option.bind (impl_Project_hasActivity (x.1, (x.2.1.2.1, ())) ()) fun v2 => (some v2.1)) : (Option Bool)) fun v3 => (Option.bind ((if v3 = true then (Option.bind ((if (notB (eqZ x.2.1.1 x.2.1.2.1)) = true then (Option.bind ((Option.bind (impl_within (x.2.1.2.2.2.1, ((-60), (60, ()))) ()) fun v4 => (some v4.1)) : (Option Bool)) fun v5 => (some (v5, ()))) else (some (false, ()))) : (Option (Bool × Unit))) fun v6 => (some (v6.1, ()))) else (some (false, ()))) : (Option (Bool × Unit))) fun v7 => (some (v7.1, ())))) else (some (false, ()))) : (Option (Bool × Unit))) fun v8 => (some (v8.1, ()))))
def H_impl_Project_linkOk : Hd := ⟨[.st [.int .i64, .sl 75 (.st [.str, .int .i64, .sl 131 (.st [.int .i64, .sl 3 (.int .i64), .sl 3 (.int .i64)])]), .sl 69 (.st [.int .i64, .int .i64, .bool, .int .i64]), .sl 126 (.st [.sl 203 (.st [.int .i64, .int .i64]), .sl 25 (.sl 3 (.int .i64))]), .sl 3 (.int .i64)], .st [.int .i64, .int .i64, .bool, .int .i64]], [], none, .p, .bool, .p, []⟩
def T_impl_Project_linkOk : FSig := ⟨H_impl_Project_linkOk.ps, H_impl_Project_linkOk.cs, H_impl_Project_linkOk.io, H_impl_Project_linkOk.im, H_impl_Project_linkOk.R, H_impl_Project_linkOk.m, impl_Project_linkOk⟩
theorem E_impl_Project_linkOk : fnOf tys [(90, T_impl_within), (91, T_impl_Project_hasActivity)] Tryz.f101 H_impl_Project_linkOk = T_impl_Project_linkOk := by kernel_rfl
theorem K_impl_Project_linkOk : SigB base_ Tryz.prog 101 T_impl_Project_linkOk := (congrArg (SigB base_ Tryz.prog 101) E_impl_Project_linkOk).mp (fnOf_ok rfl tysOk ⟨K_impl_within, K_impl_Project_hasActivity, trivial⟩ Tryz.func101 (by decide) rfl (fun _ h => by cases h) (nilEq_of (by kernel_rfl)))
def impl_ProjectOk_1 (x : (D_Link × Unit)) (c : (D_Project × Unit)) : (Option (Bool × Unit)) :=
  (Option.bind ((Option.bind (impl_Project_linkOk (c.1, (x.1, ())) ()) fun v0 => (some v0.1)) : (Option Bool)) fun v1 => (some ((notB v1), ())))
def H_impl_ProjectOk_1 : Hd := ⟨[.st [.int .i64, .int .i64, .bool, .int .i64]], [.st [.int .i64, .sl 75 (.st [.str, .int .i64, .sl 131 (.st [.int .i64, .sl 3 (.int .i64), .sl 3 (.int .i64)])]), .sl 69 (.st [.int .i64, .int .i64, .bool, .int .i64]), .sl 126 (.st [.sl 203 (.st [.int .i64, .int .i64]), .sl 25 (.sl 3 (.int .i64))]), .sl 3 (.int .i64)]], none, .p, .bool, .p, []⟩
def T_impl_ProjectOk_1 : FSig := ⟨H_impl_ProjectOk_1.ps, H_impl_ProjectOk_1.cs, H_impl_ProjectOk_1.io, H_impl_ProjectOk_1.im, H_impl_ProjectOk_1.R, H_impl_ProjectOk_1.m, impl_ProjectOk_1⟩
theorem E_impl_ProjectOk_1 : fnOf tys [(101, T_impl_Project_linkOk)] Tryz.f100 H_impl_ProjectOk_1 = T_impl_ProjectOk_1 := by kernel_rfl
theorem K_impl_ProjectOk_1 : SigB base_ Tryz.prog 100 T_impl_ProjectOk_1 := (congrArg (SigB base_ Tryz.prog 100) E_impl_ProjectOk_1).mp (fnOf_ok rfl tysOk ⟨K_impl_Project_linkOk, trivial⟩ Tryz.func100 (by decide) rfl (fun _ h => by cases h) (nilEq_of (by kernel_rfl)))
def impl_ProjectOk_L0 : (Int × (Int × ((List D_Activity) × (D_Project × Unit)))) → Option (Out (Int × (Int × ((List D_Activity) × (D_Project × Unit)))) ((Bool × (Int × (Int × ((List D_Activity) × (D_Project × Unit))))) ⊕ Empty) (Bool × Unit)) :=
  (fun v8 => (if (ltZ v8.1 v8.2.1) = true then (Option.bind (getI v8.2.2.1 v8.1) fun v9 => (Option.bind ((Option.bind (impl_ActivityOk (v9, ((lenI v8.2.2.2.1.2.2.2.1), ((lenI v8.2.2.2.1.2.2.2.2.1), ()))) ()) fun v10 => (some v10.1)) : (Option Bool)) fun v11 => (Option.bind ((if (notB v11) = true then (some (true, (v8.1, (v8.2.1, (v8.2.2.1, (v8.2.2.2.1, ())))))) else (Option.bind ((Option.bind (impl_ActivityIndex (v8.2.2.2.1, (v9.1, ())) ()) fun v12 => (some v12.1)) : (Option Int)) fun v13 => (some ((notB (eqZ v13 v8.1)), (v8.1, (v8.2.1, (v8.2.2.1, (v8.2.2.2.1, ())))))))) : (Option (Bool × (Int × (Int × ((List D_Activity) × (D_Project × Unit))))))) fun v14 => (if v14.1 = true then (some (Out.ret (false, ()))) else (some (Out.norm ((addZ .i64 v14.2.1 1), (v14.2.2.1, (v14.2.2.2.1, (v14.2.2.2.2.1, ())))))))))) else (some (Out.exit (Sum.inl ((ltZ v8.1 v8.2.1), (v8.1, (v8.2.1, (v8.2.2.1, (v8.2.2.2.1, ()))))))))))
def impl_ProjectOk_L1 : (Int × (Int × ((List D_Resource) × (D_Project × Unit)))) → Option (Out (Int × (Int × ((List D_Resource) × (D_Project × Unit)))) ((Bool × (Int × (Int × ((List D_Resource) × (D_Project × Unit))))) ⊕ Empty) (Bool × Unit)) :=
  (fun v19 => (if (ltZ v19.1 v19.2.1) = true then (Option.bind (getI v19.2.2.1 v19.1) fun v20 => (Option.bind ((Option.bind (impl_ResourceOk (v20, ()) ()) fun v21 => (some v21.1)) : (Option Bool)) fun v22 => (if (notB v22) = true then (some (Out.ret (false, ()))) else (some (Out.norm ((addZ .i64 v19.1 1), (v19.2.1, (v19.2.2.1, (v19.2.2.2.1, ()))))))))) else (some (Out.exit (Sum.inl ((ltZ v19.1 v19.2.1), (v19.1, (v19.2.1, (v19.2.2.1, (v19.2.2.2.1, ()))))))))))
def impl_ProjectOk_L2 : (Int × (Int × ((List Int) × (D_Project × Unit)))) → Option (Out (Int × (Int × ((List Int) × (D_Project × Unit)))) ((Bool × (Int × (Int × ((List Int) × (D_Project × Unit))))) ⊕ Empty) (Bool × Unit)) :=
  (fun v27 => (if (ltZ v27.1 v27.2.1) = true then (Option.bind (getI v27.2.2.1 v27.1) fun v28 => (Option.bind ((Option.bind (impl_within (v28, (0, (100, ()))) ()) fun v29 => (some v29.1)) : (Option Bool)) fun v30 => (if (notB v30) = true then (some (Out.ret (false, ()))) else (some (Out.norm ((addZ .i64 v27.1 1), (v27.2.1, (v27.2.2.1, (v27.2.2.2.1, ()))))))))) else (some (Out.exit (Sum.inl ((ltZ v27.1 v27.2.1), (v27.1, (v27.2.1, (v27.2.2.1, (v27.2.2.2.1, ()))))))))))
def impl_ProjectOk (x : (D_Project × Unit)) (c : Unit) : (Option (Bool × Unit)) :=
  (Option.bind ((Option.bind (impl_within (x.1.1, (1, (60, ()))) ()) fun v0 => (some v0.1)) : (Option Bool)) fun v1 => (Option.bind ((if (notB v1) = true then (some (true, (x.1, ()))) else (Option.bind ((Option.bind (impl_within ((lenI x.1.2.1), (1, (6, ()))) ()) fun v2 => (some v2.1)) : (Option Bool)) fun v3 => (Option.bind ((if (notB v3) = true then (some (true, (x.1, ()))) else (Option.bind ((if (ltZ 3 (lenI x.1.2.2.2.1)) = true then (some (true, (x.1, ()))) else (Option.bind ((if (ltZ 2 (lenI x.1.2.2.2.2.1)) = true then (some (true, (x.1, ()))) else (some ((ltZ 12 (lenI x.1.2.2.1)), (x.1, ())))) : (Option (Bool × (D_Project × Unit)))) fun v4 => (some (v4.1, (v4.2.1, ()))))) : (Option (Bool × (D_Project × Unit)))) fun v5 => (some (v5.1, (v5.2.1, ()))))) : (Option (Bool × (D_Project × Unit)))) fun v6 => (some (v6.1, (v6.2.1, ())))))) : (Option (Bool × (D_Project × Unit)))) fun v7 => (if v7.1 = true then (some (false, ())) else (Option.bind (loopN (A := (Int × (Int × ((List D_Activity) × (D_Project × Unit))))) big impl_ProjectOk_L0 (0, ((lenI v7.2.1.2.1), (v7.2.1.2.1, (v7.2.1, ()))))) fun v15 => (match v15 with | Out.norm v16 => none | Out.exit v17 => (match ((match v17 with | Sum.inl v48 => (Sum.inl (v48.2.2.2.2.1, ())) | Sum.inr v49 => (Empty.elim v49)) : ((D_Project × Unit) ⊕ Empty)) with | Sum.inl v18 => (Option.bind (loopN (A := (Int × (Int × ((List D_Resource) × (D_Project × Unit))))) big impl_ProjectOk_L1 (0, ((lenI v18.1.2.2.2.1), (v18.1.2.2.2.1, (v18.1, ()))))) fun v23 => (match v23 with | Out.norm v24 => none | Out.exit v25 => (match ((match v25 with | Sum.inl v44 => (Sum.inl (v44.2.2.2.2.1, ())) | Sum.inr v45 => (Empty.elim v45)) : ((D_Project × Unit) ⊕ Empty)) with | Sum.inl v26 => (Option.bind (loopN (A := (Int × (Int × ((List Int) × (D_Project × Unit))))) big impl_ProjectOk_L2 (0, ((lenI v26.1.2.2.2.2.1), (v26.1.2.2.2.2.1, (v26.1, ()))))) fun v31 => (match v31 with | Out.norm v32 => none | Out.exit v33 => (match ((match v33 with | Sum.inl v40 => (Sum.inl (v40.2.2.2.2.1, ())) | Sum.inr v41 => (Empty.elim v41)) : ((D_Project × Unit) ⊕ Empty)) with | Sum.inl v34 => (Option.bind ((Option.bind (slices_ContainsFunc_impl_Link_impl_Link (v34.1.2.2.1, ((fun v35 => (Option.bind (impl_ProjectOk_1 v35 (v34.1, ())) fun v36 => (some v36.1))), ())) ()) fun v37 => (some v37.1)) : (Option Bool)) fun v38 => (some ((notB v38), ()))) | Sum.inr v39 => none) | Out.ret v42 => (some v42))) | Sum.inr v43 => none) | Out.ret v46 => (some v46))) | Sum.inr v47 => none) | Out.ret v50 => (some v50))))))
def H_impl_ProjectOk : Hd := ⟨[.st [.int .i64, .sl 75 (.st [.str, .int .i64, .sl 131 (.st [.int .i64, .sl 3 (.int .i64), .sl 3 (.int .i64)])]), .sl 69 (.st [.int .i64, .int .i64, .bool, .int .i64]), .sl 126 (.st [.sl 203 (.st [.int .i64, .int .i64]), .sl 25 (.sl 3 (.int .i64))]), .sl 3 (.int .i64)]], [], none, .p, .bool, .p, []⟩
def T_impl_ProjectOk : FSig := ⟨H_impl_ProjectOk.ps, H_impl_ProjectOk.cs, H_impl_ProjectOk.io, H_impl_ProjectOk.im, H_impl_ProjectOk.R, H_impl_ProjectOk.m, impl_ProjectOk⟩
theorem E_impl_ProjectOk : fnOf tys [(30, T_impl_ActivityIndex), (90, T_impl_within), (97, T_impl_ActivityOk), (98, T_impl_ResourceOk), (99, T_slices_ContainsFunc_impl_Link_impl_Link), (100, T_impl_ProjectOk_1)] Tryz.f29 H_impl_ProjectOk = T_impl_ProjectOk := by kernel_rfl
theorem K_impl_ProjectOk : SigB base_ Tryz.prog 29 T_impl_ProjectOk := (congrArg (SigB base_ Tryz.prog 29) E_impl_ProjectOk).mp (fnOf_ok rfl tysOk ⟨K_impl_ActivityIndex, K_impl_within, K_impl_ActivityOk, K_impl_ResourceOk, K_slices_ContainsFunc_impl_Link_impl_Link, K_impl_ProjectOk_1, trivial⟩ Tryz.func29 (by decide) rfl (fun _ h => by cases h) (nilEq_of (by kernel_rfl)))
def impl_Project_hasResource (x : (D_Project × (Int × Unit))) (c : Unit) : (Option (Bool × Unit)) :=
  (Option.bind ((Option.bind (impl_within (x.2.1, (0, ((subZ .i64 (lenI x.1.2.2.2.1) 1), ()))) ()) fun v0 => (some v0.1)) : (Option Bool)) fun v1 => (some (v1, ())))
def H_impl_Project_hasResource : Hd := ⟨[.st [.int .i64, .sl 75 (.st [.str, .int .i64, .sl 131 (.st [.int .i64, .sl 3 (.int .i64), .sl 3 (.int .i64)])]), .sl 69 (.st [.int .i64, .int .i64, .bool, .int .i64]), .sl 126 (.st [.sl 203 (.st [.int .i64, .int .i64]), .sl 25 (.sl 3 (.int .i64))]), .sl 3 (.int .i64)], .int .i64], [], none, .p, .bool, .p, []⟩
def T_impl_Project_hasResource : FSig := ⟨H_impl_Project_hasResource.ps, H_impl_Project_hasResource.cs, H_impl_Project_hasResource.io, H_impl_Project_hasResource.im, H_impl_Project_hasResource.R, H_impl_Project_hasResource.m, impl_Project_hasResource⟩
theorem E_impl_Project_hasResource : fnOf tys [(90, T_impl_within)] Tryz.f92 H_impl_Project_hasResource = T_impl_Project_hasResource := by kernel_rfl
theorem K_impl_Project_hasResource : SigB base_ Tryz.prog 92 T_impl_Project_hasResource := (congrArg (SigB base_ Tryz.prog 92) E_impl_Project_hasResource).mp (fnOf_ok rfl tysOk ⟨K_impl_within, trivial⟩ Tryz.func92 (by decide) rfl (fun _ h => by cases h) (nilEq_of (by kernel_rfl)))
def impl_DelayOk (x : (D_Project × (D_Delay × Unit))) (c : Unit) : (Option (Bool × Unit)) :=
  (Option.bind ((Option.bind (impl_ProjectOk (x.1, ()) ()) fun v0 => (some v0.1)) : (Option Bool)) fun v1 => (Option.bind ((if (notB v1) = true then (some (true, (x.1, (x.2.1, ())))) else (Option.bind ((Option.bind (impl_isTime (x.2.1.2.2.2.1, ()) ()) fun v2 => (some v2.1)) : (Option Bool)) fun v3 => (some ((notB v3), (x.1, (x.2.1, ())))))) : (Option (Bool × (D_Project × (D_Delay × Unit))))) fun v4 => (if v4.1 = true then (some (false, ())) else (if (eqZ v4.2.2.1.1 1) = true then (Option.bind ((Option.bind (impl_Project_hasActivity (v4.2.1, (v4.2.2.1.2.1, ())) ()) fun v5 => (some v5.1)) : (Option Bool)) fun v6 => (Option.bind ((if v6 = true then (Option.bind ((Option.bind (impl_isTime (v4.2.2.1.2.2.1, ()) ()) fun v7 => (some v7.1)) : (Option Bool)) fun v8 => (some (v8, ()))) else (some (false, ()))) : (Option (Bool × Unit))) fun v9 => (some (v9.1, ())))) else (if (eqZ v4.2.2.1.1 2) = true then (Option.bind ((Option.bind (impl_Project_hasActivity (v4.2.1, (v4.2.2.1.2.1, ())) ()) fun v10 => (some v10.1)) : (Option Bool)) fun v11 => (Option.bind ((if v11 = true then (Option.bind ((Option.bind (impl_within (v4.2.2.1.2.2.1, (1, (12, ()))) ()) fun v12 => (some v12.1)) : (Option Bool)) fun v13 => (some (v13, ()))) else (some (false, ()))) : (Option (Bool × Unit))) fun v14 => (some (v14.1, ())))) else (if (eqZ v4.2.2.1.1 3) = true then (Option.bind ((Option.bind (impl_Project_hasResource (v4.2.1, (v4.2.2.1.2.1, ())) ()) fun v15 => (some v15.1)) : (Option Bool)) fun v16 => (Option.bind ((if v16 = true then (Option.bind ((Option.bind (impl_within (v4.2.2.1.2.2.1, (1, (20, ()))) ()) fun v17 => (some v17.1)) : (Option Bool)) fun v18 => (some (v18, ()))) else (some (false, ()))) : (Option (Bool × Unit))) fun v19 => (some (v19.1, ())))) else (some (false, ()))))))))
def H_impl_DelayOk : Hd := ⟨[.st [.int .i64, .sl 75 (.st [.str, .int .i64, .sl 131 (.st [.int .i64, .sl 3 (.int .i64), .sl 3 (.int .i64)])]), .sl 69 (.st [.int .i64, .int .i64, .bool, .int .i64]), .sl 126 (.st [.sl 203 (.st [.int .i64, .int .i64]), .sl 25 (.sl 3 (.int .i64))]), .sl 3 (.int .i64)], .st [.int .i64, .int .i64, .int .i64, .int .i64]], [], none, .p, .bool, .p, []⟩
def T_impl_DelayOk : FSig := ⟨H_impl_DelayOk.ps, H_impl_DelayOk.cs, H_impl_DelayOk.io, H_impl_DelayOk.im, H_impl_DelayOk.R, H_impl_DelayOk.m, impl_DelayOk⟩
theorem E_impl_DelayOk : fnOf tys [(29, T_impl_ProjectOk), (90, T_impl_within), (91, T_impl_Project_hasActivity), (92, T_impl_Project_hasResource), (93, T_impl_isTime)] Tryz.f131 H_impl_DelayOk = T_impl_DelayOk := by kernel_rfl
theorem K_impl_DelayOk : SigB base_ Tryz.prog 131 T_impl_DelayOk := (congrArg (SigB base_ Tryz.prog 131) E_impl_DelayOk).mp (fnOf_ok rfl tysOk ⟨K_impl_ProjectOk, K_impl_within, K_impl_Project_hasActivity, K_impl_Project_hasResource, K_impl_isTime, trivial⟩ Tryz.func131 (by decide) rfl (fun _ h => by cases h) (nilEq_of (by kernel_rfl)))
def impl_FormatDelay (x : (D_Project × (D_Delay × Unit))) (c : Unit) : (Option ((List UInt8) × Unit)) :=
  (Option.bind ((Option.bind (impl_DelayOk (x.1, (x.2.1, ())) ()) fun v0 => (some v0.1)) : (Option Bool)) fun v1 => (if (notB v1) = true then (some ([], ())) else (Option.bind ((Option.bind (impl_FormatInt (x.2.1.2.1, ()) ()) fun v2 => (some v2.1)) : (Option (List UInt8))) fun v3 => (Option.bind ((if (eqZ x.2.1.1 1) = true then (Option.bind (getI x.1.2.1 x.2.1.2.1) fun v4 => (some (Out.norm ((([108, 97, 116, 101] : List UInt8) :: (v4.1 :: [])), (x.2.1, ()))))) else (Option.bind ((if (eqZ x.2.1.1 2) = true then (Option.bind (getI x.1.2.1 x.2.1.2.1) fun v5 => (some (Out.norm ((([108, 111, 110, 103] : List UInt8) :: (v5.1 :: [])), (x.2.1, ()))))) else (some (Out.norm ((([99, 97, 112, 97, 99, 105, 116, 121] : List UInt8) :: (v3 :: [])), (x.2.1, ()))))) : (Option (Out ((List (List UInt8)) × (D_Delay × Unit)) Empty ((List UInt8) × Unit)))) fun v6 => (match ((match v6 with | Out.norm v10 => (Out.norm v10) | Out.exit v11 => (Out.exit v11) | Out.ret v12 => (Out.ret v12)) : (Out ((List (List UInt8)) × (D_Delay × Unit)) Empty ((List UInt8) × Unit))) with | Out.norm v7 => (some (Out.norm (v7.1, (v7.2.1, ())))) | Out.exit v8 => (some (Out.exit v8)) | Out.ret v9 => (some (Out.ret v9))))) : (Option (Out ((List (List UInt8)) × (D_Delay × Unit)) Empty ((List UInt8) × Unit)))) fun v13 => (match ((match v13 with | Out.norm v33 => (Out.norm v33) | Out.exit v34 => (Out.exit v34) | Out.ret v35 => (Out.ret v35)) : (Out ((List (List UInt8)) × (D_Delay × Unit)) Empty ((List UInt8) × Unit))) with | Out.norm v14 => (Option.bind ((Option.bind (impl_FormatInt (v14.2.1.2.2.1, ()) ()) fun v15 => (some v15.1)) : (Option (List UInt8))) fun v16 => (Option.bind ((Option.bind (impl_FormatInt (v14.2.1.2.2.2.1, ()) ()) fun v17 => (some v17.1)) : (Option (List UInt8))) fun v18 => (Option.bind (addI v14.1 (v16 :: (v18 :: []))) fun v19 => (Option.bind ((Option.bind (strings_Join (v19, (([32] : List UInt8), ())) ()) fun v20 => (some v20.1)) : (Option (List UInt8))) fun v21 => (some (v21, ())))))) | Out.exit v22 => (match ((Empty.elim v22) : (((List (List UInt8)) × (D_Delay × Unit)) ⊕ Empty)) with | Sum.inl v23 => (Option.bind ((Option.bind (impl_FormatInt (v23.2.1.2.2.1, ()) ()) fun v24 => (some v24.1)) : (Option (List UInt8))) fun v25 => (Option.bind ((Option.bind (impl_FormatInt (v23.2.1.2.2.2.1, ()) ()) fun v26 => (some v26.1)) : (Option (List UInt8))) fun v27 => (Option.bind (addI v23.1 (v25 :: (v27 :: []))) fun v28 => (Option.bind ((Option.bind (strings_Join (v28, (([32] : List UInt8), ())) ()) fun v29 => (some v29.1)) : (Option (List UInt8))) fun v30 => (some (v30, ())))))) | Sum.inr v31 => none) | Out.ret v32 => (some v32))))))
def H_impl_FormatDelay : Hd := ⟨[.st [.int .i64, .sl 75 (.st [.str, .int .i64, .sl 131 (.st [.int .i64, .sl 3 (.int .i64), .sl 3 (.int .i64)])]), .sl 69 (.st [.int .i64, .int .i64, .bool, .int .i64]), .sl 126 (.st [.sl 203 (.st [.int .i64, .int .i64]), .sl 25 (.sl 3 (.int .i64))]), .sl 3 (.int .i64)], .st [.int .i64, .int .i64, .int .i64, .int .i64]], [], none, .p, .str, .p, []⟩
def T_impl_FormatDelay : FSig := ⟨H_impl_FormatDelay.ps, H_impl_FormatDelay.cs, H_impl_FormatDelay.io, H_impl_FormatDelay.im, H_impl_FormatDelay.R, H_impl_FormatDelay.m, impl_FormatDelay⟩
theorem E_impl_FormatDelay : fnOf tys [(70, T_impl_FormatInt), (76, T_strings_Join), (131, T_impl_DelayOk)] Tryz.f60 H_impl_FormatDelay = T_impl_FormatDelay := by kernel_rfl
theorem K_impl_FormatDelay : SigB base_ Tryz.prog 60 T_impl_FormatDelay := (congrArg (SigB base_ Tryz.prog 60) E_impl_FormatDelay).mp (fnOf_ok rfl tysOk ⟨K_impl_FormatInt, K_strings_Join, K_impl_DelayOk, trivial⟩ Tryz.func60 (by decide) rfl (fun _ h => by cases h) (nilEq_of (by kernel_rfl)))
def impl_ParseDelay (x : (D_Project × ((List UInt8) × Unit))) (c : Unit) : (Option ((D_Delay × (Bool × Unit)) × Unit)) :=
  (Option.bind ((Option.bind (impl_SplitAny (x.2.1, (([32] : List UInt8), ())) ()) fun v0 => (some v0.1)) : (Option (List (List UInt8)))) fun v1 => (if (notB (eqZ (lenI v1) 4)) = true then (some (((0, (0, (0, (0, ())))), (false, ())), ())) else (Option.bind ((Option.bind (getI v1 1) fun v2 => (some ())) : (Option Unit)) fun v3 => (Option.bind ((Option.bind (getI v1 1) fun v4 => (some v4)) : (Option (List UInt8))) fun v5 => (Option.bind ((Option.bind (impl_ActivityIndex (x.1, (v5, ())) ()) fun v6 => (some v6.1)) : (Option Int)) fun v7 => (Option.bind ((Option.bind (getI v1 0) fun v8 => (some ())) : (Option Unit)) fun v9 => (Option.bind ((Option.bind (getI v1 0) fun v10 => (some v10)) : (Option (List UInt8))) fun v11 => (Option.bind ((if (eqS v11 ([108, 97, 116, 101] : List UInt8)) = true then (some (Out.norm (v1, (x.1, (x.2.1, ((1, (v7, (0, (0, ())))), ((0, (0, (0, (0, ())))), ()))))))) else (Option.bind ((if (eqS v11 ([108, 111, 110, 103] : List UInt8)) = true then (some (Out.norm (v1, (x.1, (x.2.1, ((2, (v7, (0, (0, ())))), ((0, (0, (0, (0, ())))), ()))))))) else (Option.bind ((if (eqS v11 ([99, 97, 112, 97, 99, 105, 116, 121] : List UInt8)) = true then (Option.bind ((Option.bind (getI v1 1) fun v12 => (some ())) : (Option Unit)) fun v13 => (Option.bind ((Option.bind (getI v1 1) fun v14 => (some v14)) : (Option (List UInt8))) fun v15 => (Option.bind ((Option.bind (impl_ParseInt (v15, ()) ()) fun v16 => (some v16.1)) : (Option (Int × (Bool × Unit)))) fun v17 => (some (Out.norm (v1, (x.1, (x.2.1, ((3, (v17.1, (0, (0, ())))), ((0, (0, (0, (0, ())))), ())))))))))) else (some (Out.norm (v1, (x.1, (x.2.1, ((0, (v7, (0, (0, ())))), ((0, (0, (0, (0, ())))), ())))))))) : (Option (Out ((List (List UInt8)) × (D_Project × ((List UInt8) × (D_Delay × (D_Delay × Unit))))) Empty ((D_Delay × (Bool × Unit)) × Unit)))) fun v18 => (match ((match v18 with | Out.norm v22 => (Out.norm v22) | Out.exit v23 => (Out.exit v23) | Out.ret v24 => (Out.ret v24)) : (Out ((List (List UInt8)) × (D_Project × ((List UInt8) × (D_Delay × (D_Delay × Unit))))) Empty ((D_Delay × (Bool × Unit)) × Unit))) with | Out.norm v19 => (some (Out.norm (v19.1, (v19.2.1, (v19.2.2.1, (v19.2.2.2.1, (v19.2.2.2.2.1, ()))))))) | Out.exit v20 => (some (Out.exit v20)) | Out.ret v21 => (some (Out.ret v21))))) : (Option (Out ((List (List UInt8)) × (D_Project × ((List UInt8) × (D_Delay × (D_Delay × Unit))))) Empty ((D_Delay × (Bool × Unit)) × Unit)))) fun v25 => (match ((match v25 with | Out.norm v29 => (Out.norm v29) | Out.exit v30 => (Out.exit v30) | Out.ret v31 => (Out.ret v31)) : (Out ((List (List UInt8)) × (D_Project × ((List UInt8) × (D_Delay × (D_Delay × Unit))))) Empty ((D_Delay × (Bool × Unit)) × Unit))) with | Out.norm v26 => (some (Out.norm (v26.1, (v26.2.1, (v26.2.2.1, (v26.2.2.2.1, (v26.2.2.2.2.1, ()))))))) | Out.exit v27 => (some (Out.exit v27)) | Out.ret v28 => (some (Out.ret v28))))) : (Option (Out ((List (List UInt8)) × (D_Project × ((List UInt8) × (D_Delay × (D_Delay × Unit))))) Empty ((D_Delay × (Bool × Unit)) × Unit)))) fun v32 => (match ((match v32 with | Out.norm v70 => (Out.norm v70) | Out.exit v71 => (Out.exit v71) | Out.ret v72 => (Out.ret v72)) : (Out ((List (List UInt8)) × (D_Project × ((List UInt8) × (D_Delay × (D_Delay × Unit))))) Empty ((D_Delay × (Bool × Unit)) × Unit))) with | Out.norm v33 => (Option.bind ((Option.bind (getI v33.1 2) fun v34 => (some ())) : (Option Unit)) fun v35 => (Option.bind ((Option.bind (getI v33.1 2) fun v36 => (some v36)) : (Option (List UInt8))) fun v37 => (Option.bind ((Option.bind (impl_ParseInt (v37, ()) ()) fun v38 => (some v38.1)) : (Option (Int × (Bool × Unit)))) fun v39 => (Option.bind ((Option.bind (getI v33.1 3) fun v40 => (some ())) : (Option Unit)) fun v41 => (Option.bind ((Option.bind (getI v33.1 3) fun v42 => (some v42)) : (Option (List UInt8))) fun v43 => (Option.bind ((Option.bind (impl_ParseInt (v43, ()) ()) fun v44 => (some v44.1)) : (Option (Int × (Bool × Unit)))) fun v45 => (Option.bind ((if (notB v39.2.1) = true then (some (true, ((v33.2.2.2.1.1, (v33.2.2.2.1.2.1, (v39.1, (v45.1, v33.2.2.2.1.2.2.2.2)))), (v33.2.2.2.2.1, ())))) else (Option.bind ((if (notB v45.2.1) = true then (some (true, ((v33.2.2.2.1.1, (v33.2.2.2.1.2.1, (v39.1, (v45.1, v33.2.2.2.1.2.2.2.2)))), (v33.2.2.2.2.1, ())))) else (Option.bind ((Option.bind (impl_FormatDelay (v33.2.1, ((v33.2.2.2.1.1, (v33.2.2.2.1.2.1, (v39.1, (v45.1, v33.2.2.2.1.2.2.2.2)))), ())) ()) fun v46 => (some v46.1)) : (Option (List UInt8))) fun v47 => (some ((notB (eqS v47 v33.2.2.1)), ((v33.2.2.2.1.1, (v33.2.2.2.1.2.1, (v39.1, (v45.1, v33.2.2.2.1.2.2.2.2)))), (v33.2.2.2.2.1, ())))))) : (Option (Bool × (D_Delay × (D_Delay × Unit))))) fun v48 => (some (v48.1, (v48.2.1, (v48.2.2.1, ())))))) : (Option (Bool × (D_Delay × (D_Delay × Unit))))) fun v49 => (if v49.1 = true then (some (((0, (0, (0, (0, ())))), (false, ())), ())) else (some ((v49.2.1, (true, ())), ())))))))))) | Out.exit v50 => (match ((Empty.elim v50) : (((List (List UInt8)) × (D_Project × ((List UInt8) × (D_Delay × (D_Delay × Unit))))) ⊕ Empty)) with | Sum.inl v51 => (Option.bind ((Option.bind (getI v51.1 2) fun v52 => (some ())) : (Option Unit)) fun v53 => (Option.bind ((Option.bind (getI v51.1 2) fun v54 => (some v54)) : (Option (List UInt8))) fun v55 => (Option.bind ((Option.bind (impl_ParseInt (v55, ()) ()) fun v56 => (some v56.1)) : (Option (Int × (Bool × Unit)))) fun v57 => (Option.bind ((Option.bind (getI v51.1 3) fun v58 => (some ())) : (Option Unit)) fun v59 => (Option.bind ((Option.bind (getI v51.1 3) fun v60 => (some v60)) : (Option (List UInt8))) fun v61 => (Option.bind ((Option.bind (impl_ParseInt (v61, ()) ()) fun v62 => (some v62.1)) : (Option (Int × (Bool × Unit)))) fun v63 => (Option.bind ((if (notB v57.2.1) = true then (some (true, ((v51.2.2.2.1.1, (v51.2.2.2.1.2.1, (v57.1, (v63.1, v51.2.2.2.1.2.2.2.2)))), (v51.2.2.2.2.1, ())))) else (Option.bind ((if (notB v63.2.1) = true then (some (true, ((v51.2.2.2.1.1, (v51.2.2.2.1.2.1, (v57.1, (v63.1, v51.2.2.2.1.2.2.2.2)))), (v51.2.2.2.2.1, ())))) else (Option.bind ((Option.bind (impl_FormatDelay (v51.2.1, ((v51.2.2.2.1.1, (v51.2.2.2.1.2.1, (v57.1, (v63.1, v51.2.2.2.1.2.2.2.2)))), ())) ()) fun v64 => (some v64.1)) : (Option (List UInt8))) fun v65 => (some ((notB (eqS v65 v51.2.2.1)), ((v51.2.2.2.1.1, (v51.2.2.2.1.2.1, (v57.1, (v63.1, v51.2.2.2.1.2.2.2.2)))), (v51.2.2.2.2.1, ())))))) : (Option (Bool × (D_Delay × (D_Delay × Unit))))) fun v66 => (some (v66.1, (v66.2.1, (v66.2.2.1, ())))))) : (Option (Bool × (D_Delay × (D_Delay × Unit))))) fun v67 => (if v67.1 = true then (some (((0, (0, (0, (0, ())))), (false, ())), ())) else (some ((v67.2.1, (true, ())), ())))))))))) | Sum.inr v68 => none) | Out.ret v69 => (some v69))))))))))
def H_impl_ParseDelay : Hd := ⟨[.st [.int .i64, .sl 75 (.st [.str, .int .i64, .sl 131 (.st [.int .i64, .sl 3 (.int .i64), .sl 3 (.int .i64)])]), .sl 69 (.st [.int .i64, .int .i64, .bool, .int .i64]), .sl 126 (.st [.sl 203 (.st [.int .i64, .int .i64]), .sl 25 (.sl 3 (.int .i64))]), .sl 3 (.int .i64)], .str], [], none, .p, .tup [.st [.int .i64, .int .i64, .int .i64, .int .i64], .bool], .p, []⟩
def T_impl_ParseDelay : FSig := ⟨H_impl_ParseDelay.ps, H_impl_ParseDelay.cs, H_impl_ParseDelay.io, H_impl_ParseDelay.im, H_impl_ParseDelay.R, H_impl_ParseDelay.m, impl_ParseDelay⟩
theorem E_impl_ParseDelay : fnOf tys [(30, T_impl_ActivityIndex), (58, T_impl_SplitAny), (59, T_impl_ParseInt), (60, T_impl_FormatDelay)] Tryz.f9 H_impl_ParseDelay = T_impl_ParseDelay := by kernel_rfl
theorem K_impl_ParseDelay : SigB base_ Tryz.prog 9 T_impl_ParseDelay := (congrArg (SigB base_ Tryz.prog 9) E_impl_ParseDelay).mp (fnOf_ok rfl tysOk ⟨K_impl_ActivityIndex, K_impl_SplitAny, K_impl_ParseInt, K_impl_FormatDelay, trivial⟩ Tryz.func9 (by decide) rfl (fun _ h => by cases h) (nilEq_of (by kernel_rfl)))
def laws_eqDelay (x : (D_Delay × (D_Delay × Unit))) (c : Unit) : (Option (Bool × Unit)) :=
  (if (notB (eqZ x.1.1 x.2.1.1)) = true then (some (false, ())) else (if (notB (eqZ x.1.2.1 x.2.1.2.1)) = true then (some (false, ())) else (if (notB (eqZ x.1.2.2.1 x.2.1.2.2.1)) = true then (some (false, ())) else (if (notB (eqZ x.1.2.2.2.1 x.2.1.2.2.2.1)) = true then (some (false, ())) else (some (true, ()))))))
def H_laws_eqDelay : Hd := ⟨[.st [.int .i64, .int .i64, .int .i64, .int .i64], .st [.int .i64, .int .i64, .int .i64, .int .i64]], [], none, .p, .bool, .p, []⟩
def T_laws_eqDelay : FSig := ⟨H_laws_eqDelay.ps, H_laws_eqDelay.cs, H_laws_eqDelay.io, H_laws_eqDelay.im, H_laws_eqDelay.R, H_laws_eqDelay.m, laws_eqDelay⟩
theorem E_laws_eqDelay : fnOf tys [] Tryz.f10 H_laws_eqDelay = T_laws_eqDelay := by kernel_rfl
theorem K_laws_eqDelay : SigB base_ Tryz.prog 10 T_laws_eqDelay := (congrArg (SigB base_ Tryz.prog 10) E_laws_eqDelay).mp (fnOf_ok rfl tysOk trivial Tryz.func10 (by decide) rfl (fun _ h => by cases h) (nilEq_of (by kernel_rfl)))
def laws_eqIntS_L0 : D_Mode → Option (Out D_Mode ((Bool × D_Mode) ⊕ Empty) (Bool × Unit)) :=
  (fun v0 => (if (ltZ v0.1 (lenI v0.2.1)) = true then (Option.bind (getI v0.2.1 v0.1) fun v1 => (Option.bind (getI v0.2.2.1 v0.1) fun v2 => (if (notB (eqZ v1 v2)) = true then (some (Out.ret (false, ()))) else (some (Out.norm ((addZ .i64 v0.1 1), (v0.2.1, (v0.2.2.1, ())))))))) else (some (Out.exit (Sum.inl ((ltZ v0.1 (lenI v0.2.1)), (v0.1, (v0.2.1, (v0.2.2.1, ())))))))))
def laws_eqIntS (x : ((List Int) × ((List Int) × Unit))) (c : Unit) : (Option (Bool × Unit)) :=
  (if (notB (eqZ (lenI x.1) (lenI x.2.1))) = true then (some (false, ())) else (Option.bind (loopN (A := D_Mode) big laws_eqIntS_L0 (0, (x.1, (x.2.1, ())))) fun v3 => (match v3 with | Out.norm v4 => none | Out.exit v5 => (match ((match v5 with | Sum.inl v8 => (Sum.inl ()) | Sum.inr v9 => (Empty.elim v9)) : (Unit ⊕ Empty)) with | Sum.inl v6 => (some (true, ())) | Sum.inr v7 => none) | Out.ret v10 => (some v10))))
def H_laws_eqIntS : Hd := ⟨[.sl 3 (.int .i64), .sl 3 (.int .i64)], [], none, .p, .bool, .p, []⟩
def T_laws_eqIntS : FSig := ⟨H_laws_eqIntS.ps, H_laws_eqIntS.cs, H_laws_eqIntS.io, H_laws_eqIntS.im, H_laws_eqIntS.R, H_laws_eqIntS.m, laws_eqIntS⟩
theorem E_laws_eqIntS : fnOf tys [] Tryz.f64 H_laws_eqIntS = T_laws_eqIntS := by kernel_rfl
theorem K_laws_eqIntS : SigB base_ Tryz.prog 64 T_laws_eqIntS := (congrArg (SigB base_ Tryz.prog 64) E_laws_eqIntS).mp (fnOf_ok rfl tysOk trivial Tryz.func64 (by decide) rfl (fun _ h => by cases h) (nilEq_of (by kernel_rfl)))
def laws_eqMode (x : (D_Mode × (D_Mode × Unit))) (c : Unit) : (Option (Bool × Unit)) :=
  (if (notB (eqZ x.1.1 x.2.1.1)) = true then (some (false, ())) else (Option.bind ((Option.bind (laws_eqIntS (x.1.2.1, (x.2.1.2.1, ())) ()) fun v0 => (some v0.1)) : (Option Bool)) fun v1 => (if (notB v1) = true then (some (false, ())) else (Option.bind ((Option.bind (laws_eqIntS (x.1.2.2.1, (x.2.1.2.2.1, ())) ()) fun v2 => (some v2.1)) : (Option Bool)) fun v3 => (if (notB v3) = true then (some (false, ())) else (some (true, ())))))))
def H_laws_eqMode : Hd := ⟨[.st [.int .i64, .sl 3 (.int .i64), .sl 3 (.int .i64)], .st [.int .i64, .sl 3 (.int .i64), .sl 3 (.int .i64)]], [], none, .p, .bool, .p, []⟩
def T_laws_eqMode : FSig := ⟨H_laws_eqMode.ps, H_laws_eqMode.cs, H_laws_eqMode.io, H_laws_eqMode.im, H_laws_eqMode.R, H_laws_eqMode.m, laws_eqMode⟩
theorem E_laws_eqMode : fnOf tys [(64, T_laws_eqIntS)] Tryz.f230 H_laws_eqMode = T_laws_eqMode := by kernel_rfl
theorem K_laws_eqMode : SigB base_ Tryz.prog 230 T_laws_eqMode := (congrArg (SigB base_ Tryz.prog 230) E_laws_eqMode).mp (fnOf_ok rfl tysOk ⟨K_laws_eqIntS, trivial⟩ Tryz.func230 (by decide) rfl (fun _ h => by cases h) (nilEq_of (by kernel_rfl)))
def laws_eqModeS_L0 : (Int × ((List D_Mode) × ((List D_Mode) × Unit))) → Option (Out (Int × ((List D_Mode) × ((List D_Mode) × Unit))) ((Bool × (Int × ((List D_Mode) × ((List D_Mode) × Unit)))) ⊕ Empty) (Bool × Unit)) :=
  (fun v0 => (if (ltZ v0.1 (lenI v0.2.1)) = true then (Option.bind (getI v0.2.1 v0.1) fun v1 => (Option.bind (getI v0.2.2.1 v0.1) fun v2 => (Option.bind ((Option.bind (laws_eqMode (v1, (v2, ())) ()) fun v3 => (some v3.1)) : (Option Bool)) fun v4 => (if (notB v4) = true then (some (Out.ret (false, ()))) else (some (Out.norm ((addZ .i64 v0.1 1), (v0.2.1, (v0.2.2.1, ()))))))))) else (some (Out.exit (Sum.inl ((ltZ v0.1 (lenI v0.2.1)), (v0.1, (v0.2.1, (v0.2.2.1, ())))))))))
def laws_eqModeS (x : ((List D_Mode) × ((List D_Mode) × Unit))) (c : Unit) : (Option (Bool × Unit)) :=
  (if (notB (eqZ (lenI x.1) (lenI x.2.1))) = true then (some (false, ())) else (Option.bind (loopN (A := (Int × ((List D_Mode) × ((List D_Mode) × Unit)))) big laws_eqModeS_L0 (0, (x.1, (x.2.1, ())))) fun v5 => (match v5 with | Out.norm v6 => none | Out.exit v7 => (match ((match v7 with | Sum.inl v10 => (Sum.inl ()) | Sum.inr v11 => (Empty.elim v11)) : (Unit ⊕ Empty)) with | Sum.inl v8 => (some (true, ())) | Sum.inr v9 => none) | Out.ret v12 => (some v12))))
def H_laws_eqModeS : Hd := ⟨[.sl 131 (.st [.int .i64, .sl 3 (.int .i64), .sl 3 (.int .i64)]), .sl 131 (.st [.int .i64, .sl 3 (.int .i64), .sl 3 (.int .i64)])], [], none, .p, .bool, .p, []⟩
def T_laws_eqModeS : FSig := ⟨H_laws_eqModeS.ps, H_laws_eqModeS.cs, H_laws_eqModeS.io, H_laws_eqModeS.im, H_laws_eqModeS.R, H_laws_eqModeS.m, laws_eqModeS⟩
theorem E_laws_eqModeS : fnOf tys [(230, T_laws_eqMode)] Tryz.f191 H_laws_eqModeS = T_laws_eqModeS := by kernel_rfl
theorem K_laws_eqModeS : SigB base_ Tryz.prog 191 T_laws_eqModeS := (congrArg (SigB base_ Tryz.prog 191) E_laws_eqModeS).mp (fnOf_ok rfl tysOk ⟨K_laws_eqMode, trivial⟩ Tryz.func191 (by decide) rfl (fun _ h => by cases h) (nilEq_of (by kernel_rfl)))
def laws_eqActivity (x : (D_Activity × (D_Activity × Unit))) (c : Unit) : (Option (Bool × Unit)) :=
  (if (notB (eqS x.1.1 x.2.1.1)) = true then (some (false, ())) else (if (notB (eqZ x.1.2.1 x.2.1.2.1)) = true then (some (false, ())) else (Option.bind ((Option.bind (laws_eqModeS (x.1.2.2.1, (x.2.1.2.2.1, ())) ()) fun v0 => (some v0.1)) : (Option Bool)) fun v1 => (if (notB v1) = true then (some (false, ())) else (some (true, ()))))))
def H_laws_eqActivity : Hd := ⟨[.st [.str, .int .i64, .sl 131 (.st [.int .i64, .sl 3 (.int .i64), .sl 3 (.int .i64)])], .st [.str, .int .i64, .sl 131 (.st [.int .i64, .sl 3 (.int .i64), .sl 3 (.int .i64)])]], [], none, .p, .bool, .p, []⟩
def T_laws_eqActivity : FSig := ⟨H_laws_eqActivity.ps, H_laws_eqActivity.cs, H_laws_eqActivity.io, H_laws_eqActivity.im, H_laws_eqActivity.R, H_laws_eqActivity.m, laws_eqActivity⟩
theorem E_laws_eqActivity : fnOf tys [(191, T_laws_eqModeS)] Tryz.f132 H_laws_eqActivity = T_laws_eqActivity := by kernel_rfl
theorem K_laws_eqActivity : SigB base_ Tryz.prog 132 T_laws_eqActivity := (congrArg (SigB base_ Tryz.prog 132) E_laws_eqActivity).mp (fnOf_ok rfl tysOk ⟨K_laws_eqModeS, trivial⟩ Tryz.func132 (by decide) rfl (fun _ h => by cases h) (nilEq_of (by kernel_rfl)))
def laws_eqActivityS_L0 : (Int × ((List D_Activity) × ((List D_Activity) × Unit))) → Option (Out (Int × ((List D_Activity) × ((List D_Activity) × Unit))) ((Bool × (Int × ((List D_Activity) × ((List D_Activity) × Unit)))) ⊕ Empty) (Bool × Unit)) :=
  (fun v0 => (if (ltZ v0.1 (lenI v0.2.1)) = true then (Option.bind (getI v0.2.1 v0.1) fun v1 => (Option.bind (getI v0.2.2.1 v0.1) fun v2 => (Option.bind ((Option.bind (laws_eqActivity (v1, (v2, ())) ()) fun v3 => (some v3.1)) : (Option Bool)) fun v4 => (if (notB v4) = true then (some (Out.ret (false, ()))) else (some (Out.norm ((addZ .i64 v0.1 1), (v0.2.1, (v0.2.2.1, ()))))))))) else (some (Out.exit (Sum.inl ((ltZ v0.1 (lenI v0.2.1)), (v0.1, (v0.2.1, (v0.2.2.1, ())))))))))
def laws_eqActivityS (x : ((List D_Activity) × ((List D_Activity) × Unit))) (c : Unit) : (Option (Bool × Unit)) :=
  (if (notB (eqZ (lenI x.1) (lenI x.2.1))) = true then (some (false, ())) else (Option.bind (loopN (A := (Int × ((List D_Activity) × ((List D_Activity) × Unit)))) big laws_eqActivityS_L0 (0, (x.1, (x.2.1, ())))) fun v5 => (match v5 with | Out.norm v6 => none | Out.exit v7 => (match ((match v7 with | Sum.inl v10 => (Sum.inl ()) | Sum.inr v11 => (Empty.elim v11)) : (Unit ⊕ Empty)) with | Sum.inl v8 => (some (true, ())) | Sum.inr v9 => none) | Out.ret v12 => (some v12))))
def H_laws_eqActivityS : Hd := ⟨[.sl 75 (.st [.str, .int .i64, .sl 131 (.st [.int .i64, .sl 3 (.int .i64), .sl 3 (.int .i64)])]), .sl 75 (.st [.str, .int .i64, .sl 131 (.st [.int .i64, .sl 3 (.int .i64), .sl 3 (.int .i64)])])], [], none, .p, .bool, .p, []⟩
def T_laws_eqActivityS : FSig := ⟨H_laws_eqActivityS.ps, H_laws_eqActivityS.cs, H_laws_eqActivityS.io, H_laws_eqActivityS.im, H_laws_eqActivityS.R, H_laws_eqActivityS.m, laws_eqActivityS⟩
theorem E_laws_eqActivityS : fnOf tys [(132, T_laws_eqActivity)] Tryz.f61 H_laws_eqActivityS = T_laws_eqActivityS := by kernel_rfl
theorem K_laws_eqActivityS : SigB base_ Tryz.prog 61 T_laws_eqActivityS := (congrArg (SigB base_ Tryz.prog 61) E_laws_eqActivityS).mp (fnOf_ok rfl tysOk ⟨K_laws_eqActivity, trivial⟩ Tryz.func61 (by decide) rfl (fun _ h => by cases h) (nilEq_of (by kernel_rfl)))
def laws_eqLink (x : (D_Link × (D_Link × Unit))) (c : Unit) : (Option (Bool × Unit)) :=
  (if (notB (eqZ x.1.1 x.2.1.1)) = true then (some (false, ())) else (if (notB (eqZ x.1.2.1 x.2.1.2.1)) = true then (some (false, ())) else (if (notB (eqB x.1.2.2.1 x.2.1.2.2.1)) = true then (some (false, ())) else (if (notB (eqZ x.1.2.2.2.1 x.2.1.2.2.2.1)) = true then (some (false, ())) else (some (true, ()))))))
def H_laws_eqLink : Hd := ⟨[.st [.int .i64, .int .i64, .bool, .int .i64], .st [.int .i64, .int .i64, .bool, .int .i64]], [], none, .p, .bool, .p, []⟩
def T_laws_eqLink : FSig := ⟨H_laws_eqLink.ps, H_laws_eqLink.cs, H_laws_eqLink.io, H_laws_eqLink.im, H_laws_eqLink.R, H_laws_eqLink.m, laws_eqLink⟩
theorem E_laws_eqLink : fnOf tys [] Tryz.f133 H_laws_eqLink = T_laws_eqLink := by kernel_rfl
theorem K_laws_eqLink : SigB base_ Tryz.prog 133 T_laws_eqLink := (congrArg (SigB base_ Tryz.prog 133) E_laws_eqLink).mp (fnOf_ok rfl tysOk trivial Tryz.func133 (by decide) rfl (fun _ h => by cases h) (nilEq_of (by kernel_rfl)))
def laws_eqLinkS_L0 : (Int × ((List D_Link) × ((List D_Link) × Unit))) → Option (Out (Int × ((List D_Link) × ((List D_Link) × Unit))) ((Bool × (Int × ((List D_Link) × ((List D_Link) × Unit)))) ⊕ Empty) (Bool × Unit)) :=
  (fun v0 => (if (ltZ v0.1 (lenI v0.2.1)) = true then (Option.bind (getI v0.2.1 v0.1) fun v1 => (Option.bind (getI v0.2.2.1 v0.1) fun v2 => (Option.bind ((Option.bind (laws_eqLink (v1, (v2, ())) ()) fun v3 => (some v3.1)) : (Option Bool)) fun v4 => (if (notB v4) = true then (some (Out.ret (false, ()))) else (some (Out.norm ((addZ .i64 v0.1 1), (v0.2.1, (v0.2.2.1, ()))))))))) else (some (Out.exit (Sum.inl ((ltZ v0.1 (lenI v0.2.1)), (v0.1, (v0.2.1, (v0.2.2.1, ())))))))))
def laws_eqLinkS (x : ((List D_Link) × ((List D_Link) × Unit))) (c : Unit) : (Option (Bool × Unit)) :=
  (if (notB (eqZ (lenI x.1) (lenI x.2.1))) = true then (some (false, ())) else (Option.bind (loopN (A := (Int × ((List D_Link) × ((List D_Link) × Unit)))) big laws_eqLinkS_L0 (0, (x.1, (x.2.1, ())))) fun v5 => (match v5 with | Out.norm v6 => none | Out.exit v7 => (match ((match v7 with | Sum.inl v10 => (Sum.inl ()) | Sum.inr v11 => (Empty.elim v11)) : (Unit ⊕ Empty)) with | Sum.inl v8 => (some (true, ())) | Sum.inr v9 => none) | Out.ret v12 => (some v12))))
def H_laws_eqLinkS : Hd := ⟨[.sl 69 (.st [.int .i64, .int .i64, .bool, .int .i64]), .sl 69 (.st [.int .i64, .int .i64, .bool, .int .i64])], [], none, .p, .bool, .p, []⟩
def T_laws_eqLinkS : FSig := ⟨H_laws_eqLinkS.ps, H_laws_eqLinkS.cs, H_laws_eqLinkS.io, H_laws_eqLinkS.im, H_laws_eqLinkS.R, H_laws_eqLinkS.m, laws_eqLinkS⟩
theorem E_laws_eqLinkS : fnOf tys [(133, T_laws_eqLink)] Tryz.f62 H_laws_eqLinkS = T_laws_eqLinkS := by kernel_rfl
theorem K_laws_eqLinkS : SigB base_ Tryz.prog 62 T_laws_eqLinkS := (congrArg (SigB base_ Tryz.prog 62) E_laws_eqLinkS).mp (fnOf_ok rfl tysOk ⟨K_laws_eqLink, trivial⟩ Tryz.func62 (by decide) rfl (fun _ h => by cases h) (nilEq_of (by kernel_rfl)))
def laws_eqStep (x : (D_Step × (D_Step × Unit))) (c : Unit) : (Option (Bool × Unit)) :=
  (if (notB (eqZ x.1.1 x.2.1.1)) = true then (some (false, ())) else (if (notB (eqZ x.1.2.1 x.2.1.2.1)) = true then (some (false, ())) else (some (true, ()))))
def H_laws_eqStep : Hd := ⟨[.st [.int .i64, .int .i64], .st [.int .i64, .int .i64]], [], none, .p, .bool, .p, []⟩
def T_laws_eqStep : FSig := ⟨H_laws_eqStep.ps, H_laws_eqStep.cs, H_laws_eqStep.io, H_laws_eqStep.im, H_laws_eqStep.R, H_laws_eqStep.m, laws_eqStep⟩
theorem E_laws_eqStep : fnOf tys [] Tryz.f231 H_laws_eqStep = T_laws_eqStep := by kernel_rfl
theorem K_laws_eqStep : SigB base_ Tryz.prog 231 T_laws_eqStep := (congrArg (SigB base_ Tryz.prog 231) E_laws_eqStep).mp (fnOf_ok rfl tysOk trivial Tryz.func231 (by decide) rfl (fun _ h => by cases h) (nilEq_of (by kernel_rfl)))
def laws_eqStepS_L0 : (Int × ((List D_Step) × ((List D_Step) × Unit))) → Option (Out (Int × ((List D_Step) × ((List D_Step) × Unit))) ((Bool × (Int × ((List D_Step) × ((List D_Step) × Unit)))) ⊕ Empty) (Bool × Unit)) :=
  (fun v0 => (if (ltZ v0.1 (lenI v0.2.1)) = true then (Option.bind (getI v0.2.1 v0.1) fun v1 => (Option.bind (getI v0.2.2.1 v0.1) fun v2 => (Option.bind ((Option.bind (laws_eqStep (v1, (v2, ())) ()) fun v3 => (some v3.1)) : (Option Bool)) fun v4 => (if (notB v4) = true then (some (Out.ret (false, ()))) else (some (Out.norm ((addZ .i64 v0.1 1), (v0.2.1, (v0.2.2.1, ()))))))))) else (some (Out.exit (Sum.inl ((ltZ v0.1 (lenI v0.2.1)), (v0.1, (v0.2.1, (v0.2.2.1, ())))))))))
def laws_eqStepS (x : ((List D_Step) × ((List D_Step) × Unit))) (c : Unit) : (Option (Bool × Unit)) :=
  (if (notB (eqZ (lenI x.1) (lenI x.2.1))) = true then (some (false, ())) else (Option.bind (loopN (A := (Int × ((List D_Step) × ((List D_Step) × Unit)))) big laws_eqStepS_L0 (0, (x.1, (x.2.1, ())))) fun v5 => (match v5 with | Out.norm v6 => none | Out.exit v7 => (match ((match v7 with | Sum.inl v10 => (Sum.inl ()) | Sum.inr v11 => (Empty.elim v11)) : (Unit ⊕ Empty)) with | Sum.inl v8 => (some (true, ())) | Sum.inr v9 => none) | Out.ret v12 => (some v12))))
def H_laws_eqStepS : Hd := ⟨[.sl 203 (.st [.int .i64, .int .i64]), .sl 203 (.st [.int .i64, .int .i64])], [], none, .p, .bool, .p, []⟩
def T_laws_eqStepS : FSig := ⟨H_laws_eqStepS.ps, H_laws_eqStepS.cs, H_laws_eqStepS.io, H_laws_eqStepS.im, H_laws_eqStepS.R, H_laws_eqStepS.m, laws_eqStepS⟩
theorem E_laws_eqStepS : fnOf tys [(231, T_laws_eqStep)] Tryz.f192 H_laws_eqStepS = T_laws_eqStepS := by kernel_rfl
theorem K_laws_eqStepS : SigB base_ Tryz.prog 192 T_laws_eqStepS := (congrArg (SigB base_ Tryz.prog 192) E_laws_eqStepS).mp (fnOf_ok rfl tysOk ⟨K_laws_eqStep, trivial⟩ Tryz.func192 (by decide) rfl (fun _ h => by cases h) (nilEq_of (by kernel_rfl)))
def laws_eqIntSS_L0 : (Int × ((List (List Int)) × ((List (List Int)) × Unit))) → Option (Out (Int × ((List (List Int)) × ((List (List Int)) × Unit))) ((Bool × (Int × ((List (List Int)) × ((List (List Int)) × Unit)))) ⊕ Empty) (Bool × Unit)) :=
  (fun v0 => (if (ltZ v0.1 (lenI v0.2.1)) = true then (Option.bind (getI v0.2.1 v0.1) fun v1 => (Option.bind (getI v0.2.2.1 v0.1) fun v2 => (Option.bind ((Option.bind (laws_eqIntS (v1, (v2, ())) ()) fun v3 => (some v3.1)) : (Option Bool)) fun v4 => (if (notB v4) = true then (some (Out.ret (false, ()))) else (some (Out.norm ((addZ .i64 v0.1 1), (v0.2.1, (v0.2.2.1, ()))))))))) else (some (Out.exit (Sum.inl ((ltZ v0.1 (lenI v0.2.1)), (v0.1, (v0.2.1, (v0.2.2.1, ())))))))))
def laws_eqIntSS (x : ((List (List Int)) × ((List (List Int)) × Unit))) (c : Unit) : (Option (Bool × Unit)) :=
  (if (notB (eqZ (lenI x.1) (lenI x.2.1))) = true then (some (false, ())) else (Option.bind (loopN (A := (Int × ((List (List Int)) × ((List (List Int)) × Unit)))) big laws_eqIntSS_L0 (0, (x.1, (x.2.1, ())))) fun v5 => (match v5 with | Out.norm v6 => none | Out.exit v7 => (match ((match v7 with | Sum.inl v10 => (Sum.inl ()) | Sum.inr v11 => (Empty.elim v11)) : (Unit ⊕ Empty)) with | Sum.inl v8 => (some (true, ())) | Sum.inr v9 => none) | Out.ret v12 => (some v12))))
def H_laws_eqIntSS : Hd := ⟨[.sl 25 (.sl 3 (.int .i64)), .sl 25 (.sl 3 (.int .i64))], [], none, .p, .bool, .p, []⟩
def T_laws_eqIntSS : FSig := ⟨H_laws_eqIntSS.ps, H_laws_eqIntSS.cs, H_laws_eqIntSS.io, H_laws_eqIntSS.im, H_laws_eqIntSS.R, H_laws_eqIntSS.m, laws_eqIntSS⟩
theorem E_laws_eqIntSS : fnOf tys [(64, T_laws_eqIntS)] Tryz.f193 H_laws_eqIntSS = T_laws_eqIntSS := by kernel_rfl
theorem K_laws_eqIntSS : SigB base_ Tryz.prog 193 T_laws_eqIntSS := (congrArg (SigB base_ Tryz.prog 193) E_laws_eqIntSS).mp (fnOf_ok rfl tysOk ⟨K_laws_eqIntS, trivial⟩ Tryz.func193 (by decide) rfl (fun _ h => by cases h) (nilEq_of (by kernel_rfl)))
def laws_eqResource (x : (D_Resource × (D_Resource × Unit))) (c : Unit) : (Option (Bool × Unit)) :=
  (Option.bind ((Option.bind (laws_eqStepS (x.1.1, (x.2.1.1, ())) ()) fun v0 => (some v0.1)) : (Option Bool)) fun v1 => (if (notB v1) = true then (some (false, ())) else (Option.bind ((Option.bind (laws_eqIntSS (x.1.2.1, (x.2.1.2.1, ())) ()) fun v2 => (some v2.1)) : (Option Bool)) fun v3 => (if (notB v3) = true then (some (false, ())) else (some (true, ()))))))
def H_laws_eqResource : Hd := ⟨[.st [.sl 203 (.st [.int .i64, .int .i64]), .sl 25 (.sl 3 (.int .i64))], .st [.sl 203 (.st [.int .i64, .int .i64]), .sl 25 (.sl 3 (.int .i64))]], [], none, .p, .bool, .p, []⟩
def T_laws_eqResource : FSig := ⟨H_laws_eqResource.ps, H_laws_eqResource.cs, H_laws_eqResource.io, H_laws_eqResource.im, H_laws_eqResource.R, H_laws_eqResource.m, laws_eqResource⟩
theorem E_laws_eqResource : fnOf tys [(192, T_laws_eqStepS), (193, T_laws_eqIntSS)] Tryz.f134 H_laws_eqResource = T_laws_eqResource := by kernel_rfl
theorem K_laws_eqResource : SigB base_ Tryz.prog 134 T_laws_eqResource := (congrArg (SigB base_ Tryz.prog 134) E_laws_eqResource).mp (fnOf_ok rfl tysOk ⟨K_laws_eqStepS, K_laws_eqIntSS, trivial⟩ Tryz.func134 (by decide) rfl (fun _ h => by cases h) (nilEq_of (by kernel_rfl)))
def laws_eqResourceS_L0 : (Int × ((List D_Resource) × ((List D_Resource) × Unit))) → Option (Out (Int × ((List D_Resource) × ((List D_Resource) × Unit))) ((Bool × (Int × ((List D_Resource) × ((List D_Resource) × Unit)))) ⊕ Empty) (Bool × Unit)) :=
  (fun v0 => (if (ltZ v0.1 (lenI v0.2.1)) = true then (Option.bind (getI v0.2.1 v0.1) fun v1 => (Option.bind (getI v0.2.2.1 v0.1) fun v2 => (Option.bind ((Option.bind (laws_eqResource (v1, (v2, ())) ()) fun v3 => (some v3.1)) : (Option Bool)) fun v4 => (if (notB v4) = true then (some (Out.ret (false, ()))) else (some (Out.norm ((addZ .i64 v0.1 1), (v0.2.1, (v0.2.2.1, ()))))))))) else (some (Out.exit (Sum.inl ((ltZ v0.1 (lenI v0.2.1)), (v0.1, (v0.2.1, (v0.2.2.1, ())))))))))
def laws_eqResourceS (x : ((List D_Resource) × ((List D_Resource) × Unit))) (c : Unit) : (Option (Bool × Unit)) :=
  (if (notB (eqZ (lenI x.1) (lenI x.2.1))) = true then (some (false, ())) else (Option.bind (loopN (A := (Int × ((List D_Resource) × ((List D_Resource) × Unit)))) big laws_eqResourceS_L0 (0, (x.1, (x.2.1, ())))) fun v5 => (match v5 with | Out.norm v6 => none | Out.exit v7 => (match ((match v7 with | Sum.inl v10 => (Sum.inl ()) | Sum.inr v11 => (Empty.elim v11)) : (Unit ⊕ Empty)) with | Sum.inl v8 => (some (true, ())) | Sum.inr v9 => none) | Out.ret v12 => (some v12))))
def H_laws_eqResourceS : Hd := ⟨[.sl 126 (.st [.sl 203 (.st [.int .i64, .int .i64]), .sl 25 (.sl 3 (.int .i64))]), .sl 126 (.st [.sl 203 (.st [.int .i64, .int .i64]), .sl 25 (.sl 3 (.int .i64))])], [], none, .p, .bool, .p, []⟩
def T_laws_eqResourceS : FSig := ⟨H_laws_eqResourceS.ps, H_laws_eqResourceS.cs, H_laws_eqResourceS.io, H_laws_eqResourceS.im, H_laws_eqResourceS.R, H_laws_eqResourceS.m, laws_eqResourceS⟩
theorem E_laws_eqResourceS : fnOf tys [(134, T_laws_eqResource)] Tryz.f63 H_laws_eqResourceS = T_laws_eqResourceS := by kernel_rfl
theorem K_laws_eqResourceS : SigB base_ Tryz.prog 63 T_laws_eqResourceS := (congrArg (SigB base_ Tryz.prog 63) E_laws_eqResourceS).mp (fnOf_ok rfl tysOk ⟨K_laws_eqResource, trivial⟩ Tryz.func63 (by decide) rfl (fun _ h => by cases h) (nilEq_of (by kernel_rfl)))
def laws_eqProject (x : (D_Project × (D_Project × Unit))) (c : Unit) : (Option (Bool × Unit)) :=
  (if (notB (eqZ x.1.1 x.2.1.1)) = true then (some (false, ())) else (Option.bind ((Option.bind (laws_eqActivityS (x.1.2.1, (x.2.1.2.1, ())) ()) fun v0 => (some v0.1)) : (Option Bool)) fun v1 => (if (notB v1) = true then (some (false, ())) else (Option.bind ((Option.bind (laws_eqLinkS (x.1.2.2.1, (x.2.1.2.2.1, ())) ()) fun v2 => (some v2.1)) : (Option Bool)) fun v3 => (if (notB v3) = true then (some (false, ())) else (Option.bind ((Option.bind (laws_eqResourceS (x.1.2.2.2.1, (x.2.1.2.2.2.1, ())) ()) fun v4 => (some v4.1)) : (Option Bool)) fun v5 => (if (notB v5) = true then (some (false, ())) else (Option.bind ((Option.bind (laws_eqIntS (x.1.2.2.2.2.1, (x.2.1.2.2.2.2.1, ())) ()) fun v6 => (some v6.1)) : (Option Bool)) fun v7 => (if (notB v7) = true then (some (false, ())) else (some (true, ())))))))))))
def H_laws_eqProject : Hd := ⟨[.st [.int .i64, .sl 75 (.st [.str, .int .i64, .sl 131 (.st [.int .i64, .sl 3 (.int .i64), .sl 3 (.int .i64)])]), .sl 69 (.st [.int .i64, .int .i64, .bool, .int .i64]), .sl 126 (.st [.sl 203 (.st [.int .i64, .int .i64]), .sl 25 (.sl 3 (.int .i64))]), .sl 3 (.int .i64)], .st [.int .i64, .sl 75 (.st [.str, .int .i64, .sl 131 (.st [.int .i64, .sl 3 (.int .i64), .sl 3 (.int .i64)])]), .sl 69 (.st [.int .i64, .int .i64, .bool, .int .i64]), .sl 126 (.st [.sl 203 (.st [.int .i64, .int .i64]), .sl 25 (.sl 3 (.int .i64))]), .sl 3 (.int .i64)]], [], none, .p, .bool, .p, []⟩
def T_laws_eqProject : FSig := ⟨H_laws_eqProject.ps, H_laws_eqProject.cs, H_laws_eqProject.io, H_laws_eqProject.im, H_laws_eqProject.R, H_laws_eqProject.m, laws_eqProject⟩
theorem E_laws_eqProject : fnOf tys [(61, T_laws_eqActivityS), (62, T_laws_eqLinkS), (63, T_laws_eqResourceS), (64, T_laws_eqIntS)] Tryz.f11 H_laws_eqProject = T_laws_eqProject := by kernel_rfl
theorem K_laws_eqProject : SigB base_ Tryz.prog 11 T_laws_eqProject := (congrArg (SigB base_ Tryz.prog 11) E_laws_eqProject).mp (fnOf_ok rfl tysOk ⟨K_laws_eqActivityS, K_laws_eqLinkS, K_laws_eqResourceS, K_laws_eqIntS, trivial⟩ Tryz.func11 (by decide) rfl (fun _ h => by cases h) (nilEq_of (by kernel_rfl)))
def laws_FnExactParseDelay (x : (D_Project × ((List UInt8) × Unit))) (c : Unit) : (Option (Bool × Unit)) :=
  (if (ltZ 1048576 (lenI x.2.1)) = true then (some (true, ())) else (Option.bind ((Option.bind (laws_szProject (x.1, (1048576, ())) ()) fun v0 => (some v0.1)) : (Option Int)) fun v1 => (if (ltZ v1 0) = true then (some (true, ())) else (Option.bind ((Option.bind (laws_toProject (x.1, ()) ()) fun v2 => (some v2.1)) : (Option D_Project)) fun v3 => (Option.bind ((Option.bind (spec_ParseDelay (v3, (x.2.1, ())) ()) fun v4 => (some v4.1)) : (Option (D_Delay × (Bool × Unit)))) fun v5 => (Option.bind ((Option.bind (laws_toProject (x.1, ()) ()) fun v6 => (some v6.1)) : (Option D_Project)) fun v7 => (Option.bind ((Option.bind (impl_ParseDelay (v7, (x.2.1, ())) ()) fun v8 => (some v8.1)) : (Option (D_Delay × (Bool × Unit)))) fun v9 => (Option.bind ((Option.bind (laws_eqDelay (v9.1, (v5.1, ())) ()) fun v10 => (some v10.1)) : (Option Bool)) fun v11 => (Option.bind ((if (notB v11) = true then (some (true, (v7, (x.1, ())))) else (some ((notB (eqB v9.2.1 v5.2.1)), (v7, (x.1, ()))))) : (Option (Bool × (D_Project × (D_Project × Unit))))) fun v12 => (if v12.1 = true then (some (false, ())) else (Option.bind ((Option.bind (laws_toProject (v12.2.2.1, ()) ()) fun v13 => (some v13.1)) : (Option D_Project)) fun v14 => (Option.bind ((Option.bind (laws_eqProject (v12.2.1, (v14, ())) ()) fun v15 => (some v15.1)) : (Option Bool)) fun v16 => (if (notB v16) = true then (some (false, ())) else (some (true, ())))))))))))))))
def H_laws_FnExactParseDelay : Hd := ⟨[.st [.int .i64, .sl 173 (.st [.str, .int .i64, .sl 263 (.st [.int .i64, .sl 3 (.int .i64), .sl 3 (.int .i64)])]), .sl 181 (.st [.int .i64, .int .i64, .bool, .int .i64]), .sl 177 (.st [.sl 266 (.st [.int .i64, .int .i64]), .sl 25 (.sl 3 (.int .i64))]), .sl 3 (.int .i64)], .str], [], none, .p, .bool, .p, []⟩
def T_laws_FnExactParseDelay : FSig := ⟨H_laws_FnExactParseDelay.ps, H_laws_FnExactParseDelay.cs, H_laws_FnExactParseDelay.io, H_laws_FnExactParseDelay.im, H_laws_FnExactParseDelay.R, H_laws_FnExactParseDelay.m, laws_FnExactParseDelay⟩
theorem E_laws_FnExactParseDelay : fnOf tys [(6, T_laws_szProject), (7, T_spec_ParseDelay), (8, T_laws_toProject), (9, T_impl_ParseDelay), (10, T_laws_eqDelay), (11, T_laws_eqProject)] Tryz.f3 H_laws_FnExactParseDelay = T_laws_FnExactParseDelay := by kernel_rfl
theorem K_laws_FnExactParseDelay : SigB base_ Tryz.prog 3 T_laws_FnExactParseDelay := (congrArg (SigB base_ Tryz.prog 3) E_laws_FnExactParseDelay).mp (fnOf_ok rfl tysOk ⟨K_laws_szProject, K_spec_ParseDelay, K_laws_toProject, K_impl_ParseDelay, K_laws_eqDelay, K_laws_eqProject, trivial⟩ Tryz.func3 (by decide) rfl (fun _ h => by cases h) (nilEq_of (by kernel_rfl)))
end Go.Proofs.YtbkefganebmlnaaGreatDoor
