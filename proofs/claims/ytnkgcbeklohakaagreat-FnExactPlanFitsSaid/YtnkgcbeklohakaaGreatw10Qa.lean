/-
  The functions of this seat as plain Lean functions, and that the program computes them. No condition.
-/
import Derived.Test.YtnkgcbeklohakaaGreatN36
import Derived.Test.YtnkgcbeklohakaaGreatProg
import Derived.KernelRfl
namespace Go.Proofs.YtnkgcbeklohakaaGreat
open Go.Abs
set_option linter.unusedVariables false
set_option maxRecDepth 100000
abbrev D_Mode : Type := (Int × ((List Int) × ((List Int) × Unit)))
abbrev D_Activity : Type := ((List UInt8) × (Int × ((List D_Mode) × Unit)))
abbrev D_Link : Type := (Int × (Int × (Bool × (Int × Unit))))
abbrev D_Step : Type := (Int × (Int × Unit))
abbrev D_Resource : Type := ((List D_Step) × ((List (List Int)) × Unit))
abbrev D_Project : Type := (Int × ((List D_Activity) × ((List D_Link) × ((List D_Resource) × ((List Int) × Unit)))))
abbrev D_Schedule : Type := ((List Int) × ((List Int) × Unit))
abbrev D_Plan : Type := (D_Schedule × ((List Int) × Unit))
abbrev D_Rule : Type := (Int × (Int × D_Step))
theorem tn3 : TnOk Tryz.prog 3 (.int .i64) := ⟨Tryz.underlying3, fun _ h => (by cases h), Tryz.t3, rfl, rfl, fun _ _ => rfl⟩
theorem tn4 : TnOk Tryz.prog 4 (.bool) := ⟨Tryz.underlying4, fun _ h => (by cases h), Tryz.t4, rfl, rfl, fun _ _ => rfl⟩
theorem tn5 : TnOk Tryz.prog 5 (.int .u8) := ⟨Tryz.underlying5, fun _ h => (by cases h), Tryz.t5, rfl, rfl, fun _ _ => rfl⟩
theorem tn9 : TnOk Tryz.prog 9 (.str) := ⟨Tryz.underlying9, fun _ h => (by cases h), Tryz.t9, rfl, rfl, fun _ _ => rfl⟩
theorem tn22 : TnOk Tryz.prog 22 (.sl 178 (.st [.str, .int .i64, .sl 269 (.st [.int .i64, .sl 3 (.int .i64), .sl 3 (.int .i64)])])) := ⟨⟨Tryz.underlying22, Tryz.t178, _, rfl, rfl, rfl, rfl, by decide, by decide, fun _ _ => rfl, fun k h => by cases h⟩, fun _ h => (by cases h), Tryz.t22, rfl, rfl, fun _ _ => rfl⟩
theorem tn23 : TnOk Tryz.prog 23 (.sl 194 (.st [.int .i64, .int .i64, .bool, .int .i64])) := ⟨⟨Tryz.underlying23, Tryz.t194, _, rfl, rfl, rfl, rfl, by decide, by decide, fun _ _ => rfl, fun k h => by cases h⟩, fun _ h => (by cases h), Tryz.t23, rfl, rfl, fun _ _ => rfl⟩
theorem tn24 : TnOk Tryz.prog 24 (.sl 182 (.st [.sl 272 (.st [.int .i64, .int .i64]), .sl 25 (.sl 3 (.int .i64))])) := ⟨⟨Tryz.underlying24, Tryz.t182, _, rfl, rfl, rfl, rfl, by decide, by decide, fun _ _ => rfl, fun k h => by cases h⟩, fun _ h => (by cases h), Tryz.t24, rfl, rfl, fun _ _ => rfl⟩
theorem tn25 : TnOk Tryz.prog 25 (.sl 3 (.int .i64)) := ⟨⟨Tryz.underlying25, Tryz.t3, _, rfl, rfl, rfl, rfl, by decide, by decide, fun _ _ => rfl, fun k h => by cases h; exact Tryz.underlying3⟩, fun _ h => (by cases h), Tryz.t25, rfl, rfl, fun _ _ => rfl⟩
theorem tn26 : TnOk Tryz.prog 26 (.st [.int .i64, .sl 178 (.st [.str, .int .i64, .sl 269 (.st [.int .i64, .sl 3 (.int .i64), .sl 3 (.int .i64)])]), .sl 194 (.st [.int .i64, .int .i64, .bool, .int .i64]), .sl 182 (.st [.sl 272 (.st [.int .i64, .int .i64]), .sl 25 (.sl 3 (.int .i64))]), .sl 3 (.int .i64)]) := ⟨⟨_, Tryz.underlying26, Tryz.eqGuardType26, Tryz.stoodInHeld26, rfl, fun j τ h => by
    cases j with
    | zero => cases h; exact ⟨_, _, rfl, rfl, by decide, by decide, Tryz.underlying3, rfl, fun us h => by cases h⟩
    | succ j =>
     cases j with
     | zero => cases h; exact ⟨_, _, rfl, rfl, by decide, by decide, Tryz.underlying22, rfl, fun us h => by cases h⟩
     | succ j =>
      cases j with
      | zero => cases h; exact ⟨_, _, rfl, rfl, by decide, by decide, Tryz.underlying23, rfl, fun us h => by cases h⟩
      | succ j =>
       cases j with
       | zero => cases h; exact ⟨_, _, rfl, rfl, by decide, by decide, Tryz.underlying24, rfl, fun us h => by cases h⟩
       | succ j =>
        cases j with
        | zero => cases h; exact ⟨_, _, rfl, rfl, by decide, by decide, Tryz.underlying25, rfl, fun us h => by cases h⟩
        | succ j =>
         cases h⟩, (fun us hus fs hfs j τ h f hf => by
    cases hus
    rw [Tryz.underlying26] at hfs
    cases hfs
    cases j with
    | zero => cases h; cases hf; exact ⟨fun k e => by cases e; exact Tryz.underlying3, fun e => (by cases e), fun e => (by cases e)⟩
    | succ j =>
     cases j with
     | zero => cases h; cases hf; exact ⟨fun k e => (by cases e), fun e => (by cases e), fun e => (by cases e)⟩
     | succ j =>
      cases j with
      | zero => cases h; cases hf; exact ⟨fun k e => (by cases e), fun e => (by cases e), fun e => (by cases e)⟩
      | succ j =>
       cases j with
       | zero => cases h; cases hf; exact ⟨fun k e => (by cases e), fun e => (by cases e), fun e => (by cases e)⟩
       | succ j =>
        cases j with
        | zero => cases h; cases hf; exact ⟨fun k e => (by cases e), fun e => (by cases e), fun e => (by cases e)⟩
        | succ j =>
         cases h), Tryz.t26, rfl, rfl, fun _ _ => rfl⟩
theorem tn27 : TnOk Tryz.prog 27 (.st [.int .i64, .sl 178 (.st [.str, .int .i64, .sl 269 (.st [.int .i64, .sl 3 (.int .i64), .sl 3 (.int .i64)])]), .sl 194 (.st [.int .i64, .int .i64, .bool, .int .i64]), .sl 182 (.st [.sl 272 (.st [.int .i64, .int .i64]), .sl 25 (.sl 3 (.int .i64))]), .sl 3 (.int .i64)]) := ⟨⟨_, Tryz.underlying27, Tryz.eqGuardType27, Tryz.stoodInHeld27, rfl, fun j τ h => by
    cases j with
    | zero => cases h; exact ⟨_, _, rfl, rfl, by decide, by decide, Tryz.underlying3, rfl, fun us h => by cases h⟩
    | succ j =>
     cases j with
     | zero => cases h; exact ⟨_, _, rfl, rfl, by decide, by decide, Tryz.underlying22, rfl, fun us h => by cases h⟩
     | succ j =>
      cases j with
      | zero => cases h; exact ⟨_, _, rfl, rfl, by decide, by decide, Tryz.underlying23, rfl, fun us h => by cases h⟩
      | succ j =>
       cases j with
       | zero => cases h; exact ⟨_, _, rfl, rfl, by decide, by decide, Tryz.underlying24, rfl, fun us h => by cases h⟩
       | succ j =>
        cases j with
        | zero => cases h; exact ⟨_, _, rfl, rfl, by decide, by decide, Tryz.underlying25, rfl, fun us h => by cases h⟩
        | succ j =>
         cases h⟩, (fun us hus fs hfs j τ h f hf => by
    cases hus
    rw [Tryz.underlying27] at hfs
    cases hfs
    cases j with
    | zero => cases h; cases hf; exact ⟨fun k e => by cases e; exact Tryz.underlying3, fun e => (by cases e), fun e => (by cases e)⟩
    | succ j =>
     cases j with
     | zero => cases h; cases hf; exact ⟨fun k e => (by cases e), fun e => (by cases e), fun e => (by cases e)⟩
     | succ j =>
      cases j with
      | zero => cases h; cases hf; exact ⟨fun k e => (by cases e), fun e => (by cases e), fun e => (by cases e)⟩
      | succ j =>
       cases j with
       | zero => cases h; cases hf; exact ⟨fun k e => (by cases e), fun e => (by cases e), fun e => (by cases e)⟩
       | succ j =>
        cases j with
        | zero => cases h; cases hf; exact ⟨fun k e => (by cases e), fun e => (by cases e), fun e => (by cases e)⟩
        | succ j =>
         cases h), Tryz.t27, rfl, rfl, fun _ _ => rfl⟩
theorem tn29 : TnOk Tryz.prog 29 (.fn [.st [.int .i64, .sl 178 (.st [.str, .int .i64, .sl 269 (.st [.int .i64, .sl 3 (.int .i64), .sl 3 (.int .i64)])]), .sl 194 (.st [.int .i64, .int .i64, .bool, .int .i64]), .sl 182 (.st [.sl 272 (.st [.int .i64, .int .i64]), .sl 25 (.sl 3 (.int .i64))]), .sl 3 (.int .i64)], .int .i64] (.int .i64)) := ⟨⟨_, _, _, Tryz.underlying29⟩, fun _ h => (by cases h), Tryz.t29, rfl, rfl, fun _ h => by cases h⟩
theorem tn31 : TnOk Tryz.prog 31 (.sl 25 (.sl 3 (.int .i64))) := ⟨⟨Tryz.underlying31, Tryz.t25, _, rfl, rfl, rfl, rfl, by decide, by decide, fun _ _ => rfl, fun k h => by cases h⟩, fun _ h => (by cases h), Tryz.t31, rfl, rfl, fun _ _ => rfl⟩
theorem tn35 : TnOk Tryz.prog 35 (.sl 165 (.st [.str, .int .i64, .sl 167 (.st [.int .i64, .sl 3 (.int .i64), .sl 3 (.int .i64)])])) := ⟨⟨Tryz.underlying35, Tryz.t165, _, rfl, rfl, rfl, rfl, by decide, by decide, fun _ _ => rfl, fun k h => by cases h⟩, fun _ h => (by cases h), Tryz.t35, rfl, rfl, fun _ _ => rfl⟩
theorem tn36 : TnOk Tryz.prog 36 (.sl 190 (.st [.int .i64, .int .i64, .bool, .int .i64])) := ⟨⟨Tryz.underlying36, Tryz.t190, _, rfl, rfl, rfl, rfl, by decide, by decide, fun _ _ => rfl, fun k h => by cases h⟩, fun _ h => (by cases h), Tryz.t36, rfl, rfl, fun _ _ => rfl⟩
theorem tn37 : TnOk Tryz.prog 37 (.sl 187 (.st [.sl 210 (.st [.int .i64, .int .i64]), .sl 25 (.sl 3 (.int .i64))])) := ⟨⟨Tryz.underlying37, Tryz.t187, _, rfl, rfl, rfl, rfl, by decide, by decide, fun _ _ => rfl, fun k h => by cases h⟩, fun _ h => (by cases h), Tryz.t37, rfl, rfl, fun _ _ => rfl⟩
theorem tn38 : TnOk Tryz.prog 38 (.st [.int .i64, .sl 165 (.st [.str, .int .i64, .sl 167 (.st [.int .i64, .sl 3 (.int .i64), .sl 3 (.int .i64)])]), .sl 190 (.st [.int .i64, .int .i64, .bool, .int .i64]), .sl 187 (.st [.sl 210 (.st [.int .i64, .int .i64]), .sl 25 (.sl 3 (.int .i64))]), .sl 3 (.int .i64)]) := ⟨⟨_, Tryz.underlying38, Tryz.eqGuardType38, Tryz.stoodInHeld38, rfl, fun j τ h => by
    cases j with
    | zero => cases h; exact ⟨_, _, rfl, rfl, by decide, by decide, Tryz.underlying3, rfl, fun us h => by cases h⟩
    | succ j =>
     cases j with
     | zero => cases h; exact ⟨_, _, rfl, rfl, by decide, by decide, Tryz.underlying35, rfl, fun us h => by cases h⟩
     | succ j =>
      cases j with
      | zero => cases h; exact ⟨_, _, rfl, rfl, by decide, by decide, Tryz.underlying36, rfl, fun us h => by cases h⟩
      | succ j =>
       cases j with
       | zero => cases h; exact ⟨_, _, rfl, rfl, by decide, by decide, Tryz.underlying37, rfl, fun us h => by cases h⟩
       | succ j =>
        cases j with
        | zero => cases h; exact ⟨_, _, rfl, rfl, by decide, by decide, Tryz.underlying25, rfl, fun us h => by cases h⟩
        | succ j =>
         cases h⟩, (fun us hus fs hfs j τ h f hf => by
    cases hus
    rw [Tryz.underlying38] at hfs
    cases hfs
    cases j with
    | zero => cases h; cases hf; exact ⟨fun k e => by cases e; exact Tryz.underlying3, fun e => (by cases e), fun e => (by cases e)⟩
    | succ j =>
     cases j with
     | zero => cases h; cases hf; exact ⟨fun k e => (by cases e), fun e => (by cases e), fun e => (by cases e)⟩
     | succ j =>
      cases j with
      | zero => cases h; cases hf; exact ⟨fun k e => (by cases e), fun e => (by cases e), fun e => (by cases e)⟩
      | succ j =>
       cases j with
       | zero => cases h; cases hf; exact ⟨fun k e => (by cases e), fun e => (by cases e), fun e => (by cases e)⟩
       | succ j =>
        cases j with
        | zero => cases h; cases hf; exact ⟨fun k e => (by cases e), fun e => (by cases e), fun e => (by cases e)⟩
        | succ j =>
         cases h), Tryz.t38, rfl, rfl, fun _ _ => rfl⟩
theorem tn39 : TnOk Tryz.prog 39 (.st [.int .i64, .sl 165 (.st [.str, .int .i64, .sl 167 (.st [.int .i64, .sl 3 (.int .i64), .sl 3 (.int .i64)])]), .sl 190 (.st [.int .i64, .int .i64, .bool, .int .i64]), .sl 187 (.st [.sl 210 (.st [.int .i64, .int .i64]), .sl 25 (.sl 3 (.int .i64))]), .sl 3 (.int .i64)]) := ⟨⟨_, Tryz.underlying39, Tryz.eqGuardType39, Tryz.stoodInHeld39, rfl, fun j τ h => by
    cases j with
    | zero => cases h; exact ⟨_, _, rfl, rfl, by decide, by decide, Tryz.underlying3, rfl, fun us h => by cases h⟩
    | succ j =>
     cases j with
     | zero => cases h; exact ⟨_, _, rfl, rfl, by decide, by decide, Tryz.underlying35, rfl, fun us h => by cases h⟩
     | succ j =>
      cases j with
      | zero => cases h; exact ⟨_, _, rfl, rfl, by decide, by decide, Tryz.underlying36, rfl, fun us h => by cases h⟩
      | succ j =>
       cases j with
       | zero => cases h; exact ⟨_, _, rfl, rfl, by decide, by decide, Tryz.underlying37, rfl, fun us h => by cases h⟩
       | succ j =>
        cases j with
        | zero => cases h; exact ⟨_, _, rfl, rfl, by decide, by decide, Tryz.underlying25, rfl, fun us h => by cases h⟩
        | succ j =>
         cases h⟩, (fun us hus fs hfs j τ h f hf => by
    cases hus
    rw [Tryz.underlying39] at hfs
    cases hfs
    cases j with
    | zero => cases h; cases hf; exact ⟨fun k e => by cases e; exact Tryz.underlying3, fun e => (by cases e), fun e => (by cases e)⟩
    | succ j =>
     cases j with
     | zero => cases h; cases hf; exact ⟨fun k e => (by cases e), fun e => (by cases e), fun e => (by cases e)⟩
     | succ j =>
      cases j with
      | zero => cases h; cases hf; exact ⟨fun k e => (by cases e), fun e => (by cases e), fun e => (by cases e)⟩
      | succ j =>
       cases j with
       | zero => cases h; cases hf; exact ⟨fun k e => (by cases e), fun e => (by cases e), fun e => (by cases e)⟩
       | succ j =>
        cases j with
        | zero => cases h; cases hf; exact ⟨fun k e => (by cases e), fun e => (by cases e), fun e => (by cases e)⟩
        | succ j =>
         cases h), Tryz.t39, rfl, rfl, fun _ _ => rfl⟩
theorem tn40 : TnOk Tryz.prog 40 (.fn [.st [.int .i64, .sl 178 (.st [.str, .int .i64, .sl 269 (.st [.int .i64, .sl 3 (.int .i64), .sl 3 (.int .i64)])]), .sl 194 (.st [.int .i64, .int .i64, .bool, .int .i64]), .sl 182 (.st [.sl 272 (.st [.int .i64, .int .i64]), .sl 25 (.sl 3 (.int .i64))]), .sl 3 (.int .i64)]] (.st [.int .i64, .sl 165 (.st [.str, .int .i64, .sl 167 (.st [.int .i64, .sl 3 (.int .i64), .sl 3 (.int .i64)])]), .sl 190 (.st [.int .i64, .int .i64, .bool, .int .i64]), .sl 187 (.st [.sl 210 (.st [.int .i64, .int .i64]), .sl 25 (.sl 3 (.int .i64))]), .sl 3 (.int .i64)])) := ⟨⟨_, _, _, Tryz.underlying40⟩, fun _ h => (by cases h), Tryz.t40, rfl, rfl, fun _ h => by cases h⟩
theorem tn44 : TnOk Tryz.prog 44 (.fn [.st [.int .i64, .sl 165 (.st [.str, .int .i64, .sl 167 (.st [.int .i64, .sl 3 (.int .i64), .sl 3 (.int .i64)])]), .sl 190 (.st [.int .i64, .int .i64, .bool, .int .i64]), .sl 187 (.st [.sl 210 (.st [.int .i64, .int .i64]), .sl 25 (.sl 3 (.int .i64))]), .sl 3 (.int .i64)], .st [.int .i64, .sl 165 (.st [.str, .int .i64, .sl 167 (.st [.int .i64, .sl 3 (.int .i64), .sl 3 (.int .i64)])]), .sl 190 (.st [.int .i64, .int .i64, .bool, .int .i64]), .sl 187 (.st [.sl 210 (.st [.int .i64, .int .i64]), .sl 25 (.sl 3 (.int .i64))]), .sl 3 (.int .i64)]] (.bool)) := ⟨⟨_, _, _, Tryz.underlying44⟩, fun _ h => (by cases h), Tryz.t44, rfl, rfl, fun _ h => by cases h⟩
theorem tn68 : TnOk Tryz.prog 68 (.st [.sl 3 (.int .i64), .sl 3 (.int .i64)]) := ⟨⟨_, Tryz.underlying68, Tryz.eqGuardType68, Tryz.stoodInHeld68, rfl, fun j τ h => by
    cases j with
    | zero => cases h; exact ⟨_, _, rfl, rfl, by decide, by decide, Tryz.underlying25, rfl, fun us h => by cases h⟩
    | succ j =>
     cases j with
     | zero => cases h; exact ⟨_, _, rfl, rfl, by decide, by decide, Tryz.underlying25, rfl, fun us h => by cases h⟩
     | succ j =>
      cases h⟩, (fun us hus fs hfs j τ h f hf => by
    cases hus
    rw [Tryz.underlying68] at hfs
    cases hfs
    cases j with
    | zero => cases h; cases hf; exact ⟨fun k e => (by cases e), fun e => (by cases e), fun e => (by cases e)⟩
    | succ j =>
     cases j with
     | zero => cases h; cases hf; exact ⟨fun k e => (by cases e), fun e => (by cases e), fun e => (by cases e)⟩
     | succ j =>
      cases h), Tryz.t68, rfl, rfl, fun _ _ => rfl⟩
theorem tn69 : TnOk Tryz.prog 69 (.st [.sl 3 (.int .i64), .sl 3 (.int .i64)]) := ⟨⟨_, Tryz.underlying69, Tryz.eqGuardType69, Tryz.stoodInHeld69, rfl, fun j τ h => by
    cases j with
    | zero => cases h; exact ⟨_, _, rfl, rfl, by decide, by decide, Tryz.underlying25, rfl, fun us h => by cases h⟩
    | succ j =>
     cases j with
     | zero => cases h; exact ⟨_, _, rfl, rfl, by decide, by decide, Tryz.underlying25, rfl, fun us h => by cases h⟩
     | succ j =>
      cases h⟩, (fun us hus fs hfs j τ h f hf => by
    cases hus
    rw [Tryz.underlying69] at hfs
    cases hfs
    cases j with
    | zero => cases h; cases hf; exact ⟨fun k e => (by cases e), fun e => (by cases e), fun e => (by cases e)⟩
    | succ j =>
     cases j with
     | zero => cases h; cases hf; exact ⟨fun k e => (by cases e), fun e => (by cases e), fun e => (by cases e)⟩
     | succ j =>
      cases h), Tryz.t69, rfl, rfl, fun _ _ => rfl⟩
theorem tn72 : TnOk Tryz.prog 72 (.fn [.st [.sl 3 (.int .i64), .sl 3 (.int .i64)], .st [.sl 3 (.int .i64), .sl 3 (.int .i64)]] (.bool)) := ⟨⟨_, _, _, Tryz.underlying72⟩, fun _ h => (by cases h), Tryz.t72, rfl, rfl, fun _ h => by cases h⟩
theorem tn73 : TnOk Tryz.prog 73 (.fn [.st [.sl 3 (.int .i64), .sl 3 (.int .i64)], .int .i64] (.int .i64)) := ⟨⟨_, _, _, Tryz.underlying73⟩, fun _ h => (by cases h), Tryz.t73, rfl, rfl, fun _ h => by cases h⟩
theorem tn83 : TnOk Tryz.prog 83 (.st [.sl 3 (.int .i64), .sl 3 (.int .i64)]) := ⟨⟨_, Tryz.underlying83, Tryz.eqGuardType83, Tryz.stoodInHeld83, rfl, fun j τ h => by
    cases j with
    | zero => cases h; exact ⟨_, _, rfl, rfl, by decide, by decide, Tryz.underlying25, rfl, fun us h => by cases h⟩
    | succ j =>
     cases j with
     | zero => cases h; exact ⟨_, _, rfl, rfl, by decide, by decide, Tryz.underlying25, rfl, fun us h => by cases h⟩
     | succ j =>
      cases h⟩, (fun us hus fs hfs j τ h f hf => by
    cases hus
    rw [Tryz.underlying83] at hfs
    cases hfs
    cases j with
    | zero => cases h; cases hf; exact ⟨fun k e => (by cases e), fun e => (by cases e), fun e => (by cases e)⟩
    | succ j =>
     cases j with
     | zero => cases h; cases hf; exact ⟨fun k e => (by cases e), fun e => (by cases e), fun e => (by cases e)⟩
     | succ j =>
      cases h), Tryz.t83, rfl, rfl, fun _ _ => rfl⟩
theorem tn84 : TnOk Tryz.prog 84 (.fn [.st [.sl 3 (.int .i64), .sl 3 (.int .i64)], .int .i64] (.int .i64)) := ⟨⟨_, _, _, Tryz.underlying84⟩, fun _ h => (by cases h), Tryz.t84, rfl, rfl, fun _ h => by cases h⟩
theorem tn86 : TnOk Tryz.prog 86 (.fn [.st [.sl 3 (.int .i64), .sl 3 (.int .i64)]] (.st [.sl 3 (.int .i64), .sl 3 (.int .i64)])) := ⟨⟨_, _, _, Tryz.underlying86⟩, fun _ h => (by cases h), Tryz.t86, rfl, rfl, fun _ h => by cases h⟩
theorem tn88 : TnOk Tryz.prog 88 (.st [.st [.sl 3 (.int .i64), .sl 3 (.int .i64)], .sl 3 (.int .i64)]) := ⟨⟨_, Tryz.underlying88, Tryz.eqGuardType88, Tryz.stoodInHeld88, rfl, fun j τ h => by
    cases j with
    | zero => cases h; exact ⟨_, _, rfl, rfl, by decide, by decide, Tryz.underlying83, rfl, ⟨_, rfl⟩⟩
    | succ j =>
     cases j with
     | zero => cases h; exact ⟨_, _, rfl, rfl, by decide, by decide, Tryz.underlying25, rfl, fun us h => by cases h⟩
     | succ j =>
      cases h⟩, (fun us hus fs hfs j τ h f hf => by
    cases hus
    rw [Tryz.underlying88] at hfs
    cases hfs
    cases j with
    | zero => cases h; cases hf; exact ⟨fun k e => (by cases e), fun e => (by cases e), fun e => (by cases e)⟩
    | succ j =>
     cases j with
     | zero => cases h; cases hf; exact ⟨fun k e => (by cases e), fun e => (by cases e), fun e => (by cases e)⟩
     | succ j =>
      cases h), Tryz.t88, rfl, rfl, fun _ _ => rfl⟩
theorem tn89 : TnOk Tryz.prog 89 (.st [.st [.sl 3 (.int .i64), .sl 3 (.int .i64)], .sl 3 (.int .i64)]) := ⟨⟨_, Tryz.underlying89, Tryz.eqGuardType89, Tryz.stoodInHeld89, rfl, fun j τ h => by
    cases j with
    | zero => cases h; exact ⟨_, _, rfl, rfl, by decide, by decide, Tryz.underlying83, rfl, ⟨_, rfl⟩⟩
    | succ j =>
     cases j with
     | zero => cases h; exact ⟨_, _, rfl, rfl, by decide, by decide, Tryz.underlying25, rfl, fun us h => by cases h⟩
     | succ j =>
      cases h⟩, (fun us hus fs hfs j τ h f hf => by
    cases hus
    rw [Tryz.underlying89] at hfs
    cases hfs
    cases j with
    | zero => cases h; cases hf; exact ⟨fun k e => (by cases e), fun e => (by cases e), fun e => (by cases e)⟩
    | succ j =>
     cases j with
     | zero => cases h; cases hf; exact ⟨fun k e => (by cases e), fun e => (by cases e), fun e => (by cases e)⟩
     | succ j =>
      cases h), Tryz.t89, rfl, rfl, fun _ _ => rfl⟩
theorem tn90 : TnOk Tryz.prog 90 (.fn [.st [.st [.sl 3 (.int .i64), .sl 3 (.int .i64)], .sl 3 (.int .i64)], .int .i64] (.int .i64)) := ⟨⟨_, _, _, Tryz.underlying90⟩, fun _ h => (by cases h), Tryz.t90, rfl, rfl, fun _ h => by cases h⟩
theorem tn91 : TnOk Tryz.prog 91 (.fn [.st [.int .i64, .sl 165 (.st [.str, .int .i64, .sl 167 (.st [.int .i64, .sl 3 (.int .i64), .sl 3 (.int .i64)])]), .sl 190 (.st [.int .i64, .int .i64, .bool, .int .i64]), .sl 187 (.st [.sl 210 (.st [.int .i64, .int .i64]), .sl 25 (.sl 3 (.int .i64))]), .sl 3 (.int .i64)], .st [.st [.sl 3 (.int .i64), .sl 3 (.int .i64)], .sl 3 (.int .i64)], .int .i64, .int .i64, .int .i64] (.bool)) := ⟨⟨_, _, _, Tryz.underlying91⟩, fun _ h => (by cases h), Tryz.t91, rfl, rfl, fun _ h => by cases h⟩
theorem tn92 : TnOk Tryz.prog 92 (.st [.st [.sl 3 (.int .i64), .sl 3 (.int .i64)], .sl 3 (.int .i64)]) := ⟨⟨_, Tryz.underlying92, Tryz.eqGuardType92, Tryz.stoodInHeld92, rfl, fun j τ h => by
    cases j with
    | zero => cases h; exact ⟨_, _, rfl, rfl, by decide, by decide, Tryz.underlying69, rfl, ⟨_, rfl⟩⟩
    | succ j =>
     cases j with
     | zero => cases h; exact ⟨_, _, rfl, rfl, by decide, by decide, Tryz.underlying25, rfl, fun us h => by cases h⟩
     | succ j =>
      cases h⟩, (fun us hus fs hfs j τ h f hf => by
    cases hus
    rw [Tryz.underlying92] at hfs
    cases hfs
    cases j with
    | zero => cases h; cases hf; exact ⟨fun k e => (by cases e), fun e => (by cases e), fun e => (by cases e)⟩
    | succ j =>
     cases j with
     | zero => cases h; cases hf; exact ⟨fun k e => (by cases e), fun e => (by cases e), fun e => (by cases e)⟩
     | succ j =>
      cases h), Tryz.t92, rfl, rfl, fun _ _ => rfl⟩
theorem tn93 : TnOk Tryz.prog 93 (.st [.st [.sl 3 (.int .i64), .sl 3 (.int .i64)], .sl 3 (.int .i64)]) := ⟨⟨_, Tryz.underlying93, Tryz.eqGuardType93, Tryz.stoodInHeld93, rfl, fun j τ h => by
    cases j with
    | zero => cases h; exact ⟨_, _, rfl, rfl, by decide, by decide, Tryz.underlying69, rfl, ⟨_, rfl⟩⟩
    | succ j =>
     cases j with
     | zero => cases h; exact ⟨_, _, rfl, rfl, by decide, by decide, Tryz.underlying25, rfl, fun us h => by cases h⟩
     | succ j =>
      cases h⟩, (fun us hus fs hfs j τ h f hf => by
    cases hus
    rw [Tryz.underlying93] at hfs
    cases hfs
    cases j with
    | zero => cases h; cases hf; exact ⟨fun k e => (by cases e), fun e => (by cases e), fun e => (by cases e)⟩
    | succ j =>
     cases j with
     | zero => cases h; cases hf; exact ⟨fun k e => (by cases e), fun e => (by cases e), fun e => (by cases e)⟩
     | succ j =>
      cases h), Tryz.t93, rfl, rfl, fun _ _ => rfl⟩
theorem tn94 : TnOk Tryz.prog 94 (.fn [.st [.st [.sl 3 (.int .i64), .sl 3 (.int .i64)], .sl 3 (.int .i64)]] (.st [.st [.sl 3 (.int .i64), .sl 3 (.int .i64)], .sl 3 (.int .i64)])) := ⟨⟨_, _, _, Tryz.underlying94⟩, fun _ h => (by cases h), Tryz.t94, rfl, rfl, fun _ h => by cases h⟩
theorem tn95 : TnOk Tryz.prog 95 (.fn [.st [.st [.sl 3 (.int .i64), .sl 3 (.int .i64)], .sl 3 (.int .i64)], .st [.st [.sl 3 (.int .i64), .sl 3 (.int .i64)], .sl 3 (.int .i64)]] (.bool)) := ⟨⟨_, _, _, Tryz.underlying95⟩, fun _ h => (by cases h), Tryz.t95, rfl, rfl, fun _ h => by cases h⟩
theorem tn96 : TnOk Tryz.prog 96 (.fn [.st [.int .i64, .sl 178 (.st [.str, .int .i64, .sl 269 (.st [.int .i64, .sl 3 (.int .i64), .sl 3 (.int .i64)])]), .sl 194 (.st [.int .i64, .int .i64, .bool, .int .i64]), .sl 182 (.st [.sl 272 (.st [.int .i64, .int .i64]), .sl 25 (.sl 3 (.int .i64))]), .sl 3 (.int .i64)], .st [.st [.sl 3 (.int .i64), .sl 3 (.int .i64)], .sl 3 (.int .i64)], .int .i64, .int .i64, .int .i64] (.bool)) := ⟨⟨_, _, _, Tryz.underlying96⟩, fun _ h => (by cases h), Tryz.t96, rfl, rfl, fun _ h => by cases h⟩
theorem tn99 : TnOk Tryz.prog 99 (.st [.int .i64, .int .i64, .int .i64, .int .i64]) := ⟨⟨_, Tryz.underlying99, Tryz.eqGuardType99, Tryz.stoodInHeld99, rfl, fun j τ h => by
    cases j with
    | zero => cases h; exact ⟨_, _, rfl, rfl, by decide, by decide, Tryz.underlying3, rfl, fun us h => by cases h⟩
    | succ j =>
     cases j with
     | zero => cases h; exact ⟨_, _, rfl, rfl, by decide, by decide, Tryz.underlying3, rfl, fun us h => by cases h⟩
     | succ j =>
      cases j with
      | zero => cases h; exact ⟨_, _, rfl, rfl, by decide, by decide, Tryz.underlying3, rfl, fun us h => by cases h⟩
      | succ j =>
       cases j with
       | zero => cases h; exact ⟨_, _, rfl, rfl, by decide, by decide, Tryz.underlying3, rfl, fun us h => by cases h⟩
       | succ j =>
        cases h⟩, (fun us hus fs hfs j τ h f hf => by
    cases hus
    rw [Tryz.underlying99] at hfs
    cases hfs
    cases j with
    | zero => cases h; cases hf; exact ⟨fun k e => by cases e; exact Tryz.underlying3, fun e => (by cases e), fun e => (by cases e)⟩
    | succ j =>
     cases j with
     | zero => cases h; cases hf; exact ⟨fun k e => by cases e; exact Tryz.underlying3, fun e => (by cases e), fun e => (by cases e)⟩
     | succ j =>
      cases j with
      | zero => cases h; cases hf; exact ⟨fun k e => by cases e; exact Tryz.underlying3, fun e => (by cases e), fun e => (by cases e)⟩
      | succ j =>
       cases j with
       | zero => cases h; cases hf; exact ⟨fun k e => by cases e; exact Tryz.underlying3, fun e => (by cases e), fun e => (by cases e)⟩
       | succ j =>
        cases h), Tryz.t99, rfl, rfl, fun _ _ => rfl⟩
theorem tn102 : TnOk Tryz.prog 102 (.st [.int .i64, .int .i64, .int .i64, .int .i64]) := ⟨⟨_, Tryz.underlying102, Tryz.eqGuardType102, Tryz.stoodInHeld102, rfl, fun j τ h => by
    cases j with
    | zero => cases h; exact ⟨_, _, rfl, rfl, by decide, by decide, Tryz.underlying3, rfl, fun us h => by cases h⟩
    | succ j =>
     cases j with
     | zero => cases h; exact ⟨_, _, rfl, rfl, by decide, by decide, Tryz.underlying3, rfl, fun us h => by cases h⟩
     | succ j =>
      cases j with
      | zero => cases h; exact ⟨_, _, rfl, rfl, by decide, by decide, Tryz.underlying3, rfl, fun us h => by cases h⟩
      | succ j =>
       cases j with
       | zero => cases h; exact ⟨_, _, rfl, rfl, by decide, by decide, Tryz.underlying3, rfl, fun us h => by cases h⟩
       | succ j =>
        cases h⟩, (fun us hus fs hfs j τ h f hf => by
    cases hus
    rw [Tryz.underlying102] at hfs
    cases hfs
    cases j with
    | zero => cases h; cases hf; exact ⟨fun k e => by cases e; exact Tryz.underlying3, fun e => (by cases e), fun e => (by cases e)⟩
    | succ j =>
     cases j with
     | zero => cases h; cases hf; exact ⟨fun k e => by cases e; exact Tryz.underlying3, fun e => (by cases e), fun e => (by cases e)⟩
     | succ j =>
      cases j with
      | zero => cases h; cases hf; exact ⟨fun k e => by cases e; exact Tryz.underlying3, fun e => (by cases e), fun e => (by cases e)⟩
      | succ j =>
       cases j with
       | zero => cases h; cases hf; exact ⟨fun k e => by cases e; exact Tryz.underlying3, fun e => (by cases e), fun e => (by cases e)⟩
       | succ j =>
        cases h), Tryz.t102, rfl, rfl, fun _ _ => rfl⟩
theorem tn108 : TnOk Tryz.prog 108 (.fn [.sl 178 (.st [.str, .int .i64, .sl 269 (.st [.int .i64, .sl 3 (.int .i64), .sl 3 (.int .i64)])]), .int .i64] (.int .i64)) := ⟨⟨_, _, _, Tryz.underlying108⟩, fun _ h => (by cases h), Tryz.t108, rfl, rfl, fun _ h => by cases h⟩
theorem tn109 : TnOk Tryz.prog 109 (.fn [.sl 194 (.st [.int .i64, .int .i64, .bool, .int .i64]), .int .i64] (.int .i64)) := ⟨⟨_, _, _, Tryz.underlying109⟩, fun _ h => (by cases h), Tryz.t109, rfl, rfl, fun _ h => by cases h⟩
theorem tn110 : TnOk Tryz.prog 110 (.fn [.sl 182 (.st [.sl 272 (.st [.int .i64, .int .i64]), .sl 25 (.sl 3 (.int .i64))]), .int .i64] (.int .i64)) := ⟨⟨_, _, _, Tryz.underlying110⟩, fun _ h => (by cases h), Tryz.t110, rfl, rfl, fun _ h => by cases h⟩
theorem tn111 : TnOk Tryz.prog 111 (.fn [.sl 3 (.int .i64), .int .i64] (.int .i64)) := ⟨⟨_, _, _, Tryz.underlying111⟩, fun _ h => (by cases h), Tryz.t111, rfl, rfl, fun _ h => by cases h⟩
theorem tn112 : TnOk Tryz.prog 112 (.fn [.st [.int .i64, .sl 165 (.st [.str, .int .i64, .sl 167 (.st [.int .i64, .sl 3 (.int .i64), .sl 3 (.int .i64)])]), .sl 190 (.st [.int .i64, .int .i64, .bool, .int .i64]), .sl 187 (.st [.sl 210 (.st [.int .i64, .int .i64]), .sl 25 (.sl 3 (.int .i64))]), .sl 3 (.int .i64)]] (.bool)) := ⟨⟨_, _, _, Tryz.underlying112⟩, fun _ h => (by cases h), Tryz.t112, rfl, rfl, fun _ h => by cases h⟩
theorem tn115 : TnOk Tryz.prog 115 (.fn [.sl 178 (.st [.str, .int .i64, .sl 269 (.st [.int .i64, .sl 3 (.int .i64), .sl 3 (.int .i64)])])] (.sl 165 (.st [.str, .int .i64, .sl 167 (.st [.int .i64, .sl 3 (.int .i64), .sl 3 (.int .i64)])]))) := ⟨⟨_, _, _, Tryz.underlying115⟩, fun _ h => (by cases h), Tryz.t115, rfl, rfl, fun _ h => by cases h⟩
theorem tn116 : TnOk Tryz.prog 116 (.fn [.sl 194 (.st [.int .i64, .int .i64, .bool, .int .i64])] (.sl 190 (.st [.int .i64, .int .i64, .bool, .int .i64]))) := ⟨⟨_, _, _, Tryz.underlying116⟩, fun _ h => (by cases h), Tryz.t116, rfl, rfl, fun _ h => by cases h⟩
theorem tn117 : TnOk Tryz.prog 117 (.fn [.sl 182 (.st [.sl 272 (.st [.int .i64, .int .i64]), .sl 25 (.sl 3 (.int .i64))])] (.sl 187 (.st [.sl 210 (.st [.int .i64, .int .i64]), .sl 25 (.sl 3 (.int .i64))]))) := ⟨⟨_, _, _, Tryz.underlying117⟩, fun _ h => (by cases h), Tryz.t117, rfl, rfl, fun _ h => by cases h⟩
theorem tn118 : TnOk Tryz.prog 118 (.fn [.sl 3 (.int .i64)] (.sl 3 (.int .i64))) := ⟨⟨_, _, _, Tryz.underlying118⟩, fun _ h => (by cases h), Tryz.t118, rfl, rfl, fun _ h => by cases h⟩
theorem tn125 : TnOk Tryz.prog 125 (.fn [.sl 3 (.int .i64), .sl 3 (.int .i64)] (.bool)) := ⟨⟨_, _, _, Tryz.underlying125⟩, fun _ h => (by cases h), Tryz.t125, rfl, rfl, fun _ h => by cases h⟩
theorem tn126 : TnOk Tryz.prog 126 (.fn [.sl 25 (.sl 3 (.int .i64)), .sl 25 (.sl 3 (.int .i64))] (.bool)) := ⟨⟨_, _, _, Tryz.underlying126⟩, fun _ h => (by cases h), Tryz.t126, rfl, rfl, fun _ h => by cases h⟩
theorem tn127 : TnOk Tryz.prog 127 (.fn [.sl 165 (.st [.str, .int .i64, .sl 167 (.st [.int .i64, .sl 3 (.int .i64), .sl 3 (.int .i64)])]), .sl 165 (.st [.str, .int .i64, .sl 167 (.st [.int .i64, .sl 3 (.int .i64), .sl 3 (.int .i64)])])] (.bool)) := ⟨⟨_, _, _, Tryz.underlying127⟩, fun _ h => (by cases h), Tryz.t127, rfl, rfl, fun _ h => by cases h⟩
theorem tn128 : TnOk Tryz.prog 128 (.fn [.sl 190 (.st [.int .i64, .int .i64, .bool, .int .i64]), .sl 190 (.st [.int .i64, .int .i64, .bool, .int .i64])] (.bool)) := ⟨⟨_, _, _, Tryz.underlying128⟩, fun _ h => (by cases h), Tryz.t128, rfl, rfl, fun _ h => by cases h⟩
theorem tn129 : TnOk Tryz.prog 129 (.fn [.sl 187 (.st [.sl 210 (.st [.int .i64, .int .i64]), .sl 25 (.sl 3 (.int .i64))]), .sl 187 (.st [.sl 210 (.st [.int .i64, .int .i64]), .sl 25 (.sl 3 (.int .i64))])] (.bool)) := ⟨⟨_, _, _, Tryz.underlying129⟩, fun _ h => (by cases h), Tryz.t129, rfl, rfl, fun _ h => by cases h⟩
theorem tn134 : TnOk Tryz.prog 134 (.fn [.sl 25 (.sl 3 (.int .i64)), .int .i64] (.int .i64)) := ⟨⟨_, _, _, Tryz.underlying134⟩, fun _ h => (by cases h), Tryz.t134, rfl, rfl, fun _ h => by cases h⟩
theorem tn136 : TnOk Tryz.prog 136 (.fn [.sl 25 (.sl 3 (.int .i64))] (.sl 25 (.sl 3 (.int .i64)))) := ⟨⟨_, _, _, Tryz.underlying136⟩, fun _ h => (by cases h), Tryz.t136, rfl, rfl, fun _ h => by cases h⟩
theorem tn141 : TnOk Tryz.prog 141 (.fn [.int .i64, .int .i64, .int .i64] (.bool)) := ⟨⟨_, _, _, Tryz.underlying141⟩, fun _ h => (by cases h), Tryz.t141, rfl, rfl, fun _ h => by cases h⟩
theorem tn144 : TnOk Tryz.prog 144 (.fn [.st [.int .i64, .sl 165 (.st [.str, .int .i64, .sl 167 (.st [.int .i64, .sl 3 (.int .i64), .sl 3 (.int .i64)])]), .sl 190 (.st [.int .i64, .int .i64, .bool, .int .i64]), .sl 187 (.st [.sl 210 (.st [.int .i64, .int .i64]), .sl 25 (.sl 3 (.int .i64))]), .sl 3 (.int .i64)], .st [.sl 3 (.int .i64), .sl 3 (.int .i64)]] (.bool)) := ⟨⟨_, _, _, Tryz.underlying144⟩, fun _ h => (by cases h), Tryz.t144, rfl, rfl, fun _ h => by cases h⟩
theorem tn145 : TnOk Tryz.prog 145 (.fn [.st [.sl 3 (.int .i64), .sl 3 (.int .i64)]] (.st [.sl 3 (.int .i64), .sl 3 (.int .i64)])) := ⟨⟨_, _, _, Tryz.underlying145⟩, fun _ h => (by cases h), Tryz.t145, rfl, rfl, fun _ h => by cases h⟩
theorem tn159 : TnOk Tryz.prog 159 (.fn [.st [.int .i64, .sl 165 (.st [.str, .int .i64, .sl 167 (.st [.int .i64, .sl 3 (.int .i64), .sl 3 (.int .i64)])]), .sl 190 (.st [.int .i64, .int .i64, .bool, .int .i64]), .sl 187 (.st [.sl 210 (.st [.int .i64, .int .i64]), .sl 25 (.sl 3 (.int .i64))]), .sl 3 (.int .i64)], .st [.st [.sl 3 (.int .i64), .sl 3 (.int .i64)], .sl 3 (.int .i64)], .int .i64, .int .i64] (.bool)) := ⟨⟨_, _, _, Tryz.underlying159⟩, fun _ h => (by cases h), Tryz.t159, rfl, rfl, fun _ h => by cases h⟩
theorem tn160 : TnOk Tryz.prog 160 (.fn [.st [.int .i64, .sl 165 (.st [.str, .int .i64, .sl 167 (.st [.int .i64, .sl 3 (.int .i64), .sl 3 (.int .i64)])]), .sl 190 (.st [.int .i64, .int .i64, .bool, .int .i64]), .sl 187 (.st [.sl 210 (.st [.int .i64, .int .i64]), .sl 25 (.sl 3 (.int .i64))]), .sl 3 (.int .i64)], .st [.st [.sl 3 (.int .i64), .sl 3 (.int .i64)], .sl 3 (.int .i64)]] (.bool)) := ⟨⟨_, _, _, Tryz.underlying160⟩, fun _ h => (by cases h), Tryz.t160, rfl, rfl, fun _ h => by cases h⟩
theorem tn161 : TnOk Tryz.prog 161 (.fn [.int .i64] (.bool)) := ⟨⟨_, _, _, Tryz.underlying161⟩, fun _ h => (by cases h), Tryz.t161, rfl, rfl, fun _ h => by cases h⟩
theorem tn162 : TnOk Tryz.prog 162 (.fn [.sl 3 (.int .i64), .int .i64] (.bool)) := ⟨⟨_, _, _, Tryz.underlying162⟩, fun _ h => (by cases h), Tryz.t162, rfl, rfl, fun _ h => by cases h⟩
theorem tn163 : TnOk Tryz.prog 163 (.sl 167 (.st [.int .i64, .sl 3 (.int .i64), .sl 3 (.int .i64)])) := ⟨⟨Tryz.underlying163, Tryz.t167, _, rfl, rfl, rfl, rfl, by decide, by decide, fun _ _ => rfl, fun k h => by cases h⟩, fun _ h => (by cases h), Tryz.t163, rfl, rfl, fun _ _ => rfl⟩
theorem tn164 : TnOk Tryz.prog 164 (.st [.str, .int .i64, .sl 167 (.st [.int .i64, .sl 3 (.int .i64), .sl 3 (.int .i64)])]) := ⟨⟨_, Tryz.underlying164, Tryz.eqGuardType164, Tryz.stoodInHeld164, rfl, fun j τ h => by
    cases j with
    | zero => cases h; exact ⟨_, _, rfl, rfl, by decide, by decide, Tryz.underlying9, rfl, fun us h => by cases h⟩
    | succ j =>
     cases j with
     | zero => cases h; exact ⟨_, _, rfl, rfl, by decide, by decide, Tryz.underlying3, rfl, fun us h => by cases h⟩
     | succ j =>
      cases j with
      | zero => cases h; exact ⟨_, _, rfl, rfl, by decide, by decide, Tryz.underlying163, rfl, fun us h => by cases h⟩
      | succ j =>
       cases h⟩, (fun us hus fs hfs j τ h f hf => by
    cases hus
    rw [Tryz.underlying164] at hfs
    cases hfs
    cases j with
    | zero => cases h; cases hf; exact ⟨fun k e => (by cases e), fun e => (by cases e), fun _ => Tryz.underlying9⟩
    | succ j =>
     cases j with
     | zero => cases h; cases hf; exact ⟨fun k e => by cases e; exact Tryz.underlying3, fun e => (by cases e), fun e => (by cases e)⟩
     | succ j =>
      cases j with
      | zero => cases h; cases hf; exact ⟨fun k e => (by cases e), fun e => (by cases e), fun e => (by cases e)⟩
      | succ j =>
       cases h), Tryz.t164, rfl, rfl, fun _ _ => rfl⟩
theorem tn165 : TnOk Tryz.prog 165 (.st [.str, .int .i64, .sl 167 (.st [.int .i64, .sl 3 (.int .i64), .sl 3 (.int .i64)])]) := ⟨⟨_, Tryz.underlying165, Tryz.eqGuardType165, Tryz.stoodInHeld165, rfl, fun j τ h => by
    cases j with
    | zero => cases h; exact ⟨_, _, rfl, rfl, by decide, by decide, Tryz.underlying9, rfl, fun us h => by cases h⟩
    | succ j =>
     cases j with
     | zero => cases h; exact ⟨_, _, rfl, rfl, by decide, by decide, Tryz.underlying3, rfl, fun us h => by cases h⟩
     | succ j =>
      cases j with
      | zero => cases h; exact ⟨_, _, rfl, rfl, by decide, by decide, Tryz.underlying163, rfl, fun us h => by cases h⟩
      | succ j =>
       cases h⟩, (fun us hus fs hfs j τ h f hf => by
    cases hus
    rw [Tryz.underlying165] at hfs
    cases hfs
    cases j with
    | zero => cases h; cases hf; exact ⟨fun k e => (by cases e), fun e => (by cases e), fun _ => Tryz.underlying9⟩
    | succ j =>
     cases j with
     | zero => cases h; cases hf; exact ⟨fun k e => by cases e; exact Tryz.underlying3, fun e => (by cases e), fun e => (by cases e)⟩
     | succ j =>
      cases j with
      | zero => cases h; cases hf; exact ⟨fun k e => (by cases e), fun e => (by cases e), fun e => (by cases e)⟩
      | succ j =>
       cases h), Tryz.t165, rfl, rfl, fun _ _ => rfl⟩
theorem tn166 : TnOk Tryz.prog 166 (.st [.int .i64, .sl 3 (.int .i64), .sl 3 (.int .i64)]) := ⟨⟨_, Tryz.underlying166, Tryz.eqGuardType166, Tryz.stoodInHeld166, rfl, fun j τ h => by
    cases j with
    | zero => cases h; exact ⟨_, _, rfl, rfl, by decide, by decide, Tryz.underlying3, rfl, fun us h => by cases h⟩
    | succ j =>
     cases j with
     | zero => cases h; exact ⟨_, _, rfl, rfl, by decide, by decide, Tryz.underlying25, rfl, fun us h => by cases h⟩
     | succ j =>
      cases j with
      | zero => cases h; exact ⟨_, _, rfl, rfl, by decide, by decide, Tryz.underlying25, rfl, fun us h => by cases h⟩
      | succ j =>
       cases h⟩, (fun us hus fs hfs j τ h f hf => by
    cases hus
    rw [Tryz.underlying166] at hfs
    cases hfs
    cases j with
    | zero => cases h; cases hf; exact ⟨fun k e => by cases e; exact Tryz.underlying3, fun e => (by cases e), fun e => (by cases e)⟩
    | succ j =>
     cases j with
     | zero => cases h; cases hf; exact ⟨fun k e => (by cases e), fun e => (by cases e), fun e => (by cases e)⟩
     | succ j =>
      cases j with
      | zero => cases h; cases hf; exact ⟨fun k e => (by cases e), fun e => (by cases e), fun e => (by cases e)⟩
      | succ j =>
       cases h), Tryz.t166, rfl, rfl, fun _ _ => rfl⟩
theorem tn167 : TnOk Tryz.prog 167 (.st [.int .i64, .sl 3 (.int .i64), .sl 3 (.int .i64)]) := ⟨⟨_, Tryz.underlying167, Tryz.eqGuardType167, Tryz.stoodInHeld167, rfl, fun j τ h => by
    cases j with
    | zero => cases h; exact ⟨_, _, rfl, rfl, by decide, by decide, Tryz.underlying3, rfl, fun us h => by cases h⟩
    | succ j =>
     cases j with
     | zero => cases h; exact ⟨_, _, rfl, rfl, by decide, by decide, Tryz.underlying25, rfl, fun us h => by cases h⟩
     | succ j =>
      cases j with
      | zero => cases h; exact ⟨_, _, rfl, rfl, by decide, by decide, Tryz.underlying25, rfl, fun us h => by cases h⟩
      | succ j =>
       cases h⟩, (fun us hus fs hfs j τ h f hf => by
    cases hus
    rw [Tryz.underlying167] at hfs
    cases hfs
    cases j with
    | zero => cases h; cases hf; exact ⟨fun k e => by cases e; exact Tryz.underlying3, fun e => (by cases e), fun e => (by cases e)⟩
    | succ j =>
     cases j with
     | zero => cases h; cases hf; exact ⟨fun k e => (by cases e), fun e => (by cases e), fun e => (by cases e)⟩
     | succ j =>
      cases j with
      | zero => cases h; cases hf; exact ⟨fun k e => (by cases e), fun e => (by cases e), fun e => (by cases e)⟩
      | succ j =>
       cases h), Tryz.t167, rfl, rfl, fun _ _ => rfl⟩
theorem tn168 : TnOk Tryz.prog 168 (.fn [.int .i64, .int .i64, .int .i64] (.st [.st [.sl 3 (.int .i64), .sl 3 (.int .i64)], .sl 3 (.int .i64)])) := ⟨⟨_, _, _, Tryz.underlying168⟩, fun _ h => (by cases h), Tryz.t168, rfl, rfl, fun _ h => by cases h⟩
theorem tn169 : TnOk Tryz.prog 169 (.fn [.st [.int .i64, .sl 165 (.st [.str, .int .i64, .sl 167 (.st [.int .i64, .sl 3 (.int .i64), .sl 3 (.int .i64)])]), .sl 190 (.st [.int .i64, .int .i64, .bool, .int .i64]), .sl 187 (.st [.sl 210 (.st [.int .i64, .int .i64]), .sl 25 (.sl 3 (.int .i64))]), .sl 3 (.int .i64)], .int .i64] (.bool)) := ⟨⟨_, _, _, Tryz.underlying169⟩, fun _ h => (by cases h), Tryz.t169, rfl, rfl, fun _ h => by cases h⟩
theorem tn173 : TnOk Tryz.prog 173 (.fn [.st [.st [.sl 3 (.int .i64), .sl 3 (.int .i64)], .sl 3 (.int .i64)]] (.st [.st [.sl 3 (.int .i64), .sl 3 (.int .i64)], .sl 3 (.int .i64)])) := ⟨⟨_, _, _, Tryz.underlying173⟩, fun _ h => (by cases h), Tryz.t173, rfl, rfl, fun _ h => by cases h⟩
theorem tn174 : TnOk Tryz.prog 174 (.fn [.sl 3 (.int .i64), .int .i64] (.sl 3 (.int .i64))) := ⟨⟨_, _, _, Tryz.underlying174⟩, fun _ h => (by cases h), Tryz.t174, rfl, rfl, fun _ h => by cases h⟩
theorem tn175 : TnOk Tryz.prog 175 (.fn [.st [.str, .int .i64, .sl 269 (.st [.int .i64, .sl 3 (.int .i64), .sl 3 (.int .i64)])], .int .i64] (.int .i64)) := ⟨⟨_, _, _, Tryz.underlying175⟩, fun _ h => (by cases h), Tryz.t175, rfl, rfl, fun _ h => by cases h⟩
theorem tn176 : TnOk Tryz.prog 176 (.sl 269 (.st [.int .i64, .sl 3 (.int .i64), .sl 3 (.int .i64)])) := ⟨⟨Tryz.underlying176, Tryz.t269, _, rfl, rfl, rfl, rfl, by decide, by decide, fun _ _ => rfl, fun k h => by cases h⟩, fun _ h => (by cases h), Tryz.t176, rfl, rfl, fun _ _ => rfl⟩
theorem tn177 : TnOk Tryz.prog 177 (.st [.str, .int .i64, .sl 269 (.st [.int .i64, .sl 3 (.int .i64), .sl 3 (.int .i64)])]) := ⟨⟨_, Tryz.underlying177, Tryz.eqGuardType177, Tryz.stoodInHeld177, rfl, fun j τ h => by
    cases j with
    | zero => cases h; exact ⟨_, _, rfl, rfl, by decide, by decide, Tryz.underlying9, rfl, fun us h => by cases h⟩
    | succ j =>
     cases j with
     | zero => cases h; exact ⟨_, _, rfl, rfl, by decide, by decide, Tryz.underlying3, rfl, fun us h => by cases h⟩
     | succ j =>
      cases j with
      | zero => cases h; exact ⟨_, _, rfl, rfl, by decide, by decide, Tryz.underlying176, rfl, fun us h => by cases h⟩
      | succ j =>
       cases h⟩, (fun us hus fs hfs j τ h f hf => by
    cases hus
    rw [Tryz.underlying177] at hfs
    cases hfs
    cases j with
    | zero => cases h; cases hf; exact ⟨fun k e => (by cases e), fun e => (by cases e), fun _ => Tryz.underlying9⟩
    | succ j =>
     cases j with
     | zero => cases h; cases hf; exact ⟨fun k e => by cases e; exact Tryz.underlying3, fun e => (by cases e), fun e => (by cases e)⟩
     | succ j =>
      cases j with
      | zero => cases h; cases hf; exact ⟨fun k e => (by cases e), fun e => (by cases e), fun e => (by cases e)⟩
      | succ j =>
       cases h), Tryz.t177, rfl, rfl, fun _ _ => rfl⟩
theorem tn178 : TnOk Tryz.prog 178 (.st [.str, .int .i64, .sl 269 (.st [.int .i64, .sl 3 (.int .i64), .sl 3 (.int .i64)])]) := ⟨⟨_, Tryz.underlying178, Tryz.eqGuardType178, Tryz.stoodInHeld178, rfl, fun j τ h => by
    cases j with
    | zero => cases h; exact ⟨_, _, rfl, rfl, by decide, by decide, Tryz.underlying9, rfl, fun us h => by cases h⟩
    | succ j =>
     cases j with
     | zero => cases h; exact ⟨_, _, rfl, rfl, by decide, by decide, Tryz.underlying3, rfl, fun us h => by cases h⟩
     | succ j =>
      cases j with
      | zero => cases h; exact ⟨_, _, rfl, rfl, by decide, by decide, Tryz.underlying176, rfl, fun us h => by cases h⟩
      | succ j =>
       cases h⟩, (fun us hus fs hfs j τ h f hf => by
    cases hus
    rw [Tryz.underlying178] at hfs
    cases hfs
    cases j with
    | zero => cases h; cases hf; exact ⟨fun k e => (by cases e), fun e => (by cases e), fun _ => Tryz.underlying9⟩
    | succ j =>
     cases j with
     | zero => cases h; cases hf; exact ⟨fun k e => by cases e; exact Tryz.underlying3, fun e => (by cases e), fun e => (by cases e)⟩
     | succ j =>
      cases j with
      | zero => cases h; cases hf; exact ⟨fun k e => (by cases e), fun e => (by cases e), fun e => (by cases e)⟩
      | succ j =>
       cases h), Tryz.t178, rfl, rfl, fun _ _ => rfl⟩
theorem tn179 : TnOk Tryz.prog 179 (.fn [.st [.sl 272 (.st [.int .i64, .int .i64]), .sl 25 (.sl 3 (.int .i64))], .int .i64] (.int .i64)) := ⟨⟨_, _, _, Tryz.underlying179⟩, fun _ h => (by cases h), Tryz.t179, rfl, rfl, fun _ h => by cases h⟩
theorem tn180 : TnOk Tryz.prog 180 (.sl 272 (.st [.int .i64, .int .i64])) := ⟨⟨Tryz.underlying180, Tryz.t272, _, rfl, rfl, rfl, rfl, by decide, by decide, fun _ _ => rfl, fun k h => by cases h⟩, fun _ h => (by cases h), Tryz.t180, rfl, rfl, fun _ _ => rfl⟩
theorem tn181 : TnOk Tryz.prog 181 (.st [.sl 272 (.st [.int .i64, .int .i64]), .sl 25 (.sl 3 (.int .i64))]) := ⟨⟨_, Tryz.underlying181, Tryz.eqGuardType181, Tryz.stoodInHeld181, rfl, fun j τ h => by
    cases j with
    | zero => cases h; exact ⟨_, _, rfl, rfl, by decide, by decide, Tryz.underlying180, rfl, fun us h => by cases h⟩
    | succ j =>
     cases j with
     | zero => cases h; exact ⟨_, _, rfl, rfl, by decide, by decide, Tryz.underlying31, rfl, fun us h => by cases h⟩
     | succ j =>
      cases h⟩, (fun us hus fs hfs j τ h f hf => by
    cases hus
    rw [Tryz.underlying181] at hfs
    cases hfs
    cases j with
    | zero => cases h; cases hf; exact ⟨fun k e => (by cases e), fun e => (by cases e), fun e => (by cases e)⟩
    | succ j =>
     cases j with
     | zero => cases h; cases hf; exact ⟨fun k e => (by cases e), fun e => (by cases e), fun e => (by cases e)⟩
     | succ j =>
      cases h), Tryz.t181, rfl, rfl, fun _ _ => rfl⟩
theorem tn182 : TnOk Tryz.prog 182 (.st [.sl 272 (.st [.int .i64, .int .i64]), .sl 25 (.sl 3 (.int .i64))]) := ⟨⟨_, Tryz.underlying182, Tryz.eqGuardType182, Tryz.stoodInHeld182, rfl, fun j τ h => by
    cases j with
    | zero => cases h; exact ⟨_, _, rfl, rfl, by decide, by decide, Tryz.underlying180, rfl, fun us h => by cases h⟩
    | succ j =>
     cases j with
     | zero => cases h; exact ⟨_, _, rfl, rfl, by decide, by decide, Tryz.underlying31, rfl, fun us h => by cases h⟩
     | succ j =>
      cases h⟩, (fun us hus fs hfs j τ h f hf => by
    cases hus
    rw [Tryz.underlying182] at hfs
    cases hfs
    cases j with
    | zero => cases h; cases hf; exact ⟨fun k e => (by cases e), fun e => (by cases e), fun e => (by cases e)⟩
    | succ j =>
     cases j with
     | zero => cases h; cases hf; exact ⟨fun k e => (by cases e), fun e => (by cases e), fun e => (by cases e)⟩
     | succ j =>
      cases h), Tryz.t182, rfl, rfl, fun _ _ => rfl⟩
theorem tn183 : TnOk Tryz.prog 183 (.fn [.st [.str, .int .i64, .sl 167 (.st [.int .i64, .sl 3 (.int .i64), .sl 3 (.int .i64)])], .int .i64, .int .i64] (.bool)) := ⟨⟨_, _, _, Tryz.underlying183⟩, fun _ h => (by cases h), Tryz.t183, rfl, rfl, fun _ h => by cases h⟩
theorem tn184 : TnOk Tryz.prog 184 (.fn [.st [.int .i64, .sl 165 (.st [.str, .int .i64, .sl 167 (.st [.int .i64, .sl 3 (.int .i64), .sl 3 (.int .i64)])]), .sl 190 (.st [.int .i64, .int .i64, .bool, .int .i64]), .sl 187 (.st [.sl 210 (.st [.int .i64, .int .i64]), .sl 25 (.sl 3 (.int .i64))]), .sl 3 (.int .i64)], .str] (.int .i64)) := ⟨⟨_, _, _, Tryz.underlying184⟩, fun _ h => (by cases h), Tryz.t184, rfl, rfl, fun _ h => by cases h⟩
theorem tn185 : TnOk Tryz.prog 185 (.sl 210 (.st [.int .i64, .int .i64])) := ⟨⟨Tryz.underlying185, Tryz.t210, _, rfl, rfl, rfl, rfl, by decide, by decide, fun _ _ => rfl, fun k h => by cases h⟩, fun _ h => (by cases h), Tryz.t185, rfl, rfl, fun _ _ => rfl⟩
theorem tn186 : TnOk Tryz.prog 186 (.st [.sl 210 (.st [.int .i64, .int .i64]), .sl 25 (.sl 3 (.int .i64))]) := ⟨⟨_, Tryz.underlying186, Tryz.eqGuardType186, Tryz.stoodInHeld186, rfl, fun j τ h => by
    cases j with
    | zero => cases h; exact ⟨_, _, rfl, rfl, by decide, by decide, Tryz.underlying185, rfl, fun us h => by cases h⟩
    | succ j =>
     cases j with
     | zero => cases h; exact ⟨_, _, rfl, rfl, by decide, by decide, Tryz.underlying31, rfl, fun us h => by cases h⟩
     | succ j =>
      cases h⟩, (fun us hus fs hfs j τ h f hf => by
    cases hus
    rw [Tryz.underlying186] at hfs
    cases hfs
    cases j with
    | zero => cases h; cases hf; exact ⟨fun k e => (by cases e), fun e => (by cases e), fun e => (by cases e)⟩
    | succ j =>
     cases j with
     | zero => cases h; cases hf; exact ⟨fun k e => (by cases e), fun e => (by cases e), fun e => (by cases e)⟩
     | succ j =>
      cases h), Tryz.t186, rfl, rfl, fun _ _ => rfl⟩
theorem tn187 : TnOk Tryz.prog 187 (.st [.sl 210 (.st [.int .i64, .int .i64]), .sl 25 (.sl 3 (.int .i64))]) := ⟨⟨_, Tryz.underlying187, Tryz.eqGuardType187, Tryz.stoodInHeld187, rfl, fun j τ h => by
    cases j with
    | zero => cases h; exact ⟨_, _, rfl, rfl, by decide, by decide, Tryz.underlying185, rfl, fun us h => by cases h⟩
    | succ j =>
     cases j with
     | zero => cases h; exact ⟨_, _, rfl, rfl, by decide, by decide, Tryz.underlying31, rfl, fun us h => by cases h⟩
     | succ j =>
      cases h⟩, (fun us hus fs hfs j τ h f hf => by
    cases hus
    rw [Tryz.underlying187] at hfs
    cases hfs
    cases j with
    | zero => cases h; cases hf; exact ⟨fun k e => (by cases e), fun e => (by cases e), fun e => (by cases e)⟩
    | succ j =>
     cases j with
     | zero => cases h; cases hf; exact ⟨fun k e => (by cases e), fun e => (by cases e), fun e => (by cases e)⟩
     | succ j =>
      cases h), Tryz.t187, rfl, rfl, fun _ _ => rfl⟩
theorem tn188 : TnOk Tryz.prog 188 (.fn [.st [.sl 210 (.st [.int .i64, .int .i64]), .sl 25 (.sl 3 (.int .i64))]] (.bool)) := ⟨⟨_, _, _, Tryz.underlying188⟩, fun _ h => (by cases h), Tryz.t188, rfl, rfl, fun _ h => by cases h⟩
theorem tn189 : TnOk Tryz.prog 189 (.st [.int .i64, .int .i64, .bool, .int .i64]) := ⟨⟨_, Tryz.underlying189, Tryz.eqGuardType189, Tryz.stoodInHeld189, rfl, fun j τ h => by
    cases j with
    | zero => cases h; exact ⟨_, _, rfl, rfl, by decide, by decide, Tryz.underlying3, rfl, fun us h => by cases h⟩
    | succ j =>
     cases j with
     | zero => cases h; exact ⟨_, _, rfl, rfl, by decide, by decide, Tryz.underlying3, rfl, fun us h => by cases h⟩
     | succ j =>
      cases j with
      | zero => cases h; exact ⟨_, _, rfl, rfl, by decide, by decide, Tryz.underlying4, rfl, fun us h => by cases h⟩
      | succ j =>
       cases j with
       | zero => cases h; exact ⟨_, _, rfl, rfl, by decide, by decide, Tryz.underlying3, rfl, fun us h => by cases h⟩
       | succ j =>
        cases h⟩, (fun us hus fs hfs j τ h f hf => by
    cases hus
    rw [Tryz.underlying189] at hfs
    cases hfs
    cases j with
    | zero => cases h; cases hf; exact ⟨fun k e => by cases e; exact Tryz.underlying3, fun e => (by cases e), fun e => (by cases e)⟩
    | succ j =>
     cases j with
     | zero => cases h; cases hf; exact ⟨fun k e => by cases e; exact Tryz.underlying3, fun e => (by cases e), fun e => (by cases e)⟩
     | succ j =>
      cases j with
      | zero => cases h; cases hf; exact ⟨fun k e => (by cases e), fun _ => Tryz.underlying4, fun e => (by cases e)⟩
      | succ j =>
       cases j with
       | zero => cases h; cases hf; exact ⟨fun k e => by cases e; exact Tryz.underlying3, fun e => (by cases e), fun e => (by cases e)⟩
       | succ j =>
        cases h), Tryz.t189, rfl, rfl, fun _ _ => rfl⟩
theorem tn190 : TnOk Tryz.prog 190 (.st [.int .i64, .int .i64, .bool, .int .i64]) := ⟨⟨_, Tryz.underlying190, Tryz.eqGuardType190, Tryz.stoodInHeld190, rfl, fun j τ h => by
    cases j with
    | zero => cases h; exact ⟨_, _, rfl, rfl, by decide, by decide, Tryz.underlying3, rfl, fun us h => by cases h⟩
    | succ j =>
     cases j with
     | zero => cases h; exact ⟨_, _, rfl, rfl, by decide, by decide, Tryz.underlying3, rfl, fun us h => by cases h⟩
     | succ j =>
      cases j with
      | zero => cases h; exact ⟨_, _, rfl, rfl, by decide, by decide, Tryz.underlying4, rfl, fun us h => by cases h⟩
      | succ j =>
       cases j with
       | zero => cases h; exact ⟨_, _, rfl, rfl, by decide, by decide, Tryz.underlying3, rfl, fun us h => by cases h⟩
       | succ j =>
        cases h⟩, (fun us hus fs hfs j τ h f hf => by
    cases hus
    rw [Tryz.underlying190] at hfs
    cases hfs
    cases j with
    | zero => cases h; cases hf; exact ⟨fun k e => by cases e; exact Tryz.underlying3, fun e => (by cases e), fun e => (by cases e)⟩
    | succ j =>
     cases j with
     | zero => cases h; cases hf; exact ⟨fun k e => by cases e; exact Tryz.underlying3, fun e => (by cases e), fun e => (by cases e)⟩
     | succ j =>
      cases j with
      | zero => cases h; cases hf; exact ⟨fun k e => (by cases e), fun _ => Tryz.underlying4, fun e => (by cases e)⟩
      | succ j =>
       cases j with
       | zero => cases h; cases hf; exact ⟨fun k e => by cases e; exact Tryz.underlying3, fun e => (by cases e), fun e => (by cases e)⟩
       | succ j =>
        cases h), Tryz.t190, rfl, rfl, fun _ _ => rfl⟩
theorem tn192 : TnOk Tryz.prog 192 (.fn [.st [.str, .int .i64, .sl 269 (.st [.int .i64, .sl 3 (.int .i64), .sl 3 (.int .i64)])]] (.st [.str, .int .i64, .sl 167 (.st [.int .i64, .sl 3 (.int .i64), .sl 3 (.int .i64)])])) := ⟨⟨_, _, _, Tryz.underlying192⟩, fun _ h => (by cases h), Tryz.t192, rfl, rfl, fun _ h => by cases h⟩
theorem tn193 : TnOk Tryz.prog 193 (.fn [.st [.int .i64, .int .i64, .bool, .int .i64]] (.st [.int .i64, .int .i64, .bool, .int .i64])) := ⟨⟨_, _, _, Tryz.underlying193⟩, fun _ h => (by cases h), Tryz.t193, rfl, rfl, fun _ h => by cases h⟩
theorem tn194 : TnOk Tryz.prog 194 (.st [.int .i64, .int .i64, .bool, .int .i64]) := ⟨⟨_, Tryz.underlying194, Tryz.eqGuardType194, Tryz.stoodInHeld194, rfl, fun j τ h => by
    cases j with
    | zero => cases h; exact ⟨_, _, rfl, rfl, by decide, by decide, Tryz.underlying3, rfl, fun us h => by cases h⟩
    | succ j =>
     cases j with
     | zero => cases h; exact ⟨_, _, rfl, rfl, by decide, by decide, Tryz.underlying3, rfl, fun us h => by cases h⟩
     | succ j =>
      cases j with
      | zero => cases h; exact ⟨_, _, rfl, rfl, by decide, by decide, Tryz.underlying4, rfl, fun us h => by cases h⟩
      | succ j =>
       cases j with
       | zero => cases h; exact ⟨_, _, rfl, rfl, by decide, by decide, Tryz.underlying3, rfl, fun us h => by cases h⟩
       | succ j =>
        cases h⟩, (fun us hus fs hfs j τ h f hf => by
    cases hus
    rw [Tryz.underlying194] at hfs
    cases hfs
    cases j with
    | zero => cases h; cases hf; exact ⟨fun k e => by cases e; exact Tryz.underlying3, fun e => (by cases e), fun e => (by cases e)⟩
    | succ j =>
     cases j with
     | zero => cases h; cases hf; exact ⟨fun k e => by cases e; exact Tryz.underlying3, fun e => (by cases e), fun e => (by cases e)⟩
     | succ j =>
      cases j with
      | zero => cases h; cases hf; exact ⟨fun k e => (by cases e), fun _ => Tryz.underlying4, fun e => (by cases e)⟩
      | succ j =>
       cases j with
       | zero => cases h; cases hf; exact ⟨fun k e => by cases e; exact Tryz.underlying3, fun e => (by cases e), fun e => (by cases e)⟩
       | succ j =>
        cases h), Tryz.t194, rfl, rfl, fun _ _ => rfl⟩
theorem tn195 : TnOk Tryz.prog 195 (.fn [.st [.sl 272 (.st [.int .i64, .int .i64]), .sl 25 (.sl 3 (.int .i64))]] (.st [.sl 210 (.st [.int .i64, .int .i64]), .sl 25 (.sl 3 (.int .i64))])) := ⟨⟨_, _, _, Tryz.underlying195⟩, fun _ h => (by cases h), Tryz.t195, rfl, rfl, fun _ h => by cases h⟩
theorem tn198 : TnOk Tryz.prog 198 (.fn [.st [.str, .int .i64, .sl 167 (.st [.int .i64, .sl 3 (.int .i64), .sl 3 (.int .i64)])], .st [.str, .int .i64, .sl 167 (.st [.int .i64, .sl 3 (.int .i64), .sl 3 (.int .i64)])]] (.bool)) := ⟨⟨_, _, _, Tryz.underlying198⟩, fun _ h => (by cases h), Tryz.t198, rfl, rfl, fun _ h => by cases h⟩
theorem tn199 : TnOk Tryz.prog 199 (.fn [.st [.int .i64, .int .i64, .bool, .int .i64], .st [.int .i64, .int .i64, .bool, .int .i64]] (.bool)) := ⟨⟨_, _, _, Tryz.underlying199⟩, fun _ h => (by cases h), Tryz.t199, rfl, rfl, fun _ h => by cases h⟩
theorem tn200 : TnOk Tryz.prog 200 (.fn [.st [.sl 210 (.st [.int .i64, .int .i64]), .sl 25 (.sl 3 (.int .i64))], .st [.sl 210 (.st [.int .i64, .int .i64]), .sl 25 (.sl 3 (.int .i64))]] (.bool)) := ⟨⟨_, _, _, Tryz.underlying200⟩, fun _ h => (by cases h), Tryz.t200, rfl, rfl, fun _ h => by cases h⟩
theorem tn203 : TnOk Tryz.prog 203 (.fn [.sl 210 (.st [.int .i64, .int .i64]), .int .i64] (.int .i64)) := ⟨⟨_, _, _, Tryz.underlying203⟩, fun _ h => (by cases h), Tryz.t203, rfl, rfl, fun _ h => by cases h⟩
theorem tn205 : TnOk Tryz.prog 205 (.fn [.sl 190 (.st [.int .i64, .int .i64, .bool, .int .i64]), .fn [.st [.int .i64, .int .i64, .bool, .int .i64]] (.bool)] (.bool)) := ⟨⟨_, _, _, Tryz.underlying205⟩, fun _ h => (by cases h), Tryz.t205, rfl, rfl, fun _ h => by cases h⟩
theorem tn206 : TnOk Tryz.prog 206 (.fn [.st [.int .i64, .int .i64, .bool, .int .i64]] (.bool)) := ⟨⟨_, _, _, Tryz.underlying206⟩, fun _ h => (by cases h), Tryz.t206, rfl, rfl, fun _ h => by cases h⟩
theorem tn209 : TnOk Tryz.prog 209 (.st [.int .i64, .int .i64]) := ⟨⟨_, Tryz.underlying209, Tryz.eqGuardType209, Tryz.stoodInHeld209, rfl, fun j τ h => by
    cases j with
    | zero => cases h; exact ⟨_, _, rfl, rfl, by decide, by decide, Tryz.underlying3, rfl, fun us h => by cases h⟩
    | succ j =>
     cases j with
     | zero => cases h; exact ⟨_, _, rfl, rfl, by decide, by decide, Tryz.underlying3, rfl, fun us h => by cases h⟩
     | succ j =>
      cases h⟩, (fun us hus fs hfs j τ h f hf => by
    cases hus
    rw [Tryz.underlying209] at hfs
    cases hfs
    cases j with
    | zero => cases h; cases hf; exact ⟨fun k e => by cases e; exact Tryz.underlying3, fun e => (by cases e), fun e => (by cases e)⟩
    | succ j =>
     cases j with
     | zero => cases h; cases hf; exact ⟨fun k e => by cases e; exact Tryz.underlying3, fun e => (by cases e), fun e => (by cases e)⟩
     | succ j =>
      cases h), Tryz.t209, rfl, rfl, fun _ _ => rfl⟩
theorem tn210 : TnOk Tryz.prog 210 (.st [.int .i64, .int .i64]) := ⟨⟨_, Tryz.underlying210, Tryz.eqGuardType210, Tryz.stoodInHeld210, rfl, fun j τ h => by
    cases j with
    | zero => cases h; exact ⟨_, _, rfl, rfl, by decide, by decide, Tryz.underlying3, rfl, fun us h => by cases h⟩
    | succ j =>
     cases j with
     | zero => cases h; exact ⟨_, _, rfl, rfl, by decide, by decide, Tryz.underlying3, rfl, fun us h => by cases h⟩
     | succ j =>
      cases h⟩, (fun us hus fs hfs j τ h f hf => by
    cases hus
    rw [Tryz.underlying210] at hfs
    cases hfs
    cases j with
    | zero => cases h; cases hf; exact ⟨fun k e => by cases e; exact Tryz.underlying3, fun e => (by cases e), fun e => (by cases e)⟩
    | succ j =>
     cases j with
     | zero => cases h; cases hf; exact ⟨fun k e => by cases e; exact Tryz.underlying3, fun e => (by cases e), fun e => (by cases e)⟩
     | succ j =>
      cases h), Tryz.t210, rfl, rfl, fun _ _ => rfl⟩
theorem tn214 : TnOk Tryz.prog 214 (.fn [.st [.int .i64, .sl 165 (.st [.str, .int .i64, .sl 167 (.st [.int .i64, .sl 3 (.int .i64), .sl 3 (.int .i64)])]), .sl 190 (.st [.int .i64, .int .i64, .bool, .int .i64]), .sl 187 (.st [.sl 210 (.st [.int .i64, .int .i64]), .sl 25 (.sl 3 (.int .i64))]), .sl 3 (.int .i64)], .st [.sl 3 (.int .i64), .sl 3 (.int .i64)], .st [.int .i64, .int .i64, .int .i64, .int .i64]] (.bool)) := ⟨⟨_, _, _, Tryz.underlying214⟩, fun _ h => (by cases h), Tryz.t214, rfl, rfl, fun _ h => by cases h⟩
theorem tn215 : TnOk Tryz.prog 215 (.fn [.st [.int .i64, .sl 165 (.st [.str, .int .i64, .sl 167 (.st [.int .i64, .sl 3 (.int .i64), .sl 3 (.int .i64)])]), .sl 190 (.st [.int .i64, .int .i64, .bool, .int .i64]), .sl 187 (.st [.sl 210 (.st [.int .i64, .int .i64]), .sl 25 (.sl 3 (.int .i64))]), .sl 3 (.int .i64)], .st [.sl 3 (.int .i64), .sl 3 (.int .i64)], .int .i64] (.int .i64)) := ⟨⟨_, _, _, Tryz.underlying215⟩, fun _ h => (by cases h), Tryz.t215, rfl, rfl, fun _ h => by cases h⟩
theorem tn218 : TnOk Tryz.prog 218 (.fn [.sl 3 (.int .i64)] (.bool)) := ⟨⟨_, _, _, Tryz.underlying218⟩, fun _ h => (by cases h), Tryz.t218, rfl, rfl, fun _ h => by cases h⟩
theorem tn224 : TnOk Tryz.prog 224 (.fn [.st [.int .i64, .sl 165 (.st [.str, .int .i64, .sl 167 (.st [.int .i64, .sl 3 (.int .i64), .sl 3 (.int .i64)])]), .sl 190 (.st [.int .i64, .int .i64, .bool, .int .i64]), .sl 187 (.st [.sl 210 (.st [.int .i64, .int .i64]), .sl 25 (.sl 3 (.int .i64))]), .sl 3 (.int .i64)], .st [.st [.sl 3 (.int .i64), .sl 3 (.int .i64)], .sl 3 (.int .i64)], .int .i64] (.bool)) := ⟨⟨_, _, _, Tryz.underlying224⟩, fun _ h => (by cases h), Tryz.t224, rfl, rfl, fun _ h => by cases h⟩
theorem tn225 : TnOk Tryz.prog 225 (.fn [.int .i64] (.sl 3 (.int .i64))) := ⟨⟨_, _, _, Tryz.underlying225⟩, fun _ h => (by cases h), Tryz.t225, rfl, rfl, fun _ h => by cases h⟩
theorem tn226 : TnOk Tryz.prog 226 (.fn [] (.st [.st [.sl 3 (.int .i64), .sl 3 (.int .i64)], .sl 3 (.int .i64)])) := ⟨⟨_, _, _, Tryz.underlying226⟩, fun _ h => (by cases h), Tryz.t226, rfl, rfl, fun _ h => by cases h⟩
theorem tn227 : TnOk Tryz.prog 227 (.fn [.st [.sl 3 (.int .i64), .sl 3 (.int .i64)], .st [.int .i64, .int .i64, .bool, .int .i64]] (.bool)) := ⟨⟨_, _, _, Tryz.underlying227⟩, fun _ h => (by cases h), Tryz.t227, rfl, rfl, fun _ h => by cases h⟩
theorem tn228 : TnOk Tryz.prog 228 (.fn [.st [.sl 3 (.int .i64), .sl 3 (.int .i64)], .int .i64] (.st [.int .i64, .sl 3 (.int .i64), .sl 3 (.int .i64)])) := ⟨⟨_, _, _, Tryz.underlying228⟩, fun _ h => (by cases h), Tryz.t228, rfl, rfl, fun _ h => by cases h⟩
theorem tn229 : TnOk Tryz.prog 229 (.fn [.st [.sl 3 (.int .i64), .sl 3 (.int .i64)], .int .i64, .int .i64, .int .i64] (.bool)) := ⟨⟨_, _, _, Tryz.underlying229⟩, fun _ h => (by cases h), Tryz.t229, rfl, rfl, fun _ h => by cases h⟩
theorem tn236 : TnOk Tryz.prog 236 (.fn [.sl 269 (.st [.int .i64, .sl 3 (.int .i64), .sl 3 (.int .i64)]), .int .i64] (.int .i64)) := ⟨⟨_, _, _, Tryz.underlying236⟩, fun _ h => (by cases h), Tryz.t236, rfl, rfl, fun _ h => by cases h⟩
theorem tn237 : TnOk Tryz.prog 237 (.fn [.sl 272 (.st [.int .i64, .int .i64]), .int .i64] (.int .i64)) := ⟨⟨_, _, _, Tryz.underlying237⟩, fun _ h => (by cases h), Tryz.t237, rfl, rfl, fun _ h => by cases h⟩
theorem tn238 : TnOk Tryz.prog 238 (.fn [.st [.int .i64, .sl 3 (.int .i64), .sl 3 (.int .i64)], .int .i64, .int .i64] (.bool)) := ⟨⟨_, _, _, Tryz.underlying238⟩, fun _ h => (by cases h), Tryz.t238, rfl, rfl, fun _ h => by cases h⟩
theorem tn239 : TnOk Tryz.prog 239 (.fn [.str] (.bool)) := ⟨⟨_, _, _, Tryz.underlying239⟩, fun _ h => (by cases h), Tryz.t239, rfl, rfl, fun _ h => by cases h⟩
theorem tn240 : TnOk Tryz.prog 240 (.fn [.sl 210 (.st [.int .i64, .int .i64])] (.bool)) := ⟨⟨_, _, _, Tryz.underlying240⟩, fun _ h => (by cases h), Tryz.t240, rfl, rfl, fun _ h => by cases h⟩
theorem tn241 : TnOk Tryz.prog 241 (.fn [.sl 269 (.st [.int .i64, .sl 3 (.int .i64), .sl 3 (.int .i64)])] (.sl 167 (.st [.int .i64, .sl 3 (.int .i64), .sl 3 (.int .i64)]))) := ⟨⟨_, _, _, Tryz.underlying241⟩, fun _ h => (by cases h), Tryz.t241, rfl, rfl, fun _ h => by cases h⟩
theorem tn242 : TnOk Tryz.prog 242 (.fn [.sl 272 (.st [.int .i64, .int .i64])] (.sl 210 (.st [.int .i64, .int .i64]))) := ⟨⟨_, _, _, Tryz.underlying242⟩, fun _ h => (by cases h), Tryz.t242, rfl, rfl, fun _ h => by cases h⟩
theorem tn243 : TnOk Tryz.prog 243 (.fn [.sl 167 (.st [.int .i64, .sl 3 (.int .i64), .sl 3 (.int .i64)]), .sl 167 (.st [.int .i64, .sl 3 (.int .i64), .sl 3 (.int .i64)])] (.bool)) := ⟨⟨_, _, _, Tryz.underlying243⟩, fun _ h => (by cases h), Tryz.t243, rfl, rfl, fun _ h => by cases h⟩
theorem tn244 : TnOk Tryz.prog 244 (.fn [.sl 210 (.st [.int .i64, .int .i64]), .sl 210 (.st [.int .i64, .int .i64])] (.bool)) := ⟨⟨_, _, _, Tryz.underlying244⟩, fun _ h => (by cases h), Tryz.t244, rfl, rfl, fun _ h => by cases h⟩
theorem tn246 : TnOk Tryz.prog 246 (.fn [.sl 165 (.st [.str, .int .i64, .sl 167 (.st [.int .i64, .sl 3 (.int .i64), .sl 3 (.int .i64)])]), .fn [.st [.str, .int .i64, .sl 167 (.st [.int .i64, .sl 3 (.int .i64), .sl 3 (.int .i64)])]] (.bool)] (.int .i64)) := ⟨⟨_, _, _, Tryz.underlying246⟩, fun _ h => (by cases h), Tryz.t246, rfl, rfl, fun _ h => by cases h⟩
theorem tn247 : TnOk Tryz.prog 247 (.fn [.st [.str, .int .i64, .sl 167 (.st [.int .i64, .sl 3 (.int .i64), .sl 3 (.int .i64)])]] (.bool)) := ⟨⟨_, _, _, Tryz.underlying247⟩, fun _ h => (by cases h), Tryz.t247, rfl, rfl, fun _ h => by cases h⟩
theorem tn248 : TnOk Tryz.prog 248 (.fn [.sl 190 (.st [.int .i64, .int .i64, .bool, .int .i64]), .fn [.st [.int .i64, .int .i64, .bool, .int .i64]] (.bool)] (.int .i64)) := ⟨⟨_, _, _, Tryz.underlying248⟩, fun _ h => (by cases h), Tryz.t248, rfl, rfl, fun _ h => by cases h⟩
theorem tn250 : TnOk Tryz.prog 250 (.fn [.st [.int .i64, .sl 165 (.st [.str, .int .i64, .sl 167 (.st [.int .i64, .sl 3 (.int .i64), .sl 3 (.int .i64)])]), .sl 190 (.st [.int .i64, .int .i64, .bool, .int .i64]), .sl 187 (.st [.sl 210 (.st [.int .i64, .int .i64]), .sl 25 (.sl 3 (.int .i64))]), .sl 3 (.int .i64)], .st [.sl 3 (.int .i64), .sl 3 (.int .i64)], .int .i64, .int .i64] (.int .i64)) := ⟨⟨_, _, _, Tryz.underlying250⟩, fun _ h => (by cases h), Tryz.t250, rfl, rfl, fun _ h => by cases h⟩
theorem tn251 : TnOk Tryz.prog 251 (.fn [.sl 210 (.st [.int .i64, .int .i64]), .int .i64, .int .i64] (.int .i64)) := ⟨⟨_, _, _, Tryz.underlying251⟩, fun _ h => (by cases h), Tryz.t251, rfl, rfl, fun _ h => by cases h⟩
theorem tn252 : TnOk Tryz.prog 252 (.fn [.st [.int .i64, .sl 165 (.st [.str, .int .i64, .sl 167 (.st [.int .i64, .sl 3 (.int .i64), .sl 3 (.int .i64)])]), .sl 190 (.st [.int .i64, .int .i64, .bool, .int .i64]), .sl 187 (.st [.sl 210 (.st [.int .i64, .int .i64]), .sl 25 (.sl 3 (.int .i64))]), .sl 3 (.int .i64)], .st [.sl 3 (.int .i64), .sl 3 (.int .i64)], .int .i64] (.st [.int .i64, .sl 3 (.int .i64), .sl 3 (.int .i64)])) := ⟨⟨_, _, _, Tryz.underlying252⟩, fun _ h => (by cases h), Tryz.t252, rfl, rfl, fun _ h => by cases h⟩
theorem tn259 : TnOk Tryz.prog 259 (.fn [.st [.int .i64, .sl 165 (.st [.str, .int .i64, .sl 167 (.st [.int .i64, .sl 3 (.int .i64), .sl 3 (.int .i64)])]), .sl 190 (.st [.int .i64, .int .i64, .bool, .int .i64]), .sl 187 (.st [.sl 210 (.st [.int .i64, .int .i64]), .sl 25 (.sl 3 (.int .i64))]), .sl 3 (.int .i64)], .int .i64, .int .i64, .int .i64] (.int .i64)) := ⟨⟨_, _, _, Tryz.underlying259⟩, fun _ h => (by cases h), Tryz.t259, rfl, rfl, fun _ h => by cases h⟩
theorem tn268 : TnOk Tryz.prog 268 (.fn [.st [.int .i64, .sl 3 (.int .i64), .sl 3 (.int .i64)], .int .i64] (.int .i64)) := ⟨⟨_, _, _, Tryz.underlying268⟩, fun _ h => (by cases h), Tryz.t268, rfl, rfl, fun _ h => by cases h⟩
theorem tn269 : TnOk Tryz.prog 269 (.st [.int .i64, .sl 3 (.int .i64), .sl 3 (.int .i64)]) := ⟨⟨_, Tryz.underlying269, Tryz.eqGuardType269, Tryz.stoodInHeld269, rfl, fun j τ h => by
    cases j with
    | zero => cases h; exact ⟨_, _, rfl, rfl, by decide, by decide, Tryz.underlying3, rfl, fun us h => by cases h⟩
    | succ j =>
     cases j with
     | zero => cases h; exact ⟨_, _, rfl, rfl, by decide, by decide, Tryz.underlying25, rfl, fun us h => by cases h⟩
     | succ j =>
      cases j with
      | zero => cases h; exact ⟨_, _, rfl, rfl, by decide, by decide, Tryz.underlying25, rfl, fun us h => by cases h⟩
      | succ j =>
       cases h⟩, (fun us hus fs hfs j τ h f hf => by
    cases hus
    rw [Tryz.underlying269] at hfs
    cases hfs
    cases j with
    | zero => cases h; cases hf; exact ⟨fun k e => by cases e; exact Tryz.underlying3, fun e => (by cases e), fun e => (by cases e)⟩
    | succ j =>
     cases j with
     | zero => cases h; cases hf; exact ⟨fun k e => (by cases e), fun e => (by cases e), fun e => (by cases e)⟩
     | succ j =>
      cases j with
      | zero => cases h; cases hf; exact ⟨fun k e => (by cases e), fun e => (by cases e), fun e => (by cases e)⟩
      | succ j =>
       cases h), Tryz.t269, rfl, rfl, fun _ _ => rfl⟩
theorem tn270 : TnOk Tryz.prog 270 (.fn [.st [.int .i64, .sl 3 (.int .i64), .sl 3 (.int .i64)]] (.st [.int .i64, .sl 3 (.int .i64), .sl 3 (.int .i64)])) := ⟨⟨_, _, _, Tryz.underlying270⟩, fun _ h => (by cases h), Tryz.t270, rfl, rfl, fun _ h => by cases h⟩
theorem tn271 : TnOk Tryz.prog 271 (.fn [.st [.int .i64, .int .i64]] (.st [.int .i64, .int .i64])) := ⟨⟨_, _, _, Tryz.underlying271⟩, fun _ h => (by cases h), Tryz.t271, rfl, rfl, fun _ h => by cases h⟩
theorem tn272 : TnOk Tryz.prog 272 (.st [.int .i64, .int .i64]) := ⟨⟨_, Tryz.underlying272, Tryz.eqGuardType272, Tryz.stoodInHeld272, rfl, fun j τ h => by
    cases j with
    | zero => cases h; exact ⟨_, _, rfl, rfl, by decide, by decide, Tryz.underlying3, rfl, fun us h => by cases h⟩
    | succ j =>
     cases j with
     | zero => cases h; exact ⟨_, _, rfl, rfl, by decide, by decide, Tryz.underlying3, rfl, fun us h => by cases h⟩
     | succ j =>
      cases h⟩, (fun us hus fs hfs j τ h f hf => by
    cases hus
    rw [Tryz.underlying272] at hfs
    cases hfs
    cases j with
    | zero => cases h; cases hf; exact ⟨fun k e => by cases e; exact Tryz.underlying3, fun e => (by cases e), fun e => (by cases e)⟩
    | succ j =>
     cases j with
     | zero => cases h; cases hf; exact ⟨fun k e => by cases e; exact Tryz.underlying3, fun e => (by cases e), fun e => (by cases e)⟩
     | succ j =>
      cases h), Tryz.t272, rfl, rfl, fun _ _ => rfl⟩
theorem tn273 : TnOk Tryz.prog 273 (.fn [.st [.int .i64, .sl 3 (.int .i64), .sl 3 (.int .i64)], .st [.int .i64, .sl 3 (.int .i64), .sl 3 (.int .i64)]] (.bool)) := ⟨⟨_, _, _, Tryz.underlying273⟩, fun _ h => (by cases h), Tryz.t273, rfl, rfl, fun _ h => by cases h⟩
theorem tn274 : TnOk Tryz.prog 274 (.fn [.st [.int .i64, .int .i64], .st [.int .i64, .int .i64]] (.bool)) := ⟨⟨_, _, _, Tryz.underlying274⟩, fun _ h => (by cases h), Tryz.t274, rfl, rfl, fun _ h => by cases h⟩
theorem tn275 : TnOk Tryz.prog 275 (.fn [.sl 210 (.st [.int .i64, .int .i64]), .int .i64, .int .i64] (.bool)) := ⟨⟨_, _, _, Tryz.underlying275⟩, fun _ h => (by cases h), Tryz.t275, rfl, rfl, fun _ h => by cases h⟩
theorem tn276 : TnOk Tryz.prog 276 (.fn [.st [.int .i64, .sl 165 (.st [.str, .int .i64, .sl 167 (.st [.int .i64, .sl 3 (.int .i64), .sl 3 (.int .i64)])]), .sl 190 (.st [.int .i64, .int .i64, .bool, .int .i64]), .sl 187 (.st [.sl 210 (.st [.int .i64, .int .i64]), .sl 25 (.sl 3 (.int .i64))]), .sl 3 (.int .i64)], .st [.sl 3 (.int .i64), .sl 3 (.int .i64)], .int .i64, .int .i64, .int .i64] (.bool)) := ⟨⟨_, _, _, Tryz.underlying276⟩, fun _ h => (by cases h), Tryz.t276, rfl, rfl, fun _ h => by cases h⟩
theorem tn281 : TnOk Tryz.prog 281 (.fn [.sl 3 (.int .i64)] (.tup [])) := ⟨⟨_, _, _, Tryz.underlying281⟩, fun _ h => (by cases h), Tryz.t281, rfl, rfl, fun _ h => by cases h⟩
theorem tn290 : TnOk Tryz.prog 290 (.int .u64) := ⟨Tryz.underlying290, fun _ h => (by cases h), Tryz.t290, rfl, rfl, fun _ _ => rfl⟩
theorem tn291 : TnOk Tryz.prog 291 (.fn [.sl 3 (.int .i64), .int .i64, .int .i64, .int .i64] (.tup [])) := ⟨⟨_, _, _, Tryz.underlying291⟩, fun _ h => (by cases h), Tryz.t291, rfl, rfl, fun _ h => by cases h⟩
theorem tn292 : TnOk Tryz.prog 292 (.fn [.int .u64] (.int .i64)) := ⟨⟨_, _, _, Tryz.underlying292⟩, fun _ h => (by cases h), Tryz.t292, rfl, rfl, fun _ h => by cases h⟩
theorem tn295 : TnOk Tryz.prog 295 (.fn [.sl 3 (.int .i64), .int .i64, .int .i64] (.tup [])) := ⟨⟨_, _, _, Tryz.underlying295⟩, fun _ h => (by cases h), Tryz.t295, rfl, rfl, fun _ h => by cases h⟩
theorem tn296 : TnOk Tryz.prog 296 (.int .i64) := ⟨Tryz.underlying296, fun _ h => (by cases h), Tryz.t296, rfl, rfl, fun _ _ => rfl⟩
theorem tn298 : TnOk Tryz.prog 298 (.fn [.sl 3 (.int .i64), .int .i64, .int .i64] (.tup [.int .i64, .int .i64])) := ⟨⟨_, _, _, Tryz.underlying298⟩, fun _ h => (by cases h), Tryz.t298, rfl, rfl, fun _ h => by cases h⟩
theorem tn299 : TnOk Tryz.prog 299 (.fn [.sl 3 (.int .i64), .int .i64, .int .i64] (.bool)) := ⟨⟨_, _, _, Tryz.underlying299⟩, fun _ h => (by cases h), Tryz.t299, rfl, rfl, fun _ h => by cases h⟩
theorem tn300 : TnOk Tryz.prog 300 (.fn [.int .i64, .int .i64] (.bool)) := ⟨⟨_, _, _, Tryz.underlying300⟩, fun _ h => (by cases h), Tryz.t300, rfl, rfl, fun _ h => by cases h⟩
theorem tn301 : TnOk Tryz.prog 301 (.fn [.sl 3 (.int .i64), .int .i64, .int .i64, .int .i64] (.int .i64)) := ⟨⟨_, _, _, Tryz.underlying301⟩, fun _ h => (by cases h), Tryz.t301, rfl, rfl, fun _ h => by cases h⟩
theorem tn302 : TnOk Tryz.prog 302 (.fn [.sl 3 (.int .i64), .int .i64, .int .i64, .int .i64] (.tup [.int .i64, .bool])) := ⟨⟨_, _, _, Tryz.underlying302⟩, fun _ h => (by cases h), Tryz.t302, rfl, rfl, fun _ h => by cases h⟩
theorem tn303 : TnOk Tryz.prog 303 (.fn [.int .u32] (.int .i64)) := ⟨⟨_, _, _, Tryz.underlying303⟩, fun _ h => (by cases h), Tryz.t303, rfl, rfl, fun _ h => by cases h⟩
theorem tn304 : TnOk Tryz.prog 304 (.int .u32) := ⟨Tryz.underlying304, fun _ h => (by cases h), Tryz.t304, rfl, rfl, fun _ _ => rfl⟩
theorem tn305 : TnOk Tryz.prog 305 (.fn [.int .u64] (.int .i64)) := ⟨⟨_, _, _, Tryz.underlying305⟩, fun _ h => (by cases h), Tryz.t305, rfl, rfl, fun _ h => by cases h⟩
theorem tn306 : TnOk Tryz.prog 306 (.int .u64) := ⟨Tryz.underlying306, fun _ h => (by cases h), Tryz.t306, rfl, rfl, fun _ _ => rfl⟩
theorem tn307 : TnOk Tryz.prog 307 (.int .u64) := ⟨Tryz.underlying307, fun _ h => (by cases h), Tryz.t307, rfl, rfl, fun _ _ => rfl⟩
def tys : List (Nat × Ty) := [(3, .int .i64), (4, .bool), (5, .int .u8), (9, .str), (22, .sl 178 (.st [.str, .int .i64, .sl 269 (.st [.int .i64, .sl 3 (.int .i64), .sl 3 (.int .i64)])])), (23, .sl 194 (.st [.int .i64, .int .i64, .bool, .int .i64])), (24, .sl 182 (.st [.sl 272 (.st [.int .i64, .int .i64]), .sl 25 (.sl 3 (.int .i64))])), (25, .sl 3 (.int .i64)), (26, .st [.int .i64, .sl 178 (.st [.str, .int .i64, .sl 269 (.st [.int .i64, .sl 3 (.int .i64), .sl 3 (.int .i64)])]), .sl 194 (.st [.int .i64, .int .i64, .bool, .int .i64]), .sl 182 (.st [.sl 272 (.st [.int .i64, .int .i64]), .sl 25 (.sl 3 (.int .i64))]), .sl 3 (.int .i64)]), (27, .st [.int .i64, .sl 178 (.st [.str, .int .i64, .sl 269 (.st [.int .i64, .sl 3 (.int .i64), .sl 3 (.int .i64)])]), .sl 194 (.st [.int .i64, .int .i64, .bool, .int .i64]), .sl 182 (.st [.sl 272 (.st [.int .i64, .int .i64]), .sl 25 (.sl 3 (.int .i64))]), .sl 3 (.int .i64)]), (29, .fn [.st [.int .i64, .sl 178 (.st [.str, .int .i64, .sl 269 (.st [.int .i64, .sl 3 (.int .i64), .sl 3 (.int .i64)])]), .sl 194 (.st [.int .i64, .int .i64, .bool, .int .i64]), .sl 182 (.st [.sl 272 (.st [.int .i64, .int .i64]), .sl 25 (.sl 3 (.int .i64))]), .sl 3 (.int .i64)], .int .i64] (.int .i64)), (31, .sl 25 (.sl 3 (.int .i64))), (35, .sl 165 (.st [.str, .int .i64, .sl 167 (.st [.int .i64, .sl 3 (.int .i64), .sl 3 (.int .i64)])])), (36, .sl 190 (.st [.int .i64, .int .i64, .bool, .int .i64])), (37, .sl 187 (.st [.sl 210 (.st [.int .i64, .int .i64]), .sl 25 (.sl 3 (.int .i64))])), (38, .st [.int .i64, .sl 165 (.st [.str, .int .i64, .sl 167 (.st [.int .i64, .sl 3 (.int .i64), .sl 3 (.int .i64)])]), .sl 190 (.st [.int .i64, .int .i64, .bool, .int .i64]), .sl 187 (.st [.sl 210 (.st [.int .i64, .int .i64]), .sl 25 (.sl 3 (.int .i64))]), .sl 3 (.int .i64)]), (39, .st [.int .i64, .sl 165 (.st [.str, .int .i64, .sl 167 (.st [.int .i64, .sl 3 (.int .i64), .sl 3 (.int .i64)])]), .sl 190 (.st [.int .i64, .int .i64, .bool, .int .i64]), .sl 187 (.st [.sl 210 (.st [.int .i64, .int .i64]), .sl 25 (.sl 3 (.int .i64))]), .sl 3 (.int .i64)]), (40, .fn [.st [.int .i64, .sl 178 (.st [.str, .int .i64, .sl 269 (.st [.int .i64, .sl 3 (.int .i64), .sl 3 (.int .i64)])]), .sl 194 (.st [.int .i64, .int .i64, .bool, .int .i64]), .sl 182 (.st [.sl 272 (.st [.int .i64, .int .i64]), .sl 25 (.sl 3 (.int .i64))]), .sl 3 (.int .i64)]] (.st [.int .i64, .sl 165 (.st [.str, .int .i64, .sl 167 (.st [.int .i64, .sl 3 (.int .i64), .sl 3 (.int .i64)])]), .sl 190 (.st [.int .i64, .int .i64, .bool, .int .i64]), .sl 187 (.st [.sl 210 (.st [.int .i64, .int .i64]), .sl 25 (.sl 3 (.int .i64))]), .sl 3 (.int .i64)])), (44, .fn [.st [.int .i64, .sl 165 (.st [.str, .int .i64, .sl 167 (.st [.int .i64, .sl 3 (.int .i64), .sl 3 (.int .i64)])]), .sl 190 (.st [.int .i64, .int .i64, .bool, .int .i64]), .sl 187 (.st [.sl 210 (.st [.int .i64, .int .i64]), .sl 25 (.sl 3 (.int .i64))]), .sl 3 (.int .i64)], .st [.int .i64, .sl 165 (.st [.str, .int .i64, .sl 167 (.st [.int .i64, .sl 3 (.int .i64), .sl 3 (.int .i64)])]), .sl 190 (.st [.int .i64, .int .i64, .bool, .int .i64]), .sl 187 (.st [.sl 210 (.st [.int .i64, .int .i64]), .sl 25 (.sl 3 (.int .i64))]), .sl 3 (.int .i64)]] (.bool)), (68, .st [.sl 3 (.int .i64), .sl 3 (.int .i64)]), (69, .st [.sl 3 (.int .i64), .sl 3 (.int .i64)]), (72, .fn [.st [.sl 3 (.int .i64), .sl 3 (.int .i64)], .st [.sl 3 (.int .i64), .sl 3 (.int .i64)]] (.bool)), (73, .fn [.st [.sl 3 (.int .i64), .sl 3 (.int .i64)], .int .i64] (.int .i64)), (83, .st [.sl 3 (.int .i64), .sl 3 (.int .i64)]), (84, .fn [.st [.sl 3 (.int .i64), .sl 3 (.int .i64)], .int .i64] (.int .i64)), (86, .fn [.st [.sl 3 (.int .i64), .sl 3 (.int .i64)]] (.st [.sl 3 (.int .i64), .sl 3 (.int .i64)])), (88, .st [.st [.sl 3 (.int .i64), .sl 3 (.int .i64)], .sl 3 (.int .i64)]), (89, .st [.st [.sl 3 (.int .i64), .sl 3 (.int .i64)], .sl 3 (.int .i64)]), (90, .fn [.st [.st [.sl 3 (.int .i64), .sl 3 (.int .i64)], .sl 3 (.int .i64)], .int .i64] (.int .i64)), (91, .fn [.st [.int .i64, .sl 165 (.st [.str, .int .i64, .sl 167 (.st [.int .i64, .sl 3 (.int .i64), .sl 3 (.int .i64)])]), .sl 190 (.st [.int .i64, .int .i64, .bool, .int .i64]), .sl 187 (.st [.sl 210 (.st [.int .i64, .int .i64]), .sl 25 (.sl 3 (.int .i64))]), .sl 3 (.int .i64)], .st [.st [.sl 3 (.int .i64), .sl 3 (.int .i64)], .sl 3 (.int .i64)], .int .i64, .int .i64, .int .i64] (.bool)), (92, .st [.st [.sl 3 (.int .i64), .sl 3 (.int .i64)], .sl 3 (.int .i64)]), (93, .st [.st [.sl 3 (.int .i64), .sl 3 (.int .i64)], .sl 3 (.int .i64)]), (94, .fn [.st [.st [.sl 3 (.int .i64), .sl 3 (.int .i64)], .sl 3 (.int .i64)]] (.st [.st [.sl 3 (.int .i64), .sl 3 (.int .i64)], .sl 3 (.int .i64)])), (95, .fn [.st [.st [.sl 3 (.int .i64), .sl 3 (.int .i64)], .sl 3 (.int .i64)], .st [.st [.sl 3 (.int .i64), .sl 3 (.int .i64)], .sl 3 (.int .i64)]] (.bool)), (96, .fn [.st [.int .i64, .sl 178 (.st [.str, .int .i64, .sl 269 (.st [.int .i64, .sl 3 (.int .i64), .sl 3 (.int .i64)])]), .sl 194 (.st [.int .i64, .int .i64, .bool, .int .i64]), .sl 182 (.st [.sl 272 (.st [.int .i64, .int .i64]), .sl 25 (.sl 3 (.int .i64))]), .sl 3 (.int .i64)], .st [.st [.sl 3 (.int .i64), .sl 3 (.int .i64)], .sl 3 (.int .i64)], .int .i64, .int .i64, .int .i64] (.bool)), (99, .st [.int .i64, .int .i64, .int .i64, .int .i64]), (102, .st [.int .i64, .int .i64, .int .i64, .int .i64]), (108, .fn [.sl 178 (.st [.str, .int .i64, .sl 269 (.st [.int .i64, .sl 3 (.int .i64), .sl 3 (.int .i64)])]), .int .i64] (.int .i64)), (109, .fn [.sl 194 (.st [.int .i64, .int .i64, .bool, .int .i64]), .int .i64] (.int .i64)), (110, .fn [.sl 182 (.st [.sl 272 (.st [.int .i64, .int .i64]), .sl 25 (.sl 3 (.int .i64))]), .int .i64] (.int .i64)), (111, .fn [.sl 3 (.int .i64), .int .i64] (.int .i64)), (112, .fn [.st [.int .i64, .sl 165 (.st [.str, .int .i64, .sl 167 (.st [.int .i64, .sl 3 (.int .i64), .sl 3 (.int .i64)])]), .sl 190 (.st [.int .i64, .int .i64, .bool, .int .i64]), .sl 187 (.st [.sl 210 (.st [.int .i64, .int .i64]), .sl 25 (.sl 3 (.int .i64))]), .sl 3 (.int .i64)]] (.bool)), (115, .fn [.sl 178 (.st [.str, .int .i64, .sl 269 (.st [.int .i64, .sl 3 (.int .i64), .sl 3 (.int .i64)])])] (.sl 165 (.st [.str, .int .i64, .sl 167 (.st [.int .i64, .sl 3 (.int .i64), .sl 3 (.int .i64)])]))), (116, .fn [.sl 194 (.st [.int .i64, .int .i64, .bool, .int .i64])] (.sl 190 (.st [.int .i64, .int .i64, .bool, .int .i64]))), (117, .fn [.sl 182 (.st [.sl 272 (.st [.int .i64, .int .i64]), .sl 25 (.sl 3 (.int .i64))])] (.sl 187 (.st [.sl 210 (.st [.int .i64, .int .i64]), .sl 25 (.sl 3 (.int .i64))]))), (118, .fn [.sl 3 (.int .i64)] (.sl 3 (.int .i64))), (125, .fn [.sl 3 (.int .i64), .sl 3 (.int .i64)] (.bool)), (126, .fn [.sl 25 (.sl 3 (.int .i64)), .sl 25 (.sl 3 (.int .i64))] (.bool)), (127, .fn [.sl 165 (.st [.str, .int .i64, .sl 167 (.st [.int .i64, .sl 3 (.int .i64), .sl 3 (.int .i64)])]), .sl 165 (.st [.str, .int .i64, .sl 167 (.st [.int .i64, .sl 3 (.int .i64), .sl 3 (.int .i64)])])] (.bool)), (128, .fn [.sl 190 (.st [.int .i64, .int .i64, .bool, .int .i64]), .sl 190 (.st [.int .i64, .int .i64, .bool, .int .i64])] (.bool)), (129, .fn [.sl 187 (.st [.sl 210 (.st [.int .i64, .int .i64]), .sl 25 (.sl 3 (.int .i64))]), .sl 187 (.st [.sl 210 (.st [.int .i64, .int .i64]), .sl 25 (.sl 3 (.int .i64))])] (.bool)), (134, .fn [.sl 25 (.sl 3 (.int .i64)), .int .i64] (.int .i64)), (136, .fn [.sl 25 (.sl 3 (.int .i64))] (.sl 25 (.sl 3 (.int .i64)))), (141, .fn [.int .i64, .int .i64, .int .i64] (.bool)), (144, .fn [.st [.int .i64, .sl 165 (.st [.str, .int .i64, .sl 167 (.st [.int .i64, .sl 3 (.int .i64), .sl 3 (.int .i64)])]), .sl 190 (.st [.int .i64, .int .i64, .bool, .int .i64]), .sl 187 (.st [.sl 210 (.st [.int .i64, .int .i64]), .sl 25 (.sl 3 (.int .i64))]), .sl 3 (.int .i64)], .st [.sl 3 (.int .i64), .sl 3 (.int .i64)]] (.bool)), (145, .fn [.st [.sl 3 (.int .i64), .sl 3 (.int .i64)]] (.st [.sl 3 (.int .i64), .sl 3 (.int .i64)])), (159, .fn [.st [.int .i64, .sl 165 (.st [.str, .int .i64, .sl 167 (.st [.int .i64, .sl 3 (.int .i64), .sl 3 (.int .i64)])]), .sl 190 (.st [.int .i64, .int .i64, .bool, .int .i64]), .sl 187 (.st [.sl 210 (.st [.int .i64, .int .i64]), .sl 25 (.sl 3 (.int .i64))]), .sl 3 (.int .i64)], .st [.st [.sl 3 (.int .i64), .sl 3 (.int .i64)], .sl 3 (.int .i64)], .int .i64, .int .i64] (.bool)), (160, .fn [.st [.int .i64, .sl 165 (.st [.str, .int .i64, .sl 167 (.st [.int .i64, .sl 3 (.int .i64), .sl 3 (.int .i64)])]), .sl 190 (.st [.int .i64, .int .i64, .bool, .int .i64]), .sl 187 (.st [.sl 210 (.st [.int .i64, .int .i64]), .sl 25 (.sl 3 (.int .i64))]), .sl 3 (.int .i64)], .st [.st [.sl 3 (.int .i64), .sl 3 (.int .i64)], .sl 3 (.int .i64)]] (.bool)), (161, .fn [.int .i64] (.bool)), (162, .fn [.sl 3 (.int .i64), .int .i64] (.bool)), (163, .sl 167 (.st [.int .i64, .sl 3 (.int .i64), .sl 3 (.int .i64)])), (164, .st [.str, .int .i64, .sl 167 (.st [.int .i64, .sl 3 (.int .i64), .sl 3 (.int .i64)])]), (165, .st [.str, .int .i64, .sl 167 (.st [.int .i64, .sl 3 (.int .i64), .sl 3 (.int .i64)])]), (166, .st [.int .i64, .sl 3 (.int .i64), .sl 3 (.int .i64)]), (167, .st [.int .i64, .sl 3 (.int .i64), .sl 3 (.int .i64)]), (168, .fn [.int .i64, .int .i64, .int .i64] (.st [.st [.sl 3 (.int .i64), .sl 3 (.int .i64)], .sl 3 (.int .i64)])), (169, .fn [.st [.int .i64, .sl 165 (.st [.str, .int .i64, .sl 167 (.st [.int .i64, .sl 3 (.int .i64), .sl 3 (.int .i64)])]), .sl 190 (.st [.int .i64, .int .i64, .bool, .int .i64]), .sl 187 (.st [.sl 210 (.st [.int .i64, .int .i64]), .sl 25 (.sl 3 (.int .i64))]), .sl 3 (.int .i64)], .int .i64] (.bool)), (173, .fn [.st [.st [.sl 3 (.int .i64), .sl 3 (.int .i64)], .sl 3 (.int .i64)]] (.st [.st [.sl 3 (.int .i64), .sl 3 (.int .i64)], .sl 3 (.int .i64)])), (174, .fn [.sl 3 (.int .i64), .int .i64] (.sl 3 (.int .i64))), (175, .fn [.st [.str, .int .i64, .sl 269 (.st [.int .i64, .sl 3 (.int .i64), .sl 3 (.int .i64)])], .int .i64] (.int .i64)), (176, .sl 269 (.st [.int .i64, .sl 3 (.int .i64), .sl 3 (.int .i64)])), (177, .st [.str, .int .i64, .sl 269 (.st [.int .i64, .sl 3 (.int .i64), .sl 3 (.int .i64)])]), (178, .st [.str, .int .i64, .sl 269 (.st [.int .i64, .sl 3 (.int .i64), .sl 3 (.int .i64)])]), (179, .fn [.st [.sl 272 (.st [.int .i64, .int .i64]), .sl 25 (.sl 3 (.int .i64))], .int .i64] (.int .i64)), (180, .sl 272 (.st [.int .i64, .int .i64])), (181, .st [.sl 272 (.st [.int .i64, .int .i64]), .sl 25 (.sl 3 (.int .i64))]), (182, .st [.sl 272 (.st [.int .i64, .int .i64]), .sl 25 (.sl 3 (.int .i64))]), (183, .fn [.st [.str, .int .i64, .sl 167 (.st [.int .i64, .sl 3 (.int .i64), .sl 3 (.int .i64)])], .int .i64, .int .i64] (.bool)), (184, .fn [.st [.int .i64, .sl 165 (.st [.str, .int .i64, .sl 167 (.st [.int .i64, .sl 3 (.int .i64), .sl 3 (.int .i64)])]), .sl 190 (.st [.int .i64, .int .i64, .bool, .int .i64]), .sl 187 (.st [.sl 210 (.st [.int .i64, .int .i64]), .sl 25 (.sl 3 (.int .i64))]), .sl 3 (.int .i64)], .str] (.int .i64)), (185, .sl 210 (.st [.int .i64, .int .i64])), (186, .st [.sl 210 (.st [.int .i64, .int .i64]), .sl 25 (.sl 3 (.int .i64))]), (187, .st [.sl 210 (.st [.int .i64, .int .i64]), .sl 25 (.sl 3 (.int .i64))]), (188, .fn [.st [.sl 210 (.st [.int .i64, .int .i64]), .sl 25 (.sl 3 (.int .i64))]] (.bool)), (189, .st [.int .i64, .int .i64, .bool, .int .i64]), (190, .st [.int .i64, .int .i64, .bool, .int .i64]), (192, .fn [.st [.str, .int .i64, .sl 269 (.st [.int .i64, .sl 3 (.int .i64), .sl 3 (.int .i64)])]] (.st [.str, .int .i64, .sl 167 (.st [.int .i64, .sl 3 (.int .i64), .sl 3 (.int .i64)])])), (193, .fn [.st [.int .i64, .int .i64, .bool, .int .i64]] (.st [.int .i64, .int .i64, .bool, .int .i64])), (194, .st [.int .i64, .int .i64, .bool, .int .i64]), (195, .fn [.st [.sl 272 (.st [.int .i64, .int .i64]), .sl 25 (.sl 3 (.int .i64))]] (.st [.sl 210 (.st [.int .i64, .int .i64]), .sl 25 (.sl 3 (.int .i64))])), (198, .fn [.st [.str, .int .i64, .sl 167 (.st [.int .i64, .sl 3 (.int .i64), .sl 3 (.int .i64)])], .st [.str, .int .i64, .sl 167 (.st [.int .i64, .sl 3 (.int .i64), .sl 3 (.int .i64)])]] (.bool)), (199, .fn [.st [.int .i64, .int .i64, .bool, .int .i64], .st [.int .i64, .int .i64, .bool, .int .i64]] (.bool)), (200, .fn [.st [.sl 210 (.st [.int .i64, .int .i64]), .sl 25 (.sl 3 (.int .i64))], .st [.sl 210 (.st [.int .i64, .int .i64]), .sl 25 (.sl 3 (.int .i64))]] (.bool)), (203, .fn [.sl 210 (.st [.int .i64, .int .i64]), .int .i64] (.int .i64)), (205, .fn [.sl 190 (.st [.int .i64, .int .i64, .bool, .int .i64]), .fn [.st [.int .i64, .int .i64, .bool, .int .i64]] (.bool)] (.bool)), (206, .fn [.st [.int .i64, .int .i64, .bool, .int .i64]] (.bool)), (209, .st [.int .i64, .int .i64]), (210, .st [.int .i64, .int .i64]), (214, .fn [.st [.int .i64, .sl 165 (.st [.str, .int .i64, .sl 167 (.st [.int .i64, .sl 3 (.int .i64), .sl 3 (.int .i64)])]), .sl 190 (.st [.int .i64, .int .i64, .bool, .int .i64]), .sl 187 (.st [.sl 210 (.st [.int .i64, .int .i64]), .sl 25 (.sl 3 (.int .i64))]), .sl 3 (.int .i64)], .st [.sl 3 (.int .i64), .sl 3 (.int .i64)], .st [.int .i64, .int .i64, .int .i64, .int .i64]] (.bool)), (215, .fn [.st [.int .i64, .sl 165 (.st [.str, .int .i64, .sl 167 (.st [.int .i64, .sl 3 (.int .i64), .sl 3 (.int .i64)])]), .sl 190 (.st [.int .i64, .int .i64, .bool, .int .i64]), .sl 187 (.st [.sl 210 (.st [.int .i64, .int .i64]), .sl 25 (.sl 3 (.int .i64))]), .sl 3 (.int .i64)], .st [.sl 3 (.int .i64), .sl 3 (.int .i64)], .int .i64] (.int .i64)), (218, .fn [.sl 3 (.int .i64)] (.bool)), (224, .fn [.st [.int .i64, .sl 165 (.st [.str, .int .i64, .sl 167 (.st [.int .i64, .sl 3 (.int .i64), .sl 3 (.int .i64)])]), .sl 190 (.st [.int .i64, .int .i64, .bool, .int .i64]), .sl 187 (.st [.sl 210 (.st [.int .i64, .int .i64]), .sl 25 (.sl 3 (.int .i64))]), .sl 3 (.int .i64)], .st [.st [.sl 3 (.int .i64), .sl 3 (.int .i64)], .sl 3 (.int .i64)], .int .i64] (.bool)), (225, .fn [.int .i64] (.sl 3 (.int .i64))), (226, .fn [] (.st [.st [.sl 3 (.int .i64), .sl 3 (.int .i64)], .sl 3 (.int .i64)])), (227, .fn [.st [.sl 3 (.int .i64), .sl 3 (.int .i64)], .st [.int .i64, .int .i64, .bool, .int .i64]] (.bool)), (228, .fn [.st [.sl 3 (.int .i64), .sl 3 (.int .i64)], .int .i64] (.st [.int .i64, .sl 3 (.int .i64), .sl 3 (.int .i64)])), (229, .fn [.st [.sl 3 (.int .i64), .sl 3 (.int .i64)], .int .i64, .int .i64, .int .i64] (.bool)), (236, .fn [.sl 269 (.st [.int .i64, .sl 3 (.int .i64), .sl 3 (.int .i64)]), .int .i64] (.int .i64)), (237, .fn [.sl 272 (.st [.int .i64, .int .i64]), .int .i64] (.int .i64)), (238, .fn [.st [.int .i64, .sl 3 (.int .i64), .sl 3 (.int .i64)], .int .i64, .int .i64] (.bool)), (239, .fn [.str] (.bool)), (240, .fn [.sl 210 (.st [.int .i64, .int .i64])] (.bool)), (241, .fn [.sl 269 (.st [.int .i64, .sl 3 (.int .i64), .sl 3 (.int .i64)])] (.sl 167 (.st [.int .i64, .sl 3 (.int .i64), .sl 3 (.int .i64)]))), (242, .fn [.sl 272 (.st [.int .i64, .int .i64])] (.sl 210 (.st [.int .i64, .int .i64]))), (243, .fn [.sl 167 (.st [.int .i64, .sl 3 (.int .i64), .sl 3 (.int .i64)]), .sl 167 (.st [.int .i64, .sl 3 (.int .i64), .sl 3 (.int .i64)])] (.bool)), (244, .fn [.sl 210 (.st [.int .i64, .int .i64]), .sl 210 (.st [.int .i64, .int .i64])] (.bool)), (246, .fn [.sl 165 (.st [.str, .int .i64, .sl 167 (.st [.int .i64, .sl 3 (.int .i64), .sl 3 (.int .i64)])]), .fn [.st [.str, .int .i64, .sl 167 (.st [.int .i64, .sl 3 (.int .i64), .sl 3 (.int .i64)])]] (.bool)] (.int .i64)), (247, .fn [.st [.str, .int .i64, .sl 167 (.st [.int .i64, .sl 3 (.int .i64), .sl 3 (.int .i64)])]] (.bool)), (248, .fn [.sl 190 (.st [.int .i64, .int .i64, .bool, .int .i64]), .fn [.st [.int .i64, .int .i64, .bool, .int .i64]] (.bool)] (.int .i64)), (250, .fn [.st [.int .i64, .sl 165 (.st [.str, .int .i64, .sl 167 (.st [.int .i64, .sl 3 (.int .i64), .sl 3 (.int .i64)])]), .sl 190 (.st [.int .i64, .int .i64, .bool, .int .i64]), .sl 187 (.st [.sl 210 (.st [.int .i64, .int .i64]), .sl 25 (.sl 3 (.int .i64))]), .sl 3 (.int .i64)], .st [.sl 3 (.int .i64), .sl 3 (.int .i64)], .int .i64, .int .i64] (.int .i64)), (251, .fn [.sl 210 (.st [.int .i64, .int .i64]), .int .i64, .int .i64] (.int .i64)), (252, .fn [.st [.int .i64, .sl 165 (.st [.str, .int .i64, .sl 167 (.st [.int .i64, .sl 3 (.int .i64), .sl 3 (.int .i64)])]), .sl 190 (.st [.int .i64, .int .i64, .bool, .int .i64]), .sl 187 (.st [.sl 210 (.st [.int .i64, .int .i64]), .sl 25 (.sl 3 (.int .i64))]), .sl 3 (.int .i64)], .st [.sl 3 (.int .i64), .sl 3 (.int .i64)], .int .i64] (.st [.int .i64, .sl 3 (.int .i64), .sl 3 (.int .i64)])), (259, .fn [.st [.int .i64, .sl 165 (.st [.str, .int .i64, .sl 167 (.st [.int .i64, .sl 3 (.int .i64), .sl 3 (.int .i64)])]), .sl 190 (.st [.int .i64, .int .i64, .bool, .int .i64]), .sl 187 (.st [.sl 210 (.st [.int .i64, .int .i64]), .sl 25 (.sl 3 (.int .i64))]), .sl 3 (.int .i64)], .int .i64, .int .i64, .int .i64] (.int .i64)), (268, .fn [.st [.int .i64, .sl 3 (.int .i64), .sl 3 (.int .i64)], .int .i64] (.int .i64)), (269, .st [.int .i64, .sl 3 (.int .i64), .sl 3 (.int .i64)]), (270, .fn [.st [.int .i64, .sl 3 (.int .i64), .sl 3 (.int .i64)]] (.st [.int .i64, .sl 3 (.int .i64), .sl 3 (.int .i64)])), (271, .fn [.st [.int .i64, .int .i64]] (.st [.int .i64, .int .i64])), (272, .st [.int .i64, .int .i64]), (273, .fn [.st [.int .i64, .sl 3 (.int .i64), .sl 3 (.int .i64)], .st [.int .i64, .sl 3 (.int .i64), .sl 3 (.int .i64)]] (.bool)), (274, .fn [.st [.int .i64, .int .i64], .st [.int .i64, .int .i64]] (.bool)), (275, .fn [.sl 210 (.st [.int .i64, .int .i64]), .int .i64, .int .i64] (.bool)), (276, .fn [.st [.int .i64, .sl 165 (.st [.str, .int .i64, .sl 167 (.st [.int .i64, .sl 3 (.int .i64), .sl 3 (.int .i64)])]), .sl 190 (.st [.int .i64, .int .i64, .bool, .int .i64]), .sl 187 (.st [.sl 210 (.st [.int .i64, .int .i64]), .sl 25 (.sl 3 (.int .i64))]), .sl 3 (.int .i64)], .st [.sl 3 (.int .i64), .sl 3 (.int .i64)], .int .i64, .int .i64, .int .i64] (.bool)), (281, .fn [.sl 3 (.int .i64)] (.tup [])), (290, .int .u64), (291, .fn [.sl 3 (.int .i64), .int .i64, .int .i64, .int .i64] (.tup [])), (292, .fn [.int .u64] (.int .i64)), (295, .fn [.sl 3 (.int .i64), .int .i64, .int .i64] (.tup [])), (296, .int .i64), (298, .fn [.sl 3 (.int .i64), .int .i64, .int .i64] (.tup [.int .i64, .int .i64])), (299, .fn [.sl 3 (.int .i64), .int .i64, .int .i64] (.bool)), (300, .fn [.int .i64, .int .i64] (.bool)), (301, .fn [.sl 3 (.int .i64), .int .i64, .int .i64, .int .i64] (.int .i64)), (302, .fn [.sl 3 (.int .i64), .int .i64, .int .i64, .int .i64] (.tup [.int .i64, .bool])), (303, .fn [.int .u32] (.int .i64)), (304, .int .u32), (305, .fn [.int .u64] (.int .i64)), (306, .int .u64), (307, .int .u64)]
theorem tysOk : LkAll (TnOk Tryz.prog) tys := ⟨tn3, tn4, tn5, tn9, tn22, tn23, tn24, tn25, tn26, tn27, tn29, tn31, tn35, tn36, tn37, tn38, tn39, tn40, tn44, tn68, tn69, tn72, tn73, tn83, tn84, tn86, tn88, tn89, tn90, tn91, tn92, tn93, tn94, tn95, tn96, tn99, tn102, tn108, tn109, tn110, tn111, tn112, tn115, tn116, tn117, tn118, tn125, tn126, tn127, tn128, tn129, tn134, tn136, tn141, tn144, tn145, tn159, tn160, tn161, tn162, tn163, tn164, tn165, tn166, tn167, tn168, tn169, tn173, tn174, tn175, tn176, tn177, tn178, tn179, tn180, tn181, tn182, tn183, tn184, tn185, tn186, tn187, tn188, tn189, tn190, tn192, tn193, tn194, tn195, tn198, tn199, tn200, tn203, tn205, tn206, tn209, tn210, tn214, tn215, tn218, tn224, tn225, tn226, tn227, tn228, tn229, tn236, tn237, tn238, tn239, tn240, tn241, tn242, tn243, tn244, tn246, tn247, tn248, tn250, tn251, tn252, tn259, tn268, tn269, tn270, tn271, tn272, tn273, tn274, tn275, tn276, tn281, tn290, tn291, tn292, tn295, tn296, tn298, tn299, tn300, tn301, tn302, tn303, tn304, tn305, tn306, tn307, trivial⟩
def laws_szIntS (x : ((List Int) × (Int × Unit))) (c : Unit) : (Option (Int × Unit)) :=
  (if (ltZ (subZ .i64 x.2.1 (lenI x.1)) 0) = true then (some ((-1), ())) else (some ((subZ .i64 x.2.1 (lenI x.1)), ())))
def H_laws_szIntS : Hd := ⟨[.sl 3 (.int .i64), .int .i64], [], none, .p, .int .i64, .p, []⟩
def T_laws_szIntS : FSig := ⟨H_laws_szIntS.ps, H_laws_szIntS.cs, H_laws_szIntS.io, H_laws_szIntS.im, H_laws_szIntS.R, H_laws_szIntS.m, laws_szIntS⟩
theorem E_laws_szIntS : fnOf tys [] Tryz.f73 H_laws_szIntS = T_laws_szIntS := by kernel_rfl
theorem K_laws_szIntS : SigOk Tryz.prog 73 T_laws_szIntS := (congrArg (SigOk Tryz.prog 73) E_laws_szIntS).mp (fnOf_ok rfl tysOk trivial Tryz.func73 (by decide) rfl (fun _ h => by cases h) (nilEq_of (by kernel_rfl)))
def laws_szMode (x : (D_Mode × (Int × Unit))) (c : Unit) : (Option (Int × Unit)) :=
  (Option.bind ((Option.bind (laws_szIntS (x.1.2.1, (x.2.1, ())) ()) fun v0 => (some v0.1)) : (Option Int)) fun v1 => (if (ltZ v1 0) = true then (some ((-1), ())) else (Option.bind ((Option.bind (laws_szIntS (x.1.2.2.1, (v1, ())) ()) fun v2 => (some v2.1)) : (Option Int)) fun v3 => (if (ltZ v3 0) = true then (some ((-1), ())) else (some (v3, ()))))))
def H_laws_szMode : Hd := ⟨[.st [.int .i64, .sl 3 (.int .i64), .sl 3 (.int .i64)], .int .i64], [], none, .p, .int .i64, .p, []⟩
def T_laws_szMode : FSig := ⟨H_laws_szMode.ps, H_laws_szMode.cs, H_laws_szMode.io, H_laws_szMode.im, H_laws_szMode.R, H_laws_szMode.m, laws_szMode⟩
theorem E_laws_szMode : fnOf tys [(73, T_laws_szIntS)] Tryz.f300 H_laws_szMode = T_laws_szMode := by kernel_rfl
theorem K_laws_szMode : SigOk Tryz.prog 300 T_laws_szMode := (congrArg (SigOk Tryz.prog 300) E_laws_szMode).mp (fnOf_ok rfl tysOk ⟨K_laws_szIntS, trivial⟩ Tryz.func300 (by decide) rfl (fun _ h => by cases h) (nilEq_of (by kernel_rfl)))
def laws_szModeS_L0 : (Int × ((List D_Mode) × (Int × Unit))) → Option (Out (Int × ((List D_Mode) × (Int × Unit))) ((Bool × (Int × ((List D_Mode) × (Int × Unit)))) ⊕ Empty) (Int × Unit)) :=
  (fun v0 => (if (ltZ v0.1 (lenI v0.2.1)) = true then (Option.bind (getI v0.2.1 v0.1) fun v1 => (Option.bind ((Option.bind (laws_szMode (v1, (v0.2.2.1, ())) ()) fun v2 => (some v2.1)) : (Option Int)) fun v3 => (if (ltZ v3 0) = true then (some (Out.ret ((-1), ()))) else (some (Out.norm ((addZ .i64 v0.1 1), (v0.2.1, (v3, ())))))))) else (some (Out.exit (Sum.inl ((ltZ v0.1 (lenI v0.2.1)), (v0.1, (v0.2.1, (v0.2.2.1, ())))))))))
def laws_szModeS (x : ((List D_Mode) × (Int × Unit))) (c : Unit) : (Option (Int × Unit)) :=
  (if (ltZ (subZ .i64 x.2.1 (lenI x.1)) 0) = true then (some ((-1), ())) else (Option.bind (loopN (A := (Int × ((List D_Mode) × (Int × Unit)))) big laws_szModeS_L0 (0, (x.1, ((subZ .i64 x.2.1 (lenI x.1)), ())))) fun v4 => (match v4 with | Out.norm v5 => none | Out.exit v6 => (match ((match v6 with | Sum.inl v9 => (Sum.inl (v9.2.2.2.1, ())) | Sum.inr v10 => (Empty.elim v10)) : ((Int × Unit) ⊕ Empty)) with | Sum.inl v7 => (some (v7.1, ())) | Sum.inr v8 => none) | Out.ret v11 => (some v11))))
def H_laws_szModeS : Hd := ⟨[.sl 269 (.st [.int .i64, .sl 3 (.int .i64), .sl 3 (.int .i64)]), .int .i64], [], none, .p, .int .i64, .p, []⟩
def T_laws_szModeS : FSig := ⟨H_laws_szModeS.ps, H_laws_szModeS.cs, H_laws_szModeS.io, H_laws_szModeS.im, H_laws_szModeS.R, H_laws_szModeS.m, laws_szModeS⟩
theorem E_laws_szModeS : fnOf tys [(300, T_laws_szMode)] Tryz.f242 H_laws_szModeS = T_laws_szModeS := by kernel_rfl
theorem K_laws_szModeS : SigOk Tryz.prog 242 T_laws_szModeS := (congrArg (SigOk Tryz.prog 242) E_laws_szModeS).mp (fnOf_ok rfl tysOk ⟨K_laws_szMode, trivial⟩ Tryz.func242 (by decide) rfl (fun _ h => by cases h) (nilEq_of (by kernel_rfl)))
def laws_szActivity (x : (D_Activity × (Int × Unit))) (c : Unit) : (Option (Int × Unit)) :=
  (if (ltZ (subZ .i64 x.2.1 (lenI x.1.1)) 0) = true then (some ((-1), ())) else (Option.bind ((Option.bind (laws_szModeS (x.1.2.2.1, ((subZ .i64 x.2.1 (lenI x.1.1)), ())) ()) fun v0 => (some v0.1)) : (Option Int)) fun v1 => (if (ltZ v1 0) = true then (some ((-1), ())) else (some (v1, ())))))
def H_laws_szActivity : Hd := ⟨[.st [.str, .int .i64, .sl 269 (.st [.int .i64, .sl 3 (.int .i64), .sl 3 (.int .i64)])], .int .i64], [], none, .p, .int .i64, .p, []⟩
def T_laws_szActivity : FSig := ⟨H_laws_szActivity.ps, H_laws_szActivity.cs, H_laws_szActivity.io, H_laws_szActivity.im, H_laws_szActivity.R, H_laws_szActivity.m, laws_szActivity⟩
theorem E_laws_szActivity : fnOf tys [(242, T_laws_szModeS)] Tryz.f151 H_laws_szActivity = T_laws_szActivity := by kernel_rfl
theorem K_laws_szActivity : SigOk Tryz.prog 151 T_laws_szActivity := (congrArg (SigOk Tryz.prog 151) E_laws_szActivity).mp (fnOf_ok rfl tysOk ⟨K_laws_szModeS, trivial⟩ Tryz.func151 (by decide) rfl (fun _ h => by cases h) (nilEq_of (by kernel_rfl)))
def laws_szActivityS_L0 : (Int × ((List D_Activity) × (Int × Unit))) → Option (Out (Int × ((List D_Activity) × (Int × Unit))) ((Bool × (Int × ((List D_Activity) × (Int × Unit)))) ⊕ Empty) (Int × Unit)) :=
  (fun v0 => (if (ltZ v0.1 (lenI v0.2.1)) = true then (Option.bind (getI v0.2.1 v0.1) fun v1 => (Option.bind ((Option.bind (laws_szActivity (v1, (v0.2.2.1, ())) ()) fun v2 => (some v2.1)) : (Option Int)) fun v3 => (if (ltZ v3 0) = true then (some (Out.ret ((-1), ()))) else (some (Out.norm ((addZ .i64 v0.1 1), (v0.2.1, (v3, ())))))))) else (some (Out.exit (Sum.inl ((ltZ v0.1 (lenI v0.2.1)), (v0.1, (v0.2.1, (v0.2.2.1, ())))))))))
def laws_szActivityS (x : ((List D_Activity) × (Int × Unit))) (c : Unit) : (Option (Int × Unit)) :=
  (if (ltZ (subZ .i64 x.2.1 (lenI x.1)) 0) = true then (some ((-1), ())) else (Option.bind (loopN (A := (Int × ((List D_Activity) × (Int × Unit)))) big laws_szActivityS_L0 (0, (x.1, ((subZ .i64 x.2.1 (lenI x.1)), ())))) fun v4 => (match v4 with | Out.norm v5 => none | Out.exit v6 => (match ((match v6 with | Sum.inl v9 => (Sum.inl (v9.2.2.2.1, ())) | Sum.inr v10 => (Empty.elim v10)) : ((Int × Unit) ⊕ Empty)) with | Sum.inl v7 => (some (v7.1, ())) | Sum.inr v8 => none) | Out.ret v11 => (some v11))))
def H_laws_szActivityS : Hd := ⟨[.sl 178 (.st [.str, .int .i64, .sl 269 (.st [.int .i64, .sl 3 (.int .i64), .sl 3 (.int .i64)])]), .int .i64], [], none, .p, .int .i64, .p, []⟩
def T_laws_szActivityS : FSig := ⟨H_laws_szActivityS.ps, H_laws_szActivityS.cs, H_laws_szActivityS.io, H_laws_szActivityS.im, H_laws_szActivityS.R, H_laws_szActivityS.m, laws_szActivityS⟩
theorem E_laws_szActivityS : fnOf tys [(151, T_laws_szActivity)] Tryz.f70 H_laws_szActivityS = T_laws_szActivityS := by kernel_rfl
theorem K_laws_szActivityS : SigOk Tryz.prog 70 T_laws_szActivityS := (congrArg (SigOk Tryz.prog 70) E_laws_szActivityS).mp (fnOf_ok rfl tysOk ⟨K_laws_szActivity, trivial⟩ Tryz.func70 (by decide) rfl (fun _ h => by cases h) (nilEq_of (by kernel_rfl)))
def laws_szLinkS (x : ((List D_Link) × (Int × Unit))) (c : Unit) : (Option (Int × Unit)) :=
  (if (ltZ (subZ .i64 x.2.1 (lenI x.1)) 0) = true then (some ((-1), ())) else (some ((subZ .i64 x.2.1 (lenI x.1)), ())))
def H_laws_szLinkS : Hd := ⟨[.sl 194 (.st [.int .i64, .int .i64, .bool, .int .i64]), .int .i64], [], none, .p, .int .i64, .p, []⟩
def T_laws_szLinkS : FSig := ⟨H_laws_szLinkS.ps, H_laws_szLinkS.cs, H_laws_szLinkS.io, H_laws_szLinkS.im, H_laws_szLinkS.R, H_laws_szLinkS.m, laws_szLinkS⟩
theorem E_laws_szLinkS : fnOf tys [] Tryz.f71 H_laws_szLinkS = T_laws_szLinkS := by kernel_rfl
theorem K_laws_szLinkS : SigOk Tryz.prog 71 T_laws_szLinkS := (congrArg (SigOk Tryz.prog 71) E_laws_szLinkS).mp (fnOf_ok rfl tysOk trivial Tryz.func71 (by decide) rfl (fun _ h => by cases h) (nilEq_of (by kernel_rfl)))
def laws_szIntSS_L0 : (Int × ((List (List Int)) × (Int × Unit))) → Option (Out (Int × ((List (List Int)) × (Int × Unit))) ((Bool × (Int × ((List (List Int)) × (Int × Unit)))) ⊕ Empty) (Int × Unit)) :=
  (fun v0 => (if (ltZ v0.1 (lenI v0.2.1)) = true then (Option.bind (getI v0.2.1 v0.1) fun v1 => (Option.bind ((Option.bind (laws_szIntS (v1, (v0.2.2.1, ())) ()) fun v2 => (some v2.1)) : (Option Int)) fun v3 => (if (ltZ v3 0) = true then (some (Out.ret ((-1), ()))) else (some (Out.norm ((addZ .i64 v0.1 1), (v0.2.1, (v3, ())))))))) else (some (Out.exit (Sum.inl ((ltZ v0.1 (lenI v0.2.1)), (v0.1, (v0.2.1, (v0.2.2.1, ())))))))))
def laws_szIntSS (x : ((List (List Int)) × (Int × Unit))) (c : Unit) : (Option (Int × Unit)) :=
  (if (ltZ (subZ .i64 x.2.1 (lenI x.1)) 0) = true then (some ((-1), ())) else (Option.bind (loopN (A := (Int × ((List (List Int)) × (Int × Unit)))) big laws_szIntSS_L0 (0, (x.1, ((subZ .i64 x.2.1 (lenI x.1)), ())))) fun v4 => (match v4 with | Out.norm v5 => none | Out.exit v6 => (match ((match v6 with | Sum.inl v9 => (Sum.inl (v9.2.2.2.1, ())) | Sum.inr v10 => (Empty.elim v10)) : ((Int × Unit) ⊕ Empty)) with | Sum.inl v7 => (some (v7.1, ())) | Sum.inr v8 => none) | Out.ret v11 => (some v11))))
def H_laws_szIntSS : Hd := ⟨[.sl 25 (.sl 3 (.int .i64)), .int .i64], [], none, .p, .int .i64, .p, []⟩
def T_laws_szIntSS : FSig := ⟨H_laws_szIntSS.ps, H_laws_szIntSS.cs, H_laws_szIntSS.io, H_laws_szIntSS.im, H_laws_szIntSS.R, H_laws_szIntSS.m, laws_szIntSS⟩
theorem E_laws_szIntSS : fnOf tys [(73, T_laws_szIntS)] Tryz.f98 H_laws_szIntSS = T_laws_szIntSS := by kernel_rfl
theorem K_laws_szIntSS : SigOk Tryz.prog 98 T_laws_szIntSS := (congrArg (SigOk Tryz.prog 98) E_laws_szIntSS).mp (fnOf_ok rfl tysOk ⟨K_laws_szIntS, trivial⟩ Tryz.func98 (by decide) rfl (fun _ h => by cases h) (nilEq_of (by kernel_rfl)))
def laws_szStepS (x : ((List D_Step) × (Int × Unit))) (c : Unit) : (Option (Int × Unit)) :=
  (if (ltZ (subZ .i64 x.2.1 (lenI x.1)) 0) = true then (some ((-1), ())) else (some ((subZ .i64 x.2.1 (lenI x.1)), ())))
def H_laws_szStepS : Hd := ⟨[.sl 272 (.st [.int .i64, .int .i64]), .int .i64], [], none, .p, .int .i64, .p, []⟩
def T_laws_szStepS : FSig := ⟨H_laws_szStepS.ps, H_laws_szStepS.cs, H_laws_szStepS.io, H_laws_szStepS.im, H_laws_szStepS.R, H_laws_szStepS.m, laws_szStepS⟩
theorem E_laws_szStepS : fnOf tys [] Tryz.f243 H_laws_szStepS = T_laws_szStepS := by kernel_rfl
theorem K_laws_szStepS : SigOk Tryz.prog 243 T_laws_szStepS := (congrArg (SigOk Tryz.prog 243) E_laws_szStepS).mp (fnOf_ok rfl tysOk trivial Tryz.func243 (by decide) rfl (fun _ h => by cases h) (nilEq_of (by kernel_rfl)))
def laws_szResource (x : (D_Resource × (Int × Unit))) (c : Unit) : (Option (Int × Unit)) :=
  (Option.bind ((Option.bind (laws_szStepS (x.1.1, (x.2.1, ())) ()) fun v0 => (some v0.1)) : (Option Int)) fun v1 => (if (ltZ v1 0) = true then (some ((-1), ())) else (Option.bind ((Option.bind (laws_szIntSS (x.1.2.1, (v1, ())) ()) fun v2 => (some v2.1)) : (Option Int)) fun v3 => (if (ltZ v3 0) = true then (some ((-1), ())) else (some (v3, ()))))))
def H_laws_szResource : Hd := ⟨[.st [.sl 272 (.st [.int .i64, .int .i64]), .sl 25 (.sl 3 (.int .i64))], .int .i64], [], none, .p, .int .i64, .p, []⟩
def T_laws_szResource : FSig := ⟨H_laws_szResource.ps, H_laws_szResource.cs, H_laws_szResource.io, H_laws_szResource.im, H_laws_szResource.R, H_laws_szResource.m, laws_szResource⟩
theorem E_laws_szResource : fnOf tys [(98, T_laws_szIntSS), (243, T_laws_szStepS)] Tryz.f152 H_laws_szResource = T_laws_szResource := by kernel_rfl
theorem K_laws_szResource : SigOk Tryz.prog 152 T_laws_szResource := (congrArg (SigOk Tryz.prog 152) E_laws_szResource).mp (fnOf_ok rfl tysOk ⟨K_laws_szIntSS, K_laws_szStepS, trivial⟩ Tryz.func152 (by decide) rfl (fun _ h => by cases h) (nilEq_of (by kernel_rfl)))
def laws_szResourceS_L0 : (Int × ((List D_Resource) × (Int × Unit))) → Option (Out (Int × ((List D_Resource) × (Int × Unit))) ((Bool × (Int × ((List D_Resource) × (Int × Unit)))) ⊕ Empty) (Int × Unit)) :=
  (fun v0 => (if (ltZ v0.1 (lenI v0.2.1)) = true then (Option.bind (getI v0.2.1 v0.1) fun v1 => (Option.bind ((Option.bind (laws_szResource (v1, (v0.2.2.1, ())) ()) fun v2 => (some v2.1)) : (Option Int)) fun v3 => (if (ltZ v3 0) = true then (some (Out.ret ((-1), ()))) else (some (Out.norm ((addZ .i64 v0.1 1), (v0.2.1, (v3, ())))))))) else (some (Out.exit (Sum.inl ((ltZ v0.1 (lenI v0.2.1)), (v0.1, (v0.2.1, (v0.2.2.1, ())))))))))
def laws_szResourceS (x : ((List D_Resource) × (Int × Unit))) (c : Unit) : (Option (Int × Unit)) :=
  (if (ltZ (subZ .i64 x.2.1 (lenI x.1)) 0) = true then (some ((-1), ())) else (Option.bind (loopN (A := (Int × ((List D_Resource) × (Int × Unit)))) big laws_szResourceS_L0 (0, (x.1, ((subZ .i64 x.2.1 (lenI x.1)), ())))) fun v4 => (match v4 with | Out.norm v5 => none | Out.exit v6 => (match ((match v6 with | Sum.inl v9 => (Sum.inl (v9.2.2.2.1, ())) | Sum.inr v10 => (Empty.elim v10)) : ((Int × Unit) ⊕ Empty)) with | Sum.inl v7 => (some (v7.1, ())) | Sum.inr v8 => none) | Out.ret v11 => (some v11))))
def H_laws_szResourceS : Hd := ⟨[.sl 182 (.st [.sl 272 (.st [.int .i64, .int .i64]), .sl 25 (.sl 3 (.int .i64))]), .int .i64], [], none, .p, .int .i64, .p, []⟩
def T_laws_szResourceS : FSig := ⟨H_laws_szResourceS.ps, H_laws_szResourceS.cs, H_laws_szResourceS.io, H_laws_szResourceS.im, H_laws_szResourceS.R, H_laws_szResourceS.m, laws_szResourceS⟩
theorem E_laws_szResourceS : fnOf tys [(152, T_laws_szResource)] Tryz.f72 H_laws_szResourceS = T_laws_szResourceS := by kernel_rfl
theorem K_laws_szResourceS : SigOk Tryz.prog 72 T_laws_szResourceS := (congrArg (SigOk Tryz.prog 72) E_laws_szResourceS).mp (fnOf_ok rfl tysOk ⟨K_laws_szResource, trivial⟩ Tryz.func72 (by decide) rfl (fun _ h => by cases h) (nilEq_of (by kernel_rfl)))
def laws_szProject (x : (D_Project × (Int × Unit))) (c : Unit) : (Option (Int × Unit)) :=
  (Option.bind ((Option.bind (laws_szActivityS (x.1.2.1, (x.2.1, ())) ()) fun v0 => (some v0.1)) : (Option Int)) fun v1 => (if (ltZ v1 0) = true then (some ((-1), ())) else (Option.bind ((Option.bind (laws_szLinkS (x.1.2.2.1, (v1, ())) ()) fun v2 => (some v2.1)) : (Option Int)) fun v3 => (if (ltZ v3 0) = true then (some ((-1), ())) else (Option.bind ((Option.bind (laws_szResourceS (x.1.2.2.2.1, (v3, ())) ()) fun v4 => (some v4.1)) : (Option Int)) fun v5 => (if (ltZ v5 0) = true then (some ((-1), ())) else (Option.bind ((Option.bind (laws_szIntS (x.1.2.2.2.2.1, (v5, ())) ()) fun v6 => (some v6.1)) : (Option Int)) fun v7 => (if (ltZ v7 0) = true then (some ((-1), ())) else (some (v7, ()))))))))))
def H_laws_szProject : Hd := ⟨[.st [.int .i64, .sl 178 (.st [.str, .int .i64, .sl 269 (.st [.int .i64, .sl 3 (.int .i64), .sl 3 (.int .i64)])]), .sl 194 (.st [.int .i64, .int .i64, .bool, .int .i64]), .sl 182 (.st [.sl 272 (.st [.int .i64, .int .i64]), .sl 25 (.sl 3 (.int .i64))]), .sl 3 (.int .i64)], .int .i64], [], none, .p, .int .i64, .p, []⟩
def T_laws_szProject : FSig := ⟨H_laws_szProject.ps, H_laws_szProject.cs, H_laws_szProject.io, H_laws_szProject.im, H_laws_szProject.R, H_laws_szProject.m, laws_szProject⟩
theorem E_laws_szProject : fnOf tys [(70, T_laws_szActivityS), (71, T_laws_szLinkS), (72, T_laws_szResourceS), (73, T_laws_szIntS)] Tryz.f14 H_laws_szProject = T_laws_szProject := by kernel_rfl
theorem K_laws_szProject : SigOk Tryz.prog 14 T_laws_szProject := (congrArg (SigOk Tryz.prog 14) E_laws_szProject).mp (fnOf_ok rfl tysOk ⟨K_laws_szActivityS, K_laws_szLinkS, K_laws_szResourceS, K_laws_szIntS, trivial⟩ Tryz.func14 (by decide) rfl (fun _ h => by cases h) (nilEq_of (by kernel_rfl)))
def spec_l01In (x : (Int × D_Step)) (c : Unit) : (Option (Bool × Unit)) :=
  (Option.bind ((if (leZ x.2.1 x.1) = true then (some ((leZ x.1 x.2.2.1), ())) else (some (false, ()))) : (Option (Bool × Unit))) fun v0 => (some (v0.1, ())))
def H_spec_l01In : Hd := ⟨[.int .i64, .int .i64, .int .i64], [], none, .p, .bool, .p, []⟩
def T_spec_l01In : FSig := ⟨H_spec_l01In.ps, H_spec_l01In.cs, H_spec_l01In.io, H_spec_l01In.im, H_spec_l01In.R, H_spec_l01In.m, spec_l01In⟩
theorem E_spec_l01In : fnOf tys [] Tryz.f110 H_spec_l01In = T_spec_l01In := by kernel_rfl
theorem K_spec_l01In : SigOk Tryz.prog 110 T_spec_l01In := (congrArg (SigOk Tryz.prog 110) E_spec_l01In).mp (fnOf_ok rfl tysOk trivial Tryz.func110 (by decide) rfl (fun _ h => by cases h) (nilEq_of (by kernel_rfl)))
def spec_l04Nums_L0 : (Int × (Int × ((List Int) × ((List Int) × (Int × Unit))))) → Option (Out (Int × (Int × ((List Int) × ((List Int) × (Int × Unit))))) ((Bool × (Int × (Int × ((List Int) × ((List Int) × (Int × Unit)))))) ⊕ Empty) (Bool × Unit)) :=
  (fun v0 => (if (ltZ v0.1 v0.2.1) = true then (Option.bind (getI v0.2.2.1 v0.1) fun v1 => (Option.bind ((Option.bind (spec_l01In (v1, (0, (20, ()))) ()) fun v2 => (some v2.1)) : (Option Bool)) fun v3 => (if (notB v3) = true then (some (Out.ret (false, ()))) else (some (Out.norm ((addZ .i64 v0.1 1), (v0.2.1, (v0.2.2.1, (v0.2.2.2.1, (v0.2.2.2.2.1, ())))))))))) else (some (Out.exit (Sum.inl ((ltZ v0.1 v0.2.1), (v0.1, (v0.2.1, (v0.2.2.1, (v0.2.2.2.1, (v0.2.2.2.2.1, ())))))))))))
def spec_l04Nums (x : ((List Int) × (Int × Unit))) (c : Unit) : (Option (Bool × Unit)) :=
  (Option.bind (loopN (A := (Int × (Int × ((List Int) × ((List Int) × (Int × Unit)))))) big spec_l04Nums_L0 (0, ((lenI x.1), (x.1, (x.1, (x.2.1, ())))))) fun v4 => (match v4 with | Out.norm v5 => none | Out.exit v6 => (match ((match v6 with | Sum.inl v9 => (Sum.inl (v9.2.2.2.2.1, (v9.2.2.2.2.2.1, ()))) | Sum.inr v10 => (Empty.elim v10)) : (((List Int) × (Int × Unit)) ⊕ Empty)) with | Sum.inl v7 => (some ((eqZ (lenI v7.1) v7.2.1), ())) | Sum.inr v8 => none) | Out.ret v11 => (some v11)))
def H_spec_l04Nums : Hd := ⟨[.sl 3 (.int .i64), .int .i64], [], none, .p, .bool, .p, []⟩
def T_spec_l04Nums : FSig := ⟨H_spec_l04Nums.ps, H_spec_l04Nums.cs, H_spec_l04Nums.io, H_spec_l04Nums.im, H_spec_l04Nums.R, H_spec_l04Nums.m, spec_l04Nums⟩
theorem E_spec_l04Nums : fnOf tys [(110, T_spec_l01In)] Tryz.f301 H_spec_l04Nums = T_spec_l04Nums := by kernel_rfl
theorem K_spec_l04Nums : SigOk Tryz.prog 301 T_spec_l04Nums := (congrArg (SigOk Tryz.prog 301) E_spec_l04Nums).mp (fnOf_ok rfl tysOk ⟨K_spec_l01In, trivial⟩ Tryz.func301 (by decide) rfl (fun _ h => by cases h) (nilEq_of (by kernel_rfl)))
def spec_ModeOk (x : (D_Mode × D_Step)) (c : Unit) : (Option (Bool × Unit)) :=
  (Option.bind ((Option.bind (spec_l01In (x.1.1, (1, (12, ()))) ()) fun v0 => (some v0.1)) : (Option Bool)) fun v1 => (Option.bind ((if v1 = true then (Option.bind ((Option.bind (spec_l04Nums (x.1.2.1, (x.2.1, ())) ()) fun v2 => (some v2.1)) : (Option Bool)) fun v3 => (Option.bind ((if v3 = true then (Option.bind ((Option.bind (spec_l04Nums (x.1.2.2.1, (x.2.2.1, ())) ()) fun v4 => (some v4.1)) : (Option Bool)) fun v5 => (some (v5, ()))) else (some (false, ()))) : (Option (Bool × Unit))) fun v6 => (some (v6.1, ())))) else (some (false, ()))) : (Option (Bool × Unit))) fun v7 => (some (v7.1, ()))))
def H_spec_ModeOk : Hd := ⟨[.st [.int .i64, .sl 3 (.int .i64), .sl 3 (.int .i64)], .int .i64, .int .i64], [], none, .p, .bool, .p, []⟩
def T_spec_ModeOk : FSig := ⟨H_spec_ModeOk.ps, H_spec_ModeOk.cs, H_spec_ModeOk.io, H_spec_ModeOk.im, H_spec_ModeOk.R, H_spec_ModeOk.m, spec_ModeOk⟩
theorem E_spec_ModeOk : fnOf tys [(110, T_spec_l01In), (301, T_spec_l04Nums)] Tryz.f244 H_spec_ModeOk = T_spec_ModeOk := by kernel_rfl
theorem K_spec_ModeOk : SigOk Tryz.prog 244 T_spec_ModeOk := (congrArg (SigOk Tryz.prog 244) E_spec_ModeOk).mp (fnOf_ok rfl tysOk ⟨K_spec_l01In, K_spec_l04Nums, trivial⟩ Tryz.func244 (by decide) rfl (fun _ h => by cases h) (nilEq_of (by kernel_rfl)))
def spec_IsName_L0 : (Int × ((List UInt8) × Unit)) → Option (Out (Int × ((List UInt8) × Unit)) ((Bool × (Int × ((List UInt8) × Unit))) ⊕ Empty) (Bool × Unit)) :=
  (fun v0 => (if (ltZ v0.1 (lenI v0.2.1)) = true then (Option.bind (byteAt v0.2.1 v0.1) fun v1 => (Option.bind ((if (leZ 97 v1) = true then (Option.bind (byteAt v0.2.1 v0.1) fun v2 => (some ((leZ v2 122), (v0.1, (v0.2.1, ()))))) else (some (false, (v0.1, (v0.2.1, ()))))) : (Option (Bool × (Int × ((List UInt8) × Unit))))) fun v3 => (Option.bind ((if (notB v3.1) = true then (Option.bind ((if (eqZ v3.2.1 0) = true then (some (true, (v3.2.1, (v3.2.2.1, ())))) else (Option.bind (byteAt v3.2.2.1 v3.2.1) fun v4 => (Option.bind ((if (ltZ v4 48) = true then (some (true, (v3.2.1, (v3.2.2.1, ())))) else (Option.bind (byteAt v3.2.2.1 v3.2.1) fun v5 => (some ((ltZ 57 v5), (v3.2.1, (v3.2.2.1, ())))))) : (Option (Bool × (Int × ((List UInt8) × Unit))))) fun v6 => (some (v6.1, (v6.2.1, (v6.2.2.1, ()))))))) : (Option (Bool × (Int × ((List UInt8) × Unit))))) fun v7 => (some (v7.1, (v7.2.1, (v7.2.2.1, ()))))) else (some (false, (v3.2.1, (v3.2.2.1, ()))))) : (Option (Bool × (Int × ((List UInt8) × Unit))))) fun v8 => (if v8.1 = true then (some (Out.ret (false, ()))) else (some (Out.norm ((addZ .i64 v8.2.1 1), (v8.2.2.1, ())))))))) else (some (Out.exit (Sum.inl ((ltZ v0.1 (lenI v0.2.1)), (v0.1, (v0.2.1, ()))))))))
def spec_IsName (x : ((List UInt8) × Unit)) (c : Unit) : (Option (Bool × Unit)) :=
  (Option.bind (loopN (A := (Int × ((List UInt8) × Unit))) big spec_IsName_L0 (0, (x.1, ()))) fun v9 => (match v9 with | Out.norm v10 => none | Out.exit v11 => (match ((match v11 with | Sum.inl v16 => (Sum.inl (v16.2.2.1, ())) | Sum.inr v17 => (Empty.elim v17)) : (((List UInt8) × Unit) ⊕ Empty)) with | Sum.inl v12 => (Option.bind ((Option.bind (spec_l01In ((lenI v12.1), (1, (8, ()))) ()) fun v13 => (some v13.1)) : (Option Bool)) fun v14 => (some (v14, ()))) | Sum.inr v15 => none) | Out.ret v18 => (some v18)))
def H_spec_IsName : Hd := ⟨[.str], [], none, .p, .bool, .p, []⟩
def T_spec_IsName : FSig := ⟨H_spec_IsName.ps, H_spec_IsName.cs, H_spec_IsName.io, H_spec_IsName.im, H_spec_IsName.R, H_spec_IsName.m, spec_IsName⟩
theorem E_spec_IsName : fnOf tys [(110, T_spec_l01In)] Tryz.f245 H_spec_IsName = T_spec_IsName := by kernel_rfl
theorem K_spec_IsName : SigOk Tryz.prog 245 T_spec_IsName := (congrArg (SigOk Tryz.prog 245) E_spec_IsName).mp (fnOf_ok rfl tysOk ⟨K_spec_l01In, trivial⟩ Tryz.func245 (by decide) rfl (fun _ h => by cases h) (nilEq_of (by kernel_rfl)))
def spec_ActivityOk_L0 : (Int × (Int × ((List D_Mode) × (Int × (Int × (D_Activity × Unit)))))) → Option (Out (Int × (Int × ((List D_Mode) × (Int × (Int × (D_Activity × Unit)))))) ((Bool × (Int × (Int × ((List D_Mode) × (Int × (Int × (D_Activity × Unit))))))) ⊕ Empty) (Bool × Unit)) :=
  (fun v0 => (if (ltZ v0.1 v0.2.1) = true then (Option.bind (getI v0.2.2.1 v0.1) fun v1 => (Option.bind ((Option.bind (spec_ModeOk (v1, (v0.2.2.2.1, (v0.2.2.2.2.1, ()))) ()) fun v2 => (some v2.1)) : (Option Bool)) fun v3 => (if (notB v3) = true then (some (Out.ret (false, ()))) else (some (Out.norm ((addZ .i64 v0.1 1), (v0.2.1, (v0.2.2.1, (v0.2.2.2.1, (v0.2.2.2.2.1, (v0.2.2.2.2.2.1, ()))))))))))) else (some (Out.exit (Sum.inl ((ltZ v0.1 v0.2.1), (v0.1, (v0.2.1, (v0.2.2.1, (v0.2.2.2.1, (v0.2.2.2.2.1, (v0.2.2.2.2.2.1, ()))))))))))))
def spec_ActivityOk (x : (D_Activity × D_Step)) (c : Unit) : (Option (Bool × Unit)) :=
  (Option.bind (loopN (A := (Int × (Int × ((List D_Mode) × (Int × (Int × (D_Activity × Unit))))))) big spec_ActivityOk_L0 (0, ((lenI x.1.2.2.1), (x.1.2.2.1, (x.2.1, (x.2.2.1, (x.1, ()))))))) fun v4 => (match v4 with | Out.norm v5 => none | Out.exit v6 => (match ((match v6 with | Sum.inl v17 => (Sum.inl (v17.2.2.2.2.2.2.1, ())) | Sum.inr v18 => (Empty.elim v18)) : ((D_Activity × Unit) ⊕ Empty)) with | Sum.inl v7 => (Option.bind ((Option.bind (spec_IsName (v7.1.1, ()) ()) fun v8 => (some v8.1)) : (Option Bool)) fun v9 => (Option.bind ((if v9 = true then (Option.bind ((Option.bind (spec_l01In (v7.1.2.1, (0, (3, ()))) ()) fun v10 => (some v10.1)) : (Option Bool)) fun v11 => (Option.bind ((if v11 = true then (Option.bind ((Option.bind (spec_l01In ((lenI v7.1.2.2.1), (1, (3, ()))) ()) fun v12 => (some v12.1)) : (Option Bool)) fun v13 => (some (v13, ()))) else (some (false, ()))) : (Option (Bool × Unit))) fun v14 => (some (v14.1, ())))) else (some (false, ()))) : (Option (Bool × Unit))) fun v15 => (some (v15.1, ())))) | Sum.inr v16 => none) | Out.ret v19 => (some v19)))
def H_spec_ActivityOk : Hd := ⟨[.st [.str, .int .i64, .sl 167 (.st [.int .i64, .sl 3 (.int .i64), .sl 3 (.int .i64)])], .int .i64, .int .i64], [], none, .p, .bool, .p, []⟩
def T_spec_ActivityOk : FSig := ⟨H_spec_ActivityOk.ps, H_spec_ActivityOk.cs, H_spec_ActivityOk.io, H_spec_ActivityOk.im, H_spec_ActivityOk.R, H_spec_ActivityOk.m, spec_ActivityOk⟩
theorem E_spec_ActivityOk : fnOf tys [(110, T_spec_l01In), (244, T_spec_ModeOk), (245, T_spec_IsName)] Tryz.f153 H_spec_ActivityOk = T_spec_ActivityOk := by kernel_rfl
theorem K_spec_ActivityOk : SigOk Tryz.prog 153 T_spec_ActivityOk := (congrArg (SigOk Tryz.prog 153) E_spec_ActivityOk).mp (fnOf_ok rfl tysOk ⟨K_spec_l01In, K_spec_ModeOk, K_spec_IsName, trivial⟩ Tryz.func153 (by decide) rfl (fun _ h => by cases h) (nilEq_of (by kernel_rfl)))
def spec_ActivityIndex_L0 : (Int × (Int × ((List D_Activity) × ((List UInt8) × Unit)))) → Option (Out (Int × (Int × ((List D_Activity) × ((List UInt8) × Unit)))) ((Bool × (Int × (Int × ((List D_Activity) × ((List UInt8) × Unit))))) ⊕ Empty) (Int × Unit)) :=
  (fun v0 => (if (ltZ v0.1 v0.2.1) = true then (Option.bind (getI v0.2.2.1 v0.1) fun v1 => (if (eqS v1.1 v0.2.2.2.1) = true then (some (Out.ret (v0.1, ()))) else (some (Out.norm ((addZ .i64 v0.1 1), (v0.2.1, (v0.2.2.1, (v0.2.2.2.1, ())))))))) else (some (Out.exit (Sum.inl ((ltZ v0.1 v0.2.1), (v0.1, (v0.2.1, (v0.2.2.1, (v0.2.2.2.1, ()))))))))))
def spec_ActivityIndex (x : (D_Project × ((List UInt8) × Unit))) (c : Unit) : (Option (Int × Unit)) :=
  (Option.bind (loopN (A := (Int × (Int × ((List D_Activity) × ((List UInt8) × Unit))))) big spec_ActivityIndex_L0 (0, ((lenI x.1.2.1), (x.1.2.1, (x.2.1, ()))))) fun v2 => (match v2 with | Out.norm v3 => none | Out.exit v4 => (match ((match v4 with | Sum.inl v7 => (Sum.inl ()) | Sum.inr v8 => (Empty.elim v8)) : (Unit ⊕ Empty)) with | Sum.inl v5 => (some ((-1), ())) | Sum.inr v6 => none) | Out.ret v9 => (some v9)))
def H_spec_ActivityIndex : Hd := ⟨[.st [.int .i64, .sl 165 (.st [.str, .int .i64, .sl 167 (.st [.int .i64, .sl 3 (.int .i64), .sl 3 (.int .i64)])]), .sl 190 (.st [.int .i64, .int .i64, .bool, .int .i64]), .sl 187 (.st [.sl 210 (.st [.int .i64, .int .i64]), .sl 25 (.sl 3 (.int .i64))]), .sl 3 (.int .i64)], .str], [], none, .p, .int .i64, .p, []⟩
def T_spec_ActivityIndex : FSig := ⟨H_spec_ActivityIndex.ps, H_spec_ActivityIndex.cs, H_spec_ActivityIndex.io, H_spec_ActivityIndex.im, H_spec_ActivityIndex.R, H_spec_ActivityIndex.m, spec_ActivityIndex⟩
theorem E_spec_ActivityIndex : fnOf tys [] Tryz.f154 H_spec_ActivityIndex = T_spec_ActivityIndex := by kernel_rfl
theorem K_spec_ActivityIndex : SigOk Tryz.prog 154 T_spec_ActivityIndex := (congrArg (SigOk Tryz.prog 154) E_spec_ActivityIndex).mp (fnOf_ok rfl tysOk trivial Tryz.func154 (by decide) rfl (fun _ h => by cases h) (nilEq_of (by kernel_rfl)))
def spec_StepsOk_L0 : (Int × (Int × ((List D_Step) × ((List D_Step) × Unit)))) → Option (Out (Int × (Int × ((List D_Step) × ((List D_Step) × Unit)))) ((Bool × (Int × (Int × ((List D_Step) × ((List D_Step) × Unit))))) ⊕ Empty) (Bool × Unit)) :=
  (fun v0 => (if (ltZ v0.1 v0.2.1) = true then (Option.bind (getI v0.2.2.1 v0.1) fun v1 => (Option.bind ((Option.bind (spec_l01In (v1.1, (0, (60, ()))) ()) fun v2 => (some v2.1)) : (Option Bool)) fun v3 => (Option.bind ((if (notB v3) = true then (some (true, (v0.1, (v0.2.1, (v0.2.2.1, (v0.2.2.2.1, ())))))) else (Option.bind ((Option.bind (spec_l01In (v1.2.1, (0, (20, ()))) ()) fun v4 => (some v4.1)) : (Option Bool)) fun v5 => (Option.bind ((if (notB v5) = true then (some (true, (v0.1, (v0.2.1, (v0.2.2.1, (v0.2.2.2.1, ())))))) else (Option.bind ((if (ltZ 0 v0.1) = true then (Option.bind (getI v0.2.2.2.1 (subZ .i64 v0.1 1)) fun v6 => (some ((leZ v1.1 v6.1), (v0.1, (v0.2.1, (v0.2.2.1, (v0.2.2.2.1, ()))))))) else (some (false, (v0.1, (v0.2.1, (v0.2.2.1, (v0.2.2.2.1, ()))))))) : (Option (Bool × (Int × (Int × ((List D_Step) × ((List D_Step) × Unit))))))) fun v7 => (some (v7.1, (v7.2.1, (v7.2.2.1, (v7.2.2.2.1, (v7.2.2.2.2.1, ())))))))) : (Option (Bool × (Int × (Int × ((List D_Step) × ((List D_Step) × Unit))))))) fun v8 => (some (v8.1, (v8.2.1, (v8.2.2.1, (v8.2.2.2.1, (v8.2.2.2.2.1, ()))))))))) : (Option (Bool × (Int × (Int × ((List D_Step) × ((List D_Step) × Unit))))))) fun v9 => (if v9.1 = true then (some (Out.ret (false, ()))) else (some (Out.norm ((addZ .i64 v9.2.1 1), (v9.2.2.1, (v9.2.2.2.1, (v9.2.2.2.2.1, ())))))))))) else (some (Out.exit (Sum.inl ((ltZ v0.1 v0.2.1), (v0.1, (v0.2.1, (v0.2.2.1, (v0.2.2.2.1, ()))))))))))
def spec_StepsOk (x : ((List D_Step) × Unit)) (c : Unit) : (Option (Bool × Unit)) :=
  (Option.bind (loopN (A := (Int × (Int × ((List D_Step) × ((List D_Step) × Unit))))) big spec_StepsOk_L0 (0, ((lenI x.1), (x.1, (x.1, ()))))) fun v10 => (match v10 with | Out.norm v11 => none | Out.exit v12 => (match ((match v12 with | Sum.inl v19 => (Sum.inl (v19.2.2.2.2.1, ())) | Sum.inr v20 => (Empty.elim v20)) : (((List D_Step) × Unit) ⊕ Empty)) with | Sum.inl v13 => (Option.bind ((Option.bind (spec_l01In ((lenI v13.1), (1, (8, ()))) ()) fun v14 => (some v14.1)) : (Option Bool)) fun v15 => (Option.bind ((if v15 = true then (Option.bind (getI v13.1 0) fun v16 => (some ((eqZ v16.1 0), ()))) else (some (false, ()))) : (Option (Bool × Unit))) fun v17 => (some (v17.1, ())))) | Sum.inr v18 => none) | Out.ret v21 => (some v21)))
def H_spec_StepsOk : Hd := ⟨[.sl 210 (.st [.int .i64, .int .i64])], [], none, .p, .bool, .p, []⟩
def T_spec_StepsOk : FSig := ⟨H_spec_StepsOk.ps, H_spec_StepsOk.cs, H_spec_StepsOk.io, H_spec_StepsOk.im, H_spec_StepsOk.R, H_spec_StepsOk.m, spec_StepsOk⟩
theorem E_spec_StepsOk : fnOf tys [(110, T_spec_l01In)] Tryz.f246 H_spec_StepsOk = T_spec_StepsOk := by kernel_rfl
theorem K_spec_StepsOk : SigOk Tryz.prog 246 T_spec_StepsOk := (congrArg (SigOk Tryz.prog 246) E_spec_StepsOk).mp (fnOf_ok rfl tysOk ⟨K_spec_l01In, trivial⟩ Tryz.func246 (by decide) rfl (fun _ h => by cases h) (nilEq_of (by kernel_rfl)))
def spec_ResourceOk_L0 : (Int × (Int × ((List Int) × (Int × (Int × ((List (List Int)) × (D_Resource × Unit))))))) → Option (Out (Int × (Int × ((List Int) × (Int × (Int × ((List (List Int)) × (D_Resource × Unit))))))) ((Bool × (Int × (Int × ((List Int) × (Int × (Int × ((List (List Int)) × (D_Resource × Unit)))))))) ⊕ Empty) (Bool × Unit)) :=
  (fun v2 => (if (ltZ v2.1 v2.2.1) = true then (Option.bind (getI v2.2.2.1 v2.1) fun v3 => (Option.bind ((Option.bind (spec_l01In (v3, (0, (12, ()))) ()) fun v4 => (some v4.1)) : (Option Bool)) fun v5 => (if (notB v5) = true then (some (Out.ret (false, ()))) else (some (Out.norm ((addZ .i64 v2.1 1), (v2.2.1, (v2.2.2.1, (v2.2.2.2.1, (v2.2.2.2.2.1, (v2.2.2.2.2.2.1, (v2.2.2.2.2.2.2.1, ())))))))))))) else (some (Out.exit (Sum.inl ((ltZ v2.1 v2.2.1), (v2.1, (v2.2.1, (v2.2.2.1, (v2.2.2.2.1, (v2.2.2.2.2.1, (v2.2.2.2.2.2.1, (v2.2.2.2.2.2.2.1, ())))))))))))))
def spec_ResourceOk_L1 : (Int × (Int × ((List (List Int)) × (D_Resource × Unit)))) → Option (Out (Int × (Int × ((List (List Int)) × (D_Resource × Unit)))) ((Bool × (Int × (Int × ((List (List Int)) × (D_Resource × Unit))))) ⊕ Empty) (Bool × Unit)) :=
  (fun v0 => (if (ltZ v0.1 v0.2.1) = true then (Option.bind (getI v0.2.2.1 v0.1) fun v1 => (if (notB (eqZ (lenI v1) 4)) = true then (some (Out.ret (false, ()))) else (Option.bind (loopN (A := (Int × (Int × ((List Int) × (Int × (Int × ((List (List Int)) × (D_Resource × Unit)))))))) big spec_ResourceOk_L0 (0, ((lenI v1), (v1, (v0.1, (v0.2.1, (v0.2.2.1, (v0.2.2.2.1, ())))))))) fun v6 => (match v6 with | Out.norm v7 => none | Out.exit v8 => (match ((match v8 with | Sum.inl v13 => (Sum.inl (v13.2.2.2.2.1, (v13.2.2.2.2.2.1, (v13.2.2.2.2.2.2.1, (v13.2.2.2.2.2.2.2.1, ()))))) | Sum.inr v14 => (Empty.elim v14)) : ((Int × (Int × ((List (List Int)) × (D_Resource × Unit)))) ⊕ Empty)) with | Sum.inl v9 => (some (Out.norm ((addZ .i64 v9.1 1), (v9.2.1, (v9.2.2.1, (v9.2.2.2.1, ())))))) | Sum.inr v10 => (match ((Empty.elim v10) : ((Int × (Int × ((List (List Int)) × (D_Resource × Unit)))) ⊕ Empty)) with | Sum.inl v11 => (some (Out.norm ((addZ .i64 v11.1 1), (v11.2.1, (v11.2.2.1, (v11.2.2.2.1, ())))))) | Sum.inr v12 => (some (Out.exit (Sum.inr (Empty.elim v12)))))) | Out.ret v15 => (some (Out.ret v15)))))) else (some (Out.exit (Sum.inl ((ltZ v0.1 v0.2.1), (v0.1, (v0.2.1, (v0.2.2.1, (v0.2.2.2.1, ()))))))))))
def spec_ResourceOk (x : (D_Resource × Unit)) (c : Unit) : (Option (Bool × Unit)) :=
  (Option.bind (loopN (A := (Int × (Int × ((List (List Int)) × (D_Resource × Unit))))) big spec_ResourceOk_L1 (0, ((lenI x.1.2.1), (x.1.2.1, (x.1, ()))))) fun v16 => (match v16 with | Out.norm v17 => none | Out.exit v18 => (match ((match v18 with | Sum.inl v25 => (Sum.inl (v25.2.2.2.2.1, ())) | Sum.inr v26 => (Empty.elim v26)) : ((D_Resource × Unit) ⊕ Empty)) with | Sum.inl v19 => (Option.bind ((Option.bind (spec_StepsOk (v19.1.1, ()) ()) fun v20 => (some v20.1)) : (Option Bool)) fun v21 => (Option.bind ((if v21 = true then (Option.bind ((if (eqZ (lenI v19.1.2.1) 0) = true then (some (true, ())) else (some ((eqZ (lenI v19.1.2.1) 4), ()))) : (Option (Bool × Unit))) fun v22 => (some (v22.1, ()))) else (some (false, ()))) : (Option (Bool × Unit))) fun v23 => (some (v23.1, ())))) | Sum.inr v24 => none) | Out.ret v27 => (some v27)))
def H_spec_ResourceOk : Hd := ⟨[.st [.sl 210 (.st [.int .i64, .int .i64]), .sl 25 (.sl 3 (.int .i64))]], [], none, .p, .bool, .p, []⟩
def T_spec_ResourceOk : FSig := ⟨H_spec_ResourceOk.ps, H_spec_ResourceOk.cs, H_spec_ResourceOk.io, H_spec_ResourceOk.im, H_spec_ResourceOk.R, H_spec_ResourceOk.m, spec_ResourceOk⟩
theorem E_spec_ResourceOk : fnOf tys [(110, T_spec_l01In), (246, T_spec_StepsOk)] Tryz.f155 H_spec_ResourceOk = T_spec_ResourceOk := by kernel_rfl
theorem K_spec_ResourceOk : SigOk Tryz.prog 155 T_spec_ResourceOk := (congrArg (SigOk Tryz.prog 155) E_spec_ResourceOk).mp (fnOf_ok rfl tysOk ⟨K_spec_l01In, K_spec_StepsOk, trivial⟩ Tryz.func155 (by decide) rfl (fun _ h => by cases h) (nilEq_of (by kernel_rfl)))
def spec_ProjectOk_L0 : (Int × (Int × ((List D_Activity) × (D_Project × (Int × Unit))))) → Option (Out (Int × (Int × ((List D_Activity) × (D_Project × (Int × Unit))))) ((Bool × (Int × (Int × ((List D_Activity) × (D_Project × (Int × Unit)))))) ⊕ Empty) (Bool × Unit)) :=
  (fun v8 => (if (ltZ v8.1 v8.2.1) = true then (Option.bind (getI v8.2.2.1 v8.1) fun v9 => (Option.bind ((Option.bind (spec_ActivityOk (v9, ((lenI v8.2.2.2.1.2.2.2.1), ((lenI v8.2.2.2.1.2.2.2.2.1), ()))) ()) fun v10 => (some v10.1)) : (Option Bool)) fun v11 => (Option.bind ((if (notB v11) = true then (some (true, (v8.1, (v8.2.1, (v8.2.2.1, (v8.2.2.2.1, (v8.2.2.2.2.1, ()))))))) else (Option.bind ((Option.bind (spec_ActivityIndex (v8.2.2.2.1, (v9.1, ())) ()) fun v12 => (some v12.1)) : (Option Int)) fun v13 => (some ((notB (eqZ v13 v8.1)), (v8.1, (v8.2.1, (v8.2.2.1, (v8.2.2.2.1, (v8.2.2.2.2.1, ()))))))))) : (Option (Bool × (Int × (Int × ((List D_Activity) × (D_Project × (Int × Unit)))))))) fun v14 => (if v14.1 = true then (some (Out.ret (false, ()))) else (some (Out.norm ((addZ .i64 v14.2.1 1), (v14.2.2.1, (v14.2.2.2.1, (v14.2.2.2.2.1, (v14.2.2.2.2.2.1, ()))))))))))) else (some (Out.exit (Sum.inl ((ltZ v8.1 v8.2.1), (v8.1, (v8.2.1, (v8.2.2.1, (v8.2.2.2.1, (v8.2.2.2.2.1, ())))))))))))
def spec_ProjectOk_L1 : (Int × (Int × ((List D_Resource) × (D_Project × (Int × Unit))))) → Option (Out (Int × (Int × ((List D_Resource) × (D_Project × (Int × Unit))))) ((Bool × (Int × (Int × ((List D_Resource) × (D_Project × (Int × Unit)))))) ⊕ Empty) (Bool × Unit)) :=
  (fun v19 => (if (ltZ v19.1 v19.2.1) = true then (Option.bind (getI v19.2.2.1 v19.1) fun v20 => (Option.bind ((Option.bind (spec_ResourceOk (v20, ()) ()) fun v21 => (some v21.1)) : (Option Bool)) fun v22 => (if (notB v22) = true then (some (Out.ret (false, ()))) else (some (Out.norm ((addZ .i64 v19.1 1), (v19.2.1, (v19.2.2.1, (v19.2.2.2.1, (v19.2.2.2.2.1, ())))))))))) else (some (Out.exit (Sum.inl ((ltZ v19.1 v19.2.1), (v19.1, (v19.2.1, (v19.2.2.1, (v19.2.2.2.1, (v19.2.2.2.2.1, ())))))))))))
def spec_ProjectOk_L2 : (Int × (Int × ((List Int) × (D_Project × (Int × Unit))))) → Option (Out (Int × (Int × ((List Int) × (D_Project × (Int × Unit))))) ((Bool × (Int × (Int × ((List Int) × (D_Project × (Int × Unit)))))) ⊕ Empty) (Bool × Unit)) :=
  (fun v27 => (if (ltZ v27.1 v27.2.1) = true then (Option.bind (getI v27.2.2.1 v27.1) fun v28 => (Option.bind ((Option.bind (spec_l01In (v28, (0, (100, ()))) ()) fun v29 => (some v29.1)) : (Option Bool)) fun v30 => (if (notB v30) = true then (some (Out.ret (false, ()))) else (some (Out.norm ((addZ .i64 v27.1 1), (v27.2.1, (v27.2.2.1, (v27.2.2.2.1, (v27.2.2.2.2.1, ())))))))))) else (some (Out.exit (Sum.inl ((ltZ v27.1 v27.2.1), (v27.1, (v27.2.1, (v27.2.2.1, (v27.2.2.2.1, (v27.2.2.2.2.1, ())))))))))))
def spec_ProjectOk_L3 : (Int × (Int × ((List D_Link) × (Int × Unit)))) → Option (Out (Int × (Int × ((List D_Link) × (Int × Unit)))) ((Bool × (Int × (Int × ((List D_Link) × (Int × Unit))))) ⊕ Empty) (Bool × Unit)) :=
  (fun v35 => (if (ltZ v35.1 v35.2.1) = true then (Option.bind (getI v35.2.2.1 v35.1) fun v36 => (Option.bind ((Option.bind (spec_l01In (v36.1, (0, ((subZ .i64 v35.2.2.2.1 1), ()))) ()) fun v37 => (some v37.1)) : (Option Bool)) fun v38 => (Option.bind ((if (notB v38) = true then (some (true, (v35.1, (v35.2.1, (v35.2.2.1, (v35.2.2.2.1, ())))))) else (Option.bind ((Option.bind (spec_l01In (v36.2.1, (0, ((subZ .i64 v35.2.2.2.1 1), ()))) ()) fun v39 => (some v39.1)) : (Option Bool)) fun v40 => (Option.bind ((if (notB v40) = true then (some (true, (v35.1, (v35.2.1, (v35.2.2.1, (v35.2.2.2.1, ())))))) else (Option.bind ((if (eqZ v36.1 v36.2.1) = true then (some (true, (v35.1, (v35.2.1, (v35.2.2.1, (v35.2.2.2.1, ())))))) else (Option.bind ((Option.bind (spec_l01In (v36.2.2.2.1, ((-60), (60, ()))) ()) fun v41 => (some v41.1)) : (Option Bool)) fun v42 => (some ((notB v42), (v35.1, (v35.2.1, (v35.2.2.1, (v35.2.2.2.1, ())))))))) : (Option (Bool × (Int × (Int × ((List D_Link) × (Int × Unit))))))) fun v43 => (some (v43.1, (v43.2.1, (v43.2.2.1, (v43.2.2.2.1, (v43.2.2.2.2.1, ())))))))) : (Option (Bool × (Int × (Int × ((List D_Link) × (Int × Unit))))))) fun v44 => (some (v44.1, (v44.2.1, (v44.2.2.1, (v44.2.2.2.1, (v44.2.2.2.2.1, ()))))))))) : (Option (Bool × (Int × (Int × ((List D_Link) × (Int × Unit))))))) fun v45 => (if v45.1 = true then (some (Out.ret (false, ()))) else (some (Out.norm ((addZ .i64 v45.2.1 1), (v45.2.2.1, (v45.2.2.2.1, (v45.2.2.2.2.1, ())))))))))) else (some (Out.exit (Sum.inl ((ltZ v35.1 v35.2.1), (v35.1, (v35.2.1, (v35.2.2.1, (v35.2.2.2.1, ()))))))))))
def spec_ProjectOk (x : (D_Project × Unit)) (c : Unit) : (Option (Bool × Unit)) :=
  (Option.bind ((Option.bind (spec_l01In (x.1.1, (1, (60, ()))) ()) fun v0 => (some v0.1)) : (Option Bool)) fun v1 => (Option.bind ((if (notB v1) = true then (some (true, (x.1, ((lenI x.1.2.1), ())))) else (Option.bind ((Option.bind (spec_l01In ((lenI x.1.2.1), (1, (6, ()))) ()) fun v2 => (some v2.1)) : (Option Bool)) fun v3 => (Option.bind ((if (notB v3) = true then (some (true, (x.1, ((lenI x.1.2.1), ())))) else (Option.bind ((if (ltZ 3 (lenI x.1.2.2.2.1)) = true then (some (true, (x.1, ((lenI x.1.2.1), ())))) else (Option.bind ((if (ltZ 2 (lenI x.1.2.2.2.2.1)) = true then (some (true, (x.1, ((lenI x.1.2.1), ())))) else (some ((ltZ 12 (lenI x.1.2.2.1)), (x.1, ((lenI x.1.2.1), ()))))) : (Option (Bool × (D_Project × (Int × Unit))))) fun v4 => (some (v4.1, (v4.2.1, (v4.2.2.1, ())))))) : (Option (Bool × (D_Project × (Int × Unit))))) fun v5 => (some (v5.1, (v5.2.1, (v5.2.2.1, ())))))) : (Option (Bool × (D_Project × (Int × Unit))))) fun v6 => (some (v6.1, (v6.2.1, (v6.2.2.1, ()))))))) : (Option (Bool × (D_Project × (Int × Unit))))) fun v7 => (if v7.1 = true then (some (false, ())) else (Option.bind (loopN (A := (Int × (Int × ((List D_Activity) × (D_Project × (Int × Unit)))))) big spec_ProjectOk_L0 (0, ((lenI v7.2.1.2.1), (v7.2.1.2.1, (v7.2.1, (v7.2.2.1, ())))))) fun v15 => (match v15 with | Out.norm v16 => none | Out.exit v17 => (match ((match v17 with | Sum.inl v63 => (Sum.inl (v63.2.2.2.2.1, (v63.2.2.2.2.2.1, ()))) | Sum.inr v64 => (Empty.elim v64)) : ((D_Project × (Int × Unit)) ⊕ Empty)) with | Sum.inl v18 => (Option.bind (loopN (A := (Int × (Int × ((List D_Resource) × (D_Project × (Int × Unit)))))) big spec_ProjectOk_L1 (0, ((lenI v18.1.2.2.2.1), (v18.1.2.2.2.1, (v18.1, (v18.2.1, ())))))) fun v23 => (match v23 with | Out.norm v24 => none | Out.exit v25 => (match ((match v25 with | Sum.inl v59 => (Sum.inl (v59.2.2.2.2.1, (v59.2.2.2.2.2.1, ()))) | Sum.inr v60 => (Empty.elim v60)) : ((D_Project × (Int × Unit)) ⊕ Empty)) with | Sum.inl v26 => (Option.bind (loopN (A := (Int × (Int × ((List Int) × (D_Project × (Int × Unit)))))) big spec_ProjectOk_L2 (0, ((lenI v26.1.2.2.2.2.1), (v26.1.2.2.2.2.1, (v26.1, (v26.2.1, ())))))) fun v31 => (match v31 with | Out.norm v32 => none | Out.exit v33 => (match ((match v33 with | Sum.inl v55 => (Sum.inl (v55.2.2.2.2.1, (v55.2.2.2.2.2.1, ()))) | Sum.inr v56 => (Empty.elim v56)) : ((D_Project × (Int × Unit)) ⊕ Empty)) with | Sum.inl v34 => (Option.bind (loopN (A := (Int × (Int × ((List D_Link) × (Int × Unit))))) big spec_ProjectOk_L3 (0, ((lenI v34.1.2.2.1), (v34.1.2.2.1, (v34.2.1, ()))))) fun v46 => (match v46 with | Out.norm v47 => none | Out.exit v48 => (match ((match v48 with | Sum.inl v51 => (Sum.inl ()) | Sum.inr v52 => (Empty.elim v52)) : (Unit ⊕ Empty)) with | Sum.inl v49 => (some (true, ())) | Sum.inr v50 => none) | Out.ret v53 => (some v53))) | Sum.inr v54 => none) | Out.ret v57 => (some v57))) | Sum.inr v58 => none) | Out.ret v61 => (some v61))) | Sum.inr v62 => none) | Out.ret v65 => (some v65))))))
def H_spec_ProjectOk : Hd := ⟨[.st [.int .i64, .sl 165 (.st [.str, .int .i64, .sl 167 (.st [.int .i64, .sl 3 (.int .i64), .sl 3 (.int .i64)])]), .sl 190 (.st [.int .i64, .int .i64, .bool, .int .i64]), .sl 187 (.st [.sl 210 (.st [.int .i64, .int .i64]), .sl 25 (.sl 3 (.int .i64))]), .sl 3 (.int .i64)]], [], none, .p, .bool, .p, []⟩
def T_spec_ProjectOk : FSig := ⟨H_spec_ProjectOk.ps, H_spec_ProjectOk.cs, H_spec_ProjectOk.io, H_spec_ProjectOk.im, H_spec_ProjectOk.R, H_spec_ProjectOk.m, spec_ProjectOk⟩
theorem E_spec_ProjectOk : fnOf tys [(110, T_spec_l01In), (153, T_spec_ActivityOk), (154, T_spec_ActivityIndex), (155, T_spec_ResourceOk)] Tryz.f74 H_spec_ProjectOk = T_spec_ProjectOk := by kernel_rfl
theorem K_spec_ProjectOk : SigOk Tryz.prog 74 T_spec_ProjectOk := (congrArg (SigOk Tryz.prog 74) E_spec_ProjectOk).mp (fnOf_ok rfl tysOk ⟨K_spec_l01In, K_spec_ActivityOk, K_spec_ActivityIndex, K_spec_ResourceOk, trivial⟩ Tryz.func74 (by decide) rfl (fun _ h => by cases h) (nilEq_of (by kernel_rfl)))
def spec_SetHas_L0 : (Int × (Int × ((List Int) × (Int × Unit)))) → Option (Out (Int × (Int × ((List Int) × (Int × Unit)))) ((Bool × (Int × (Int × ((List Int) × (Int × Unit))))) ⊕ Empty) (Bool × Unit)) :=
  (fun v0 => (if (ltZ v0.1 v0.2.1) = true then (Option.bind (getI v0.2.2.1 v0.1) fun v1 => (if (eqZ v1 v0.2.2.2.1) = true then (some (Out.ret (true, ()))) else (some (Out.norm ((addZ .i64 v0.1 1), (v0.2.1, (v0.2.2.1, (v0.2.2.2.1, ())))))))) else (some (Out.exit (Sum.inl ((ltZ v0.1 v0.2.1), (v0.1, (v0.2.1, (v0.2.2.1, (v0.2.2.2.1, ()))))))))))
def spec_SetHas (x : ((List Int) × (Int × Unit))) (c : Unit) : (Option (Bool × Unit)) :=
  (Option.bind (loopN (A := (Int × (Int × ((List Int) × (Int × Unit))))) big spec_SetHas_L0 (0, ((lenI x.1), (x.1, (x.2.1, ()))))) fun v2 => (match v2 with | Out.norm v3 => none | Out.exit v4 => (match ((match v4 with | Sum.inl v7 => (Sum.inl ()) | Sum.inr v8 => (Empty.elim v8)) : (Unit ⊕ Empty)) with | Sum.inl v5 => (some (false, ())) | Sum.inr v6 => none) | Out.ret v9 => (some v9)))
def H_spec_SetHas : Hd := ⟨[.sl 3 (.int .i64), .int .i64], [], none, .p, .bool, .p, []⟩
def T_spec_SetHas : FSig := ⟨H_spec_SetHas.ps, H_spec_SetHas.cs, H_spec_SetHas.io, H_spec_SetHas.im, H_spec_SetHas.R, H_spec_SetHas.m, spec_SetHas⟩
theorem E_spec_SetHas : fnOf tys [] Tryz.f173 H_spec_SetHas = T_spec_SetHas := by kernel_rfl
theorem K_spec_SetHas : SigOk Tryz.prog 173 T_spec_SetHas := (congrArg (SigOk Tryz.prog 173) E_spec_SetHas).mp (fnOf_ok rfl tysOk trivial Tryz.func173 (by decide) rfl (fun _ h => by cases h) (nilEq_of (by kernel_rfl)))
def spec_l02Put_L0 : (Int × ((List Int) × (Int × Unit))) → Option (Out (Int × ((List Int) × (Int × Unit))) ((Bool × (Int × ((List Int) × (Int × Unit)))) ⊕ Empty) ((List Int) × Unit)) :=
  (fun v2 => (Option.bind ((if (ltZ v2.2.2.1 (lenI v2.2.1)) = true then (Option.bind (getI v2.2.1 v2.2.2.1) fun v3 => (some ((ltZ v3 v2.1), (v2.1, (v2.2.1, (v2.2.2.1, ())))))) else (some (false, (v2.1, (v2.2.1, (v2.2.2.1, ())))))) : (Option (Bool × (Int × ((List Int) × (Int × Unit)))))) fun v4 => (if v4.1 = true then (some (Out.norm (v4.2.1, (v4.2.2.1, ((addZ .i64 v4.2.2.2.1 1), ()))))) else (some (Out.exit (Sum.inl v4))))))
def spec_l02Put (x : ((List Int) × (Int × Unit))) (c : Unit) : (Option ((List Int) × Unit)) :=
  (Option.bind ((Option.bind (spec_SetHas (x.1, (x.2.1, ())) ()) fun v0 => (some v0.1)) : (Option Bool)) fun v1 => (if v1 = true then (some (x.1, ())) else (Option.bind (loopN (A := (Int × ((List Int) × (Int × Unit)))) big spec_l02Put_L0 (x.2.1, (x.1, (0, ())))) fun v5 => (match v5 with | Out.norm v6 => none | Out.exit v7 => (match ((match v7 with | Sum.inl v15 => (Sum.inl (v15.2.1, (v15.2.2.1, (v15.2.2.2.1, ())))) | Sum.inr v16 => (Empty.elim v16)) : ((Int × ((List Int) × (Int × Unit))) ⊕ Empty)) with | Sum.inl v8 => (Option.bind (cutI v8.2.1 0 v8.2.2.1) fun v9 => (Option.bind (addI [] v9) fun v10 => (Option.bind (addI v10 (v8.1 :: [])) fun v11 => (Option.bind (cutI v8.2.1 v8.2.2.1 (lenI v8.2.1)) fun v12 => (Option.bind (addI v11 v12) fun v13 => (some (v13, ()))))))) | Sum.inr v14 => none) | Out.ret v17 => (some v17)))))
def H_spec_l02Put : Hd := ⟨[.sl 3 (.int .i64), .int .i64], [], none, .p, .sl 3 (.int .i64), .p, []⟩
def T_spec_l02Put : FSig := ⟨H_spec_l02Put.ps, H_spec_l02Put.cs, H_spec_l02Put.io, H_spec_l02Put.im, H_spec_l02Put.R, H_spec_l02Put.m, spec_l02Put⟩
theorem E_spec_l02Put : fnOf tys [(173, T_spec_SetHas)] Tryz.f240 H_spec_l02Put = T_spec_l02Put := by kernel_rfl
theorem K_spec_l02Put : SigOk Tryz.prog 240 T_spec_l02Put := (congrArg (SigOk Tryz.prog 240) E_spec_l02Put).mp (fnOf_ok rfl tysOk ⟨K_spec_SetHas, trivial⟩ Tryz.func240 (by decide) rfl (fun _ h => by cases h) (nilEq_of (by kernel_rfl)))
def spec_SetOf_L0 : (Int × D_Mode) → Option (Out (Int × D_Mode) ((Bool × (Int × D_Mode)) ⊕ Empty) ((List Int) × Unit)) :=
  (fun v0 => (if (ltZ v0.1 v0.2.1) = true then (Option.bind (getI v0.2.2.1 v0.1) fun v1 => (Option.bind ((Option.bind (spec_l02Put (v0.2.2.2.1, (v1, ())) ()) fun v2 => (some v2.1)) : (Option (List Int))) fun v3 => (some (Out.norm ((addZ .i64 v0.1 1), (v0.2.1, (v0.2.2.1, (v3, ())))))))) else (some (Out.exit (Sum.inl ((ltZ v0.1 v0.2.1), (v0.1, (v0.2.1, (v0.2.2.1, (v0.2.2.2.1, ()))))))))))
def spec_SetOf (x : ((List Int) × Unit)) (c : Unit) : (Option ((List Int) × Unit)) :=
  (Option.bind (loopN (A := (Int × D_Mode)) big spec_SetOf_L0 (0, ((lenI x.1), (x.1, ([], ()))))) fun v4 => (match v4 with | Out.norm v5 => none | Out.exit v6 => (match ((match v6 with | Sum.inl v9 => (Sum.inl (v9.2.2.2.2.1, ())) | Sum.inr v10 => (Empty.elim v10)) : (((List Int) × Unit) ⊕ Empty)) with | Sum.inl v7 => (some (v7.1, ())) | Sum.inr v8 => none) | Out.ret v11 => (some v11)))
def H_spec_SetOf : Hd := ⟨[.sl 3 (.int .i64)], [], none, .p, .sl 3 (.int .i64), .p, [(1, .p), (2, .p), (3, .p)]⟩
def T_spec_SetOf : FSig := ⟨H_spec_SetOf.ps, H_spec_SetOf.cs, H_spec_SetOf.io, H_spec_SetOf.im, H_spec_SetOf.R, H_spec_SetOf.m, spec_SetOf⟩
theorem E_spec_SetOf : fnOf tys [(240, T_spec_l02Put)] Tryz.f241 H_spec_SetOf = T_spec_SetOf := by kernel_rfl
theorem K_spec_SetOf : SigOk Tryz.prog 241 T_spec_SetOf := (congrArg (SigOk Tryz.prog 241) E_spec_SetOf).mp (fnOf_ok rfl tysOk ⟨K_spec_l02Put, trivial⟩ Tryz.func241 (by decide) rfl (fun _ h => by cases h) (nilEq_of (by kernel_rfl)))
def spec_IntRange_L0 : (Int × (Int × ((List Int) × Unit))) → Option (Out (Int × (Int × ((List Int) × Unit))) ((Bool × (Int × (Int × ((List Int) × Unit)))) ⊕ Empty) ((List Int) × Unit)) :=
  (fun v2 => (if (ltZ v2.1 v2.2.1) = true then (Option.bind (addI v2.2.2.1 (v2.1 :: [])) fun v3 => (some (Out.norm ((addZ .i64 v2.1 1), (v2.2.1, (v3, ())))))) else (some (Out.exit (Sum.inl ((ltZ v2.1 v2.2.1), (v2.1, (v2.2.1, (v2.2.2.1, ())))))))))
def spec_IntRange (x : (Int × Unit)) (c : Unit) : (Option ((List Int) × Unit)) :=
  (Option.bind ((Option.bind (spec_l01In (x.1, (0, (200, ()))) ()) fun v0 => (some v0.1)) : (Option Bool)) fun v1 => (if (notB v1) = true then (some ([], ())) else (Option.bind (loopN (A := (Int × (Int × ((List Int) × Unit)))) big spec_IntRange_L0 (0, (x.1, ([], ())))) fun v4 => (match v4 with | Out.norm v5 => none | Out.exit v6 => (match ((match v6 with | Sum.inl v9 => (Sum.inl (v9.2.2.2.1, ())) | Sum.inr v10 => (Empty.elim v10)) : (((List Int) × Unit) ⊕ Empty)) with | Sum.inl v7 => (some (v7.1, ())) | Sum.inr v8 => none) | Out.ret v11 => (some v11)))))
def H_spec_IntRange : Hd := ⟨[.int .i64], [], none, .p, .sl 3 (.int .i64), (Ty.all (.sl 3 (.int .i64))), []⟩
def T_spec_IntRange : FSig := ⟨H_spec_IntRange.ps, H_spec_IntRange.cs, H_spec_IntRange.io, H_spec_IntRange.im, H_spec_IntRange.R, H_spec_IntRange.m, spec_IntRange⟩
theorem E_spec_IntRange : fnOf tys [(110, T_spec_l01In)] Tryz.f247 H_spec_IntRange = T_spec_IntRange := by kernel_rfl
theorem K_spec_IntRange : SigOk Tryz.prog 247 T_spec_IntRange := (congrArg (SigOk Tryz.prog 247) E_spec_IntRange).mp (fnOf_ok rfl tysOk ⟨K_spec_l01In, trivial⟩ Tryz.func247 (by decide) rfl (fun _ h => by cases h) (nilEq_of (by kernel_rfl)))
def laws_toIntS_L0 : D_Mode → Option (Out D_Mode ((Bool × D_Mode) ⊕ Empty) ((List Int) × Unit)) :=
  (fun v1 => (if (ltZ v1.1 (lenI v1.2.1)) = true then (Option.bind (getI v1.2.1 v1.1) fun v2 => (Option.bind ((Option.bind (getI v1.2.2.1 v1.1) fun v3 => (some ())) : (Option Unit)) fun v4 => (Option.bind ((Option.bind ((Option.bind (getI v1.2.2.1 v1.1) fun v5 => (some v5)) : (Option Int)) fun v6 => (some v2)) : (Option Int)) fun v7 => (some (Out.norm ((addZ .i64 v1.1 1), (v1.2.1, ((setI v1.2.2.1 v1.1 (fun v8 => v7)), ())))))))) else (some (Out.exit (Sum.inl ((ltZ v1.1 (lenI v1.2.1)), (v1.1, (v1.2.1, (v1.2.2.1, ())))))))))
def laws_toIntS (x : ((List Int) × Unit)) (c : Unit) : (Option ((List Int) × Unit)) :=
  (Option.bind ((if (eqZ (lenI x.1) (lenI x.1)) = true then (zerosI (lenI x.1) 0) else none) : (Option (List Int))) fun v0 => (Option.bind (loopN (A := D_Mode) big laws_toIntS_L0 (0, (x.1, (v0, ())))) fun v9 => (match v9 with | Out.norm v10 => none | Out.exit v11 => (match ((match v11 with | Sum.inl v14 => (Sum.inl (v14.2.2.2.1, ())) | Sum.inr v15 => (Empty.elim v15)) : (((List Int) × Unit) ⊕ Empty)) with | Sum.inl v12 => (some (v12.1, ())) | Sum.inr v13 => none) | Out.ret v16 => (some v16))))
def H_laws_toIntS : Hd := ⟨[.sl 3 (.int .i64)], [], none, .p, .sl 3 (.int .i64), (Ty.all (.sl 3 (.int .i64))), []⟩
def T_laws_toIntS : FSig := ⟨H_laws_toIntS.ps, H_laws_toIntS.cs, H_laws_toIntS.io, H_laws_toIntS.im, H_laws_toIntS.R, H_laws_toIntS.m, laws_toIntS⟩
theorem E_laws_toIntS : fnOf tys [] Tryz.f80 H_laws_toIntS = T_laws_toIntS := by kernel_rfl
theorem K_laws_toIntS : SigOk Tryz.prog 80 T_laws_toIntS := (congrArg (SigOk Tryz.prog 80) E_laws_toIntS).mp (fnOf_ok rfl tysOk trivial Tryz.func80 (by decide) rfl (fun _ h => by cases h) (nilEq_of (by kernel_rfl)))
def laws_toMode (x : (D_Mode × Unit)) (c : Unit) : (Option (D_Mode × Unit)) :=
  (Option.bind ((Option.bind (laws_toIntS (x.1.2.1, ()) ()) fun v0 => (some v0.1)) : (Option (List Int))) fun v1 => (Option.bind ((Option.bind (laws_toIntS (x.1.2.2.1, ()) ()) fun v2 => (some v2.1)) : (Option (List Int))) fun v3 => (some ((x.1.1, (v1, (v3, ()))), ()))))
def H_laws_toMode : Hd := ⟨[.st [.int .i64, .sl 3 (.int .i64), .sl 3 (.int .i64)]], [], none, .p, .st [.int .i64, .sl 3 (.int .i64), .sl 3 (.int .i64)], (Ty.all (.st [.int .i64, .sl 3 (.int .i64), .sl 3 (.int .i64)])), []⟩
def T_laws_toMode : FSig := ⟨H_laws_toMode.ps, H_laws_toMode.cs, H_laws_toMode.io, H_laws_toMode.im, H_laws_toMode.R, H_laws_toMode.m, laws_toMode⟩
theorem E_laws_toMode : fnOf tys [(80, T_laws_toIntS)] Tryz.f302 H_laws_toMode = T_laws_toMode := by kernel_rfl
theorem K_laws_toMode : SigOk Tryz.prog 302 T_laws_toMode := (congrArg (SigOk Tryz.prog 302) E_laws_toMode).mp (fnOf_ok rfl tysOk ⟨K_laws_toIntS, trivial⟩ Tryz.func302 (by decide) rfl (fun _ h => by cases h) (nilEq_of (by kernel_rfl)))
def laws_toModeS_L0 : (Int × ((List D_Mode) × ((List D_Mode) × Unit))) → Option (Out (Int × ((List D_Mode) × ((List D_Mode) × Unit))) ((Bool × (Int × ((List D_Mode) × ((List D_Mode) × Unit)))) ⊕ Empty) ((List D_Mode) × Unit)) :=
  (fun v1 => (if (ltZ v1.1 (lenI v1.2.1)) = true then (Option.bind (getI v1.2.1 v1.1) fun v2 => (Option.bind ((Option.bind (laws_toMode (v2, ()) ()) fun v3 => (some v3.1)) : (Option D_Mode)) fun v4 => (Option.bind ((Option.bind (getI v1.2.2.1 v1.1) fun v5 => (some ())) : (Option Unit)) fun v6 => (Option.bind ((Option.bind ((Option.bind (getI v1.2.2.1 v1.1) fun v7 => (some v7)) : (Option D_Mode)) fun v8 => (some v4)) : (Option D_Mode)) fun v9 => (some (Out.norm ((addZ .i64 v1.1 1), (v1.2.1, ((setI v1.2.2.1 v1.1 (fun v10 => v9)), ()))))))))) else (some (Out.exit (Sum.inl ((ltZ v1.1 (lenI v1.2.1)), (v1.1, (v1.2.1, (v1.2.2.1, ())))))))))
def laws_toModeS (x : ((List D_Mode) × Unit)) (c : Unit) : (Option ((List D_Mode) × Unit)) :=
  (Option.bind ((if (eqZ (lenI x.1) (lenI x.1)) = true then (zerosI (lenI x.1) (0, ([], ([], ())))) else none) : (Option (List D_Mode))) fun v0 => (Option.bind (loopN (A := (Int × ((List D_Mode) × ((List D_Mode) × Unit)))) big laws_toModeS_L0 (0, (x.1, (v0, ())))) fun v11 => (match v11 with | Out.norm v12 => none | Out.exit v13 => (match ((match v13 with | Sum.inl v16 => (Sum.inl (v16.2.2.2.1, ())) | Sum.inr v17 => (Empty.elim v17)) : (((List D_Mode) × Unit) ⊕ Empty)) with | Sum.inl v14 => (some (v14.1, ())) | Sum.inr v15 => none) | Out.ret v18 => (some v18))))
def H_laws_toModeS : Hd := ⟨[.sl 269 (.st [.int .i64, .sl 3 (.int .i64), .sl 3 (.int .i64)])], [], none, .p, .sl 167 (.st [.int .i64, .sl 3 (.int .i64), .sl 3 (.int .i64)]), (Ty.all (.sl 167 (.st [.int .i64, .sl 3 (.int .i64), .sl 3 (.int .i64)]))), []⟩
def T_laws_toModeS : FSig := ⟨H_laws_toModeS.ps, H_laws_toModeS.cs, H_laws_toModeS.io, H_laws_toModeS.im, H_laws_toModeS.R, H_laws_toModeS.m, laws_toModeS⟩
theorem E_laws_toModeS : fnOf tys [(302, T_laws_toMode)] Tryz.f248 H_laws_toModeS = T_laws_toModeS := by kernel_rfl
theorem K_laws_toModeS : SigOk Tryz.prog 248 T_laws_toModeS := (congrArg (SigOk Tryz.prog 248) E_laws_toModeS).mp (fnOf_ok rfl tysOk ⟨K_laws_toMode, trivial⟩ Tryz.func248 (by decide) rfl (fun _ h => by cases h) (nilEq_of (by kernel_rfl)))
def laws_toActivity (x : (D_Activity × Unit)) (c : Unit) : (Option (D_Activity × Unit)) :=
  (Option.bind ((Option.bind (laws_toModeS (x.1.2.2.1, ()) ()) fun v0 => (some v0.1)) : (Option (List D_Mode))) fun v1 => (some ((x.1.1, (x.1.2.1, (v1, ()))), ())))
def H_laws_toActivity : Hd := ⟨[.st [.str, .int .i64, .sl 269 (.st [.int .i64, .sl 3 (.int .i64), .sl 3 (.int .i64)])]], [], none, .p, .st [.str, .int .i64, .sl 167 (.st [.int .i64, .sl 3 (.int .i64), .sl 3 (.int .i64)])], (Ty.all (.st [.str, .int .i64, .sl 167 (.st [.int .i64, .sl 3 (.int .i64), .sl 3 (.int .i64)])])), []⟩
def T_laws_toActivity : FSig := ⟨H_laws_toActivity.ps, H_laws_toActivity.cs, H_laws_toActivity.io, H_laws_toActivity.im, H_laws_toActivity.R, H_laws_toActivity.m, laws_toActivity⟩
theorem E_laws_toActivity : fnOf tys [(248, T_laws_toModeS)] Tryz.f158 H_laws_toActivity = T_laws_toActivity := by kernel_rfl
theorem K_laws_toActivity : SigOk Tryz.prog 158 T_laws_toActivity := (congrArg (SigOk Tryz.prog 158) E_laws_toActivity).mp (fnOf_ok rfl tysOk ⟨K_laws_toModeS, trivial⟩ Tryz.func158 (by decide) rfl (fun _ h => by cases h) (nilEq_of (by kernel_rfl)))
def laws_toActivityS_L0 : (Int × ((List D_Activity) × ((List D_Activity) × Unit))) → Option (Out (Int × ((List D_Activity) × ((List D_Activity) × Unit))) ((Bool × (Int × ((List D_Activity) × ((List D_Activity) × Unit)))) ⊕ Empty) ((List D_Activity) × Unit)) :=
  (fun v1 => (if (ltZ v1.1 (lenI v1.2.1)) = true then (Option.bind (getI v1.2.1 v1.1) fun v2 => (Option.bind ((Option.bind (laws_toActivity (v2, ()) ()) fun v3 => (some v3.1)) : (Option D_Activity)) fun v4 => (Option.bind ((Option.bind (getI v1.2.2.1 v1.1) fun v5 => (some ())) : (Option Unit)) fun v6 => (Option.bind ((Option.bind ((Option.bind (getI v1.2.2.1 v1.1) fun v7 => (some v7)) : (Option D_Activity)) fun v8 => (some v4)) : (Option D_Activity)) fun v9 => (some (Out.norm ((addZ .i64 v1.1 1), (v1.2.1, ((setI v1.2.2.1 v1.1 (fun v10 => v9)), ()))))))))) else (some (Out.exit (Sum.inl ((ltZ v1.1 (lenI v1.2.1)), (v1.1, (v1.2.1, (v1.2.2.1, ())))))))))
def laws_toActivityS (x : ((List D_Activity) × Unit)) (c : Unit) : (Option ((List D_Activity) × Unit)) :=
  (Option.bind ((if (eqZ (lenI x.1) (lenI x.1)) = true then (zerosI (lenI x.1) ([], (0, ([], ())))) else none) : (Option (List D_Activity))) fun v0 => (Option.bind (loopN (A := (Int × ((List D_Activity) × ((List D_Activity) × Unit)))) big laws_toActivityS_L0 (0, (x.1, (v0, ())))) fun v11 => (match v11 with | Out.norm v12 => none | Out.exit v13 => (match ((match v13 with | Sum.inl v16 => (Sum.inl (v16.2.2.2.1, ())) | Sum.inr v17 => (Empty.elim v17)) : (((List D_Activity) × Unit) ⊕ Empty)) with | Sum.inl v14 => (some (v14.1, ())) | Sum.inr v15 => none) | Out.ret v18 => (some v18))))
def H_laws_toActivityS : Hd := ⟨[.sl 178 (.st [.str, .int .i64, .sl 269 (.st [.int .i64, .sl 3 (.int .i64), .sl 3 (.int .i64)])])], [], none, .p, .sl 165 (.st [.str, .int .i64, .sl 167 (.st [.int .i64, .sl 3 (.int .i64), .sl 3 (.int .i64)])]), (Ty.all (.sl 165 (.st [.str, .int .i64, .sl 167 (.st [.int .i64, .sl 3 (.int .i64), .sl 3 (.int .i64)])]))), []⟩
def T_laws_toActivityS : FSig := ⟨H_laws_toActivityS.ps, H_laws_toActivityS.cs, H_laws_toActivityS.io, H_laws_toActivityS.im, H_laws_toActivityS.R, H_laws_toActivityS.m, laws_toActivityS⟩
theorem E_laws_toActivityS : fnOf tys [(158, T_laws_toActivity)] Tryz.f77 H_laws_toActivityS = T_laws_toActivityS := by kernel_rfl
theorem K_laws_toActivityS : SigOk Tryz.prog 77 T_laws_toActivityS := (congrArg (SigOk Tryz.prog 77) E_laws_toActivityS).mp (fnOf_ok rfl tysOk ⟨K_laws_toActivity, trivial⟩ Tryz.func77 (by decide) rfl (fun _ h => by cases h) (nilEq_of (by kernel_rfl)))
def laws_toLink (x : (D_Link × Unit)) (c : Unit) : (Option (D_Link × Unit)) :=
  (some ((x.1.1, (x.1.2.1, (x.1.2.2.1, (x.1.2.2.2.1, ())))), ()))
def H_laws_toLink : Hd := ⟨[.st [.int .i64, .int .i64, .bool, .int .i64]], [], none, .p, .st [.int .i64, .int .i64, .bool, .int .i64], .p, []⟩
def T_laws_toLink : FSig := ⟨H_laws_toLink.ps, H_laws_toLink.cs, H_laws_toLink.io, H_laws_toLink.im, H_laws_toLink.R, H_laws_toLink.m, laws_toLink⟩
theorem E_laws_toLink : fnOf tys [] Tryz.f159 H_laws_toLink = T_laws_toLink := by kernel_rfl
theorem K_laws_toLink : SigOk Tryz.prog 159 T_laws_toLink := (congrArg (SigOk Tryz.prog 159) E_laws_toLink).mp (fnOf_ok rfl tysOk trivial Tryz.func159 (by decide) rfl (fun _ h => by cases h) (nilEq_of (by kernel_rfl)))
def laws_toLinkS_L0 : (Int × ((List D_Link) × ((List D_Link) × Unit))) → Option (Out (Int × ((List D_Link) × ((List D_Link) × Unit))) ((Bool × (Int × ((List D_Link) × ((List D_Link) × Unit)))) ⊕ Empty) ((List D_Link) × Unit)) :=
  (fun v1 => (if (ltZ v1.1 (lenI v1.2.1)) = true then (Option.bind (getI v1.2.1 v1.1) fun v2 => (Option.bind ((Option.bind (laws_toLink (v2, ()) ()) fun v3 => (some v3.1)) : (Option D_Link)) fun v4 => (Option.bind ((Option.bind (getI v1.2.2.1 v1.1) fun v5 => (some ())) : (Option Unit)) fun v6 => (Option.bind ((Option.bind ((Option.bind (getI v1.2.2.1 v1.1) fun v7 => (some v7)) : (Option D_Link)) fun v8 => (some v4)) : (Option D_Link)) fun v9 => (some (Out.norm ((addZ .i64 v1.1 1), (v1.2.1, ((setI v1.2.2.1 v1.1 (fun v10 => v9)), ()))))))))) else (some (Out.exit (Sum.inl ((ltZ v1.1 (lenI v1.2.1)), (v1.1, (v1.2.1, (v1.2.2.1, ())))))))))
def laws_toLinkS (x : ((List D_Link) × Unit)) (c : Unit) : (Option ((List D_Link) × Unit)) :=
  (Option.bind ((if (eqZ (lenI x.1) (lenI x.1)) = true then (zerosI (lenI x.1) (0, (0, (false, (0, ()))))) else none) : (Option (List D_Link))) fun v0 => (Option.bind (loopN (A := (Int × ((List D_Link) × ((List D_Link) × Unit)))) big laws_toLinkS_L0 (0, (x.1, (v0, ())))) fun v11 => (match v11 with | Out.norm v12 => none | Out.exit v13 => (match ((match v13 with | Sum.inl v16 => (Sum.inl (v16.2.2.2.1, ())) | Sum.inr v17 => (Empty.elim v17)) : (((List D_Link) × Unit) ⊕ Empty)) with | Sum.inl v14 => (some (v14.1, ())) | Sum.inr v15 => none) | Out.ret v18 => (some v18))))
def H_laws_toLinkS : Hd := ⟨[.sl 194 (.st [.int .i64, .int .i64, .bool, .int .i64])], [], none, .p, .sl 190 (.st [.int .i64, .int .i64, .bool, .int .i64]), (Ty.all (.sl 190 (.st [.int .i64, .int .i64, .bool, .int .i64]))), []⟩
def T_laws_toLinkS : FSig := ⟨H_laws_toLinkS.ps, H_laws_toLinkS.cs, H_laws_toLinkS.io, H_laws_toLinkS.im, H_laws_toLinkS.R, H_laws_toLinkS.m, laws_toLinkS⟩
theorem E_laws_toLinkS : fnOf tys [(159, T_laws_toLink)] Tryz.f78 H_laws_toLinkS = T_laws_toLinkS := by kernel_rfl
theorem K_laws_toLinkS : SigOk Tryz.prog 78 T_laws_toLinkS := (congrArg (SigOk Tryz.prog 78) E_laws_toLinkS).mp (fnOf_ok rfl tysOk ⟨K_laws_toLink, trivial⟩ Tryz.func78 (by decide) rfl (fun _ h => by cases h) (nilEq_of (by kernel_rfl)))
def laws_toIntSS_L0 : (Int × ((List (List Int)) × ((List (List Int)) × Unit))) → Option (Out (Int × ((List (List Int)) × ((List (List Int)) × Unit))) ((Bool × (Int × ((List (List Int)) × ((List (List Int)) × Unit)))) ⊕ Empty) ((List (List Int)) × Unit)) :=
  (fun v1 => (if (ltZ v1.1 (lenI v1.2.1)) = true then (Option.bind (getI v1.2.1 v1.1) fun v2 => (Option.bind ((Option.bind (laws_toIntS (v2, ()) ()) fun v3 => (some v3.1)) : (Option (List Int))) fun v4 => (Option.bind ((Option.bind (getI v1.2.2.1 v1.1) fun v5 => (some ())) : (Option Unit)) fun v6 => (Option.bind ((Option.bind ((Option.bind (getI v1.2.2.1 v1.1) fun v7 => (some v7)) : (Option (List Int))) fun v8 => (some v4)) : (Option (List Int))) fun v9 => (some (Out.norm ((addZ .i64 v1.1 1), (v1.2.1, ((setI v1.2.2.1 v1.1 (fun v10 => v9)), ()))))))))) else (some (Out.exit (Sum.inl ((ltZ v1.1 (lenI v1.2.1)), (v1.1, (v1.2.1, (v1.2.2.1, ())))))))))
def laws_toIntSS (x : ((List (List Int)) × Unit)) (c : Unit) : (Option ((List (List Int)) × Unit)) :=
  (Option.bind ((if (eqZ (lenI x.1) (lenI x.1)) = true then (zerosI (lenI x.1) []) else none) : (Option (List (List Int)))) fun v0 => (Option.bind (loopN (A := (Int × ((List (List Int)) × ((List (List Int)) × Unit)))) big laws_toIntSS_L0 (0, (x.1, (v0, ())))) fun v11 => (match v11 with | Out.norm v12 => none | Out.exit v13 => (match ((match v13 with | Sum.inl v16 => (Sum.inl (v16.2.2.2.1, ())) | Sum.inr v17 => (Empty.elim v17)) : (((List (List Int)) × Unit) ⊕ Empty)) with | Sum.inl v14 => (some (v14.1, ())) | Sum.inr v15 => none) | Out.ret v18 => (some v18))))
def H_laws_toIntSS : Hd := ⟨[.sl 25 (.sl 3 (.int .i64))], [], none, .p, .sl 25 (.sl 3 (.int .i64)), (Ty.all (.sl 25 (.sl 3 (.int .i64)))), []⟩
def T_laws_toIntSS : FSig := ⟨H_laws_toIntSS.ps, H_laws_toIntSS.cs, H_laws_toIntSS.io, H_laws_toIntSS.im, H_laws_toIntSS.R, H_laws_toIntSS.m, laws_toIntSS⟩
theorem E_laws_toIntSS : fnOf tys [(80, T_laws_toIntS)] Tryz.f100 H_laws_toIntSS = T_laws_toIntSS := by kernel_rfl
theorem K_laws_toIntSS : SigOk Tryz.prog 100 T_laws_toIntSS := (congrArg (SigOk Tryz.prog 100) E_laws_toIntSS).mp (fnOf_ok rfl tysOk ⟨K_laws_toIntS, trivial⟩ Tryz.func100 (by decide) rfl (fun _ h => by cases h) (nilEq_of (by kernel_rfl)))
def laws_toStep (x : (D_Step × Unit)) (c : Unit) : (Option (D_Step × Unit)) :=
  (some ((x.1.1, (x.1.2.1, ())), ()))
def H_laws_toStep : Hd := ⟨[.st [.int .i64, .int .i64]], [], none, .p, .st [.int .i64, .int .i64], .p, []⟩
def T_laws_toStep : FSig := ⟨H_laws_toStep.ps, H_laws_toStep.cs, H_laws_toStep.io, H_laws_toStep.im, H_laws_toStep.R, H_laws_toStep.m, laws_toStep⟩
theorem E_laws_toStep : fnOf tys [] Tryz.f303 H_laws_toStep = T_laws_toStep := by kernel_rfl
theorem K_laws_toStep : SigOk Tryz.prog 303 T_laws_toStep := (congrArg (SigOk Tryz.prog 303) E_laws_toStep).mp (fnOf_ok rfl tysOk trivial Tryz.func303 (by decide) rfl (fun _ h => by cases h) (nilEq_of (by kernel_rfl)))
def laws_toStepS_L0 : (Int × ((List D_Step) × ((List D_Step) × Unit))) → Option (Out (Int × ((List D_Step) × ((List D_Step) × Unit))) ((Bool × (Int × ((List D_Step) × ((List D_Step) × Unit)))) ⊕ Empty) ((List D_Step) × Unit)) :=
  (fun v1 => (if (ltZ v1.1 (lenI v1.2.1)) = true then (Option.bind (getI v1.2.1 v1.1) fun v2 => (Option.bind ((Option.bind (laws_toStep (v2, ()) ()) fun v3 => (some v3.1)) : (Option D_Step)) fun v4 => (Option.bind ((Option.bind (getI v1.2.2.1 v1.1) fun v5 => (some ())) : (Option Unit)) fun v6 => (Option.bind ((Option.bind ((Option.bind (getI v1.2.2.1 v1.1) fun v7 => (some v7)) : (Option D_Step)) fun v8 => (some v4)) : (Option D_Step)) fun v9 => (some (Out.norm ((addZ .i64 v1.1 1), (v1.2.1, ((setI v1.2.2.1 v1.1 (fun v10 => v9)), ()))))))))) else (some (Out.exit (Sum.inl ((ltZ v1.1 (lenI v1.2.1)), (v1.1, (v1.2.1, (v1.2.2.1, ())))))))))
def laws_toStepS (x : ((List D_Step) × Unit)) (c : Unit) : (Option ((List D_Step) × Unit)) :=
  (Option.bind ((if (eqZ (lenI x.1) (lenI x.1)) = true then (zerosI (lenI x.1) (0, (0, ()))) else none) : (Option (List D_Step))) fun v0 => (Option.bind (loopN (A := (Int × ((List D_Step) × ((List D_Step) × Unit)))) big laws_toStepS_L0 (0, (x.1, (v0, ())))) fun v11 => (match v11 with | Out.norm v12 => none | Out.exit v13 => (match ((match v13 with | Sum.inl v16 => (Sum.inl (v16.2.2.2.1, ())) | Sum.inr v17 => (Empty.elim v17)) : (((List D_Step) × Unit) ⊕ Empty)) with | Sum.inl v14 => (some (v14.1, ())) | Sum.inr v15 => none) | Out.ret v18 => (some v18))))
def H_laws_toStepS : Hd := ⟨[.sl 272 (.st [.int .i64, .int .i64])], [], none, .p, .sl 210 (.st [.int .i64, .int .i64]), (Ty.all (.sl 210 (.st [.int .i64, .int .i64]))), []⟩
def T_laws_toStepS : FSig := ⟨H_laws_toStepS.ps, H_laws_toStepS.cs, H_laws_toStepS.io, H_laws_toStepS.im, H_laws_toStepS.R, H_laws_toStepS.m, laws_toStepS⟩
theorem E_laws_toStepS : fnOf tys [(303, T_laws_toStep)] Tryz.f249 H_laws_toStepS = T_laws_toStepS := by kernel_rfl
theorem K_laws_toStepS : SigOk Tryz.prog 249 T_laws_toStepS := (congrArg (SigOk Tryz.prog 249) E_laws_toStepS).mp (fnOf_ok rfl tysOk ⟨K_laws_toStep, trivial⟩ Tryz.func249 (by decide) rfl (fun _ h => by cases h) (nilEq_of (by kernel_rfl)))
def laws_toResource (x : (D_Resource × Unit)) (c : Unit) : (Option (D_Resource × Unit)) :=
  (Option.bind ((Option.bind (laws_toStepS (x.1.1, ()) ()) fun v0 => (some v0.1)) : (Option (List D_Step))) fun v1 => (Option.bind ((Option.bind (laws_toIntSS (x.1.2.1, ()) ()) fun v2 => (some v2.1)) : (Option (List (List Int)))) fun v3 => (some ((v1, (v3, ())), ()))))
def H_laws_toResource : Hd := ⟨[.st [.sl 272 (.st [.int .i64, .int .i64]), .sl 25 (.sl 3 (.int .i64))]], [], none, .p, .st [.sl 210 (.st [.int .i64, .int .i64]), .sl 25 (.sl 3 (.int .i64))], (Ty.all (.st [.sl 210 (.st [.int .i64, .int .i64]), .sl 25 (.sl 3 (.int .i64))])), []⟩
def T_laws_toResource : FSig := ⟨H_laws_toResource.ps, H_laws_toResource.cs, H_laws_toResource.io, H_laws_toResource.im, H_laws_toResource.R, H_laws_toResource.m, laws_toResource⟩
theorem E_laws_toResource : fnOf tys [(100, T_laws_toIntSS), (249, T_laws_toStepS)] Tryz.f160 H_laws_toResource = T_laws_toResource := by kernel_rfl
theorem K_laws_toResource : SigOk Tryz.prog 160 T_laws_toResource := (congrArg (SigOk Tryz.prog 160) E_laws_toResource).mp (fnOf_ok rfl tysOk ⟨K_laws_toIntSS, K_laws_toStepS, trivial⟩ Tryz.func160 (by decide) rfl (fun _ h => by cases h) (nilEq_of (by kernel_rfl)))
def laws_toResourceS_L0 : (Int × ((List D_Resource) × ((List D_Resource) × Unit))) → Option (Out (Int × ((List D_Resource) × ((List D_Resource) × Unit))) ((Bool × (Int × ((List D_Resource) × ((List D_Resource) × Unit)))) ⊕ Empty) ((List D_Resource) × Unit)) :=
  (fun v1 => (if (ltZ v1.1 (lenI v1.2.1)) = true then (Option.bind (getI v1.2.1 v1.1) fun v2 => (Option.bind ((Option.bind (laws_toResource (v2, ()) ()) fun v3 => (some v3.1)) : (Option D_Resource)) fun v4 => (Option.bind ((Option.bind (getI v1.2.2.1 v1.1) fun v5 => (some ())) : (Option Unit)) fun v6 => (Option.bind ((Option.bind ((Option.bind (getI v1.2.2.1 v1.1) fun v7 => (some v7)) : (Option D_Resource)) fun v8 => (some v4)) : (Option D_Resource)) fun v9 => (some (Out.norm ((addZ .i64 v1.1 1), (v1.2.1, ((setI v1.2.2.1 v1.1 (fun v10 => v9)), ()))))))))) else (some (Out.exit (Sum.inl ((ltZ v1.1 (lenI v1.2.1)), (v1.1, (v1.2.1, (v1.2.2.1, ())))))))))
def laws_toResourceS (x : ((List D_Resource) × Unit)) (c : Unit) : (Option ((List D_Resource) × Unit)) :=
  (Option.bind ((if (eqZ (lenI x.1) (lenI x.1)) = true then (zerosI (lenI x.1) ([], ([], ()))) else none) : (Option (List D_Resource))) fun v0 => (Option.bind (loopN (A := (Int × ((List D_Resource) × ((List D_Resource) × Unit)))) big laws_toResourceS_L0 (0, (x.1, (v0, ())))) fun v11 => (match v11 with | Out.norm v12 => none | Out.exit v13 => (match ((match v13 with | Sum.inl v16 => (Sum.inl (v16.2.2.2.1, ())) | Sum.inr v17 => (Empty.elim v17)) : (((List D_Resource) × Unit) ⊕ Empty)) with | Sum.inl v14 => (some (v14.1, ())) | Sum.inr v15 => none) | Out.ret v18 => (some v18))))
def H_laws_toResourceS : Hd := ⟨[.sl 182 (.st [.sl 272 (.st [.int .i64, .int .i64]), .sl 25 (.sl 3 (.int .i64))])], [], none, .p, .sl 187 (.st [.sl 210 (.st [.int .i64, .int .i64]), .sl 25 (.sl 3 (.int .i64))]), (Ty.all (.sl 187 (.st [.sl 210 (.st [.int .i64, .int .i64]), .sl 25 (.sl 3 (.int .i64))]))), []⟩
def T_laws_toResourceS : FSig := ⟨H_laws_toResourceS.ps, H_laws_toResourceS.cs, H_laws_toResourceS.io, H_laws_toResourceS.im, H_laws_toResourceS.R, H_laws_toResourceS.m, laws_toResourceS⟩
theorem E_laws_toResourceS : fnOf tys [(160, T_laws_toResource)] Tryz.f79 H_laws_toResourceS = T_laws_toResourceS := by kernel_rfl
theorem K_laws_toResourceS : SigOk Tryz.prog 79 T_laws_toResourceS := (congrArg (SigOk Tryz.prog 79) E_laws_toResourceS).mp (fnOf_ok rfl tysOk ⟨K_laws_toResource, trivial⟩ Tryz.func79 (by decide) rfl (fun _ h => by cases h) (nilEq_of (by kernel_rfl)))
def laws_toProject (x : (D_Project × Unit)) (c : Unit) : (Option (D_Project × Unit)) :=
  (Option.bind ((Option.bind (laws_toActivityS (x.1.2.1, ()) ()) fun v0 => (some v0.1)) : (Option (List D_Activity))) fun v1 => (Option.bind ((Option.bind (laws_toLinkS (x.1.2.2.1, ()) ()) fun v2 => (some v2.1)) : (Option (List D_Link))) fun v3 => (Option.bind ((Option.bind (laws_toResourceS (x.1.2.2.2.1, ()) ()) fun v4 => (some v4.1)) : (Option (List D_Resource))) fun v5 => (Option.bind ((Option.bind (laws_toIntS (x.1.2.2.2.2.1, ()) ()) fun v6 => (some v6.1)) : (Option (List Int))) fun v7 => (some ((x.1.1, (v1, (v3, (v5, (v7, ()))))), ()))))))
def H_laws_toProject : Hd := ⟨[.st [.int .i64, .sl 178 (.st [.str, .int .i64, .sl 269 (.st [.int .i64, .sl 3 (.int .i64), .sl 3 (.int .i64)])]), .sl 194 (.st [.int .i64, .int .i64, .bool, .int .i64]), .sl 182 (.st [.sl 272 (.st [.int .i64, .int .i64]), .sl 25 (.sl 3 (.int .i64))]), .sl 3 (.int .i64)]], [], none, .p, .st [.int .i64, .sl 165 (.st [.str, .int .i64, .sl 167 (.st [.int .i64, .sl 3 (.int .i64), .sl 3 (.int .i64)])]), .sl 190 (.st [.int .i64, .int .i64, .bool, .int .i64]), .sl 187 (.st [.sl 210 (.st [.int .i64, .int .i64]), .sl 25 (.sl 3 (.int .i64))]), .sl 3 (.int .i64)], (Ty.all (.st [.int .i64, .sl 165 (.st [.str, .int .i64, .sl 167 (.st [.int .i64, .sl 3 (.int .i64), .sl 3 (.int .i64)])]), .sl 190 (.st [.int .i64, .int .i64, .bool, .int .i64]), .sl 187 (.st [.sl 210 (.st [.int .i64, .int .i64]), .sl 25 (.sl 3 (.int .i64))]), .sl 3 (.int .i64)])), []⟩
def T_laws_toProject : FSig := ⟨H_laws_toProject.ps, H_laws_toProject.cs, H_laws_toProject.io, H_laws_toProject.im, H_laws_toProject.R, H_laws_toProject.m, laws_toProject⟩
theorem E_laws_toProject : fnOf tys [(77, T_laws_toActivityS), (78, T_laws_toLinkS), (79, T_laws_toResourceS), (80, T_laws_toIntS)] Tryz.f17 H_laws_toProject = T_laws_toProject := by kernel_rfl
theorem K_laws_toProject : SigOk Tryz.prog 17 T_laws_toProject := (congrArg (SigOk Tryz.prog 17) E_laws_toProject).mp (fnOf_ok rfl tysOk ⟨K_laws_toActivityS, K_laws_toLinkS, K_laws_toResourceS, K_laws_toIntS, trivial⟩ Tryz.func17 (by decide) rfl (fun _ h => by cases h) (nilEq_of (by kernel_rfl)))
def impl_within (x : (Int × D_Step)) (c : Unit) : (Option (Bool × Unit)) :=
  (Option.bind ((if (leZ x.2.1 x.1) = true then (some ((leZ x.1 x.2.2.1), ())) else (some (false, ()))) : (Option (Bool × Unit))) fun v0 => (some (v0.1, ())))
def H_impl_within : Hd := ⟨[.int .i64, .int .i64, .int .i64], [], none, .p, .bool, .p, []⟩
def T_impl_within : FSig := ⟨H_impl_within.ps, H_impl_within.cs, H_impl_within.io, H_impl_within.im, H_impl_within.R, H_impl_within.m, impl_within⟩
theorem E_impl_within : fnOf tys [] Tryz.f116 H_impl_within = T_impl_within := by kernel_rfl
theorem K_impl_within : SigOk Tryz.prog 116 T_impl_within := (congrArg (SigOk Tryz.prog 116) E_impl_within).mp (fnOf_ok rfl tysOk trivial Tryz.func116 (by decide) rfl (fun _ h => by cases h) (nilEq_of (by kernel_rfl)))
def impl_isAmount (x : (Int × Unit)) (c : Unit) : (Option (Bool × Unit)) :=
  (Option.bind ((Option.bind (impl_within (x.1, (0, (20, ()))) ()) fun v0 => (some v0.1)) : (Option Bool)) fun v1 => (some (v1, ())))
def H_impl_isAmount : Hd := ⟨[.int .i64], [], none, .p, .bool, .p, []⟩
def T_impl_isAmount : FSig := ⟨H_impl_isAmount.ps, H_impl_isAmount.cs, H_impl_isAmount.io, H_impl_isAmount.im, H_impl_isAmount.R, H_impl_isAmount.m, impl_isAmount⟩
theorem E_impl_isAmount : fnOf tys [(116, T_impl_within)] Tryz.f307 H_impl_isAmount = T_impl_isAmount := by kernel_rfl
theorem K_impl_isAmount : SigOk Tryz.prog 307 T_impl_isAmount := (congrArg (SigOk Tryz.prog 307) E_impl_isAmount).mp (fnOf_ok rfl tysOk ⟨K_impl_within, trivial⟩ Tryz.func307 (by decide) rfl (fun _ h => by cases h) (nilEq_of (by kernel_rfl)))
def impl_areAmounts_L0 : (Int × (Int × ((List Int) × ((List Int) × (Int × Unit))))) → Option (Out (Int × (Int × ((List Int) × ((List Int) × (Int × Unit))))) ((Bool × (Int × (Int × ((List Int) × ((List Int) × (Int × Unit)))))) ⊕ Empty) (Bool × Unit)) :=
  (fun v0 => (if (ltZ v0.1 v0.2.1) = true then (Option.bind (getI v0.2.2.1 v0.1) fun v1 => (Option.bind ((Option.bind (impl_isAmount (v1, ()) ()) fun v2 => (some v2.1)) : (Option Bool)) fun v3 => (if (notB v3) = true then (some (Out.ret (false, ()))) else (some (Out.norm ((addZ .i64 v0.1 1), (v0.2.1, (v0.2.2.1, (v0.2.2.2.1, (v0.2.2.2.2.1, ())))))))))) else (some (Out.exit (Sum.inl ((ltZ v0.1 v0.2.1), (v0.1, (v0.2.1, (v0.2.2.1, (v0.2.2.2.1, (v0.2.2.2.2.1, ())))))))))))
def impl_areAmounts (x : ((List Int) × (Int × Unit))) (c : Unit) : (Option (Bool × Unit)) :=
  (Option.bind (loopN (A := (Int × (Int × ((List Int) × ((List Int) × (Int × Unit)))))) big impl_areAmounts_L0 (0, ((lenI x.1), (x.1, (x.1, (x.2.1, ())))))) fun v4 => (match v4 with | Out.norm v5 => none | Out.exit v6 => (match ((match v6 with | Sum.inl v9 => (Sum.inl (v9.2.2.2.2.1, (v9.2.2.2.2.2.1, ()))) | Sum.inr v10 => (Empty.elim v10)) : (((List Int) × (Int × Unit)) ⊕ Empty)) with | Sum.inl v7 => (some ((eqZ (lenI v7.1) v7.2.1), ())) | Sum.inr v8 => none) | Out.ret v11 => (some v11)))
def H_impl_areAmounts : Hd := ⟨[.sl 3 (.int .i64), .int .i64], [], none, .p, .bool, .p, []⟩
def T_impl_areAmounts : FSig := ⟨H_impl_areAmounts.ps, H_impl_areAmounts.cs, H_impl_areAmounts.io, H_impl_areAmounts.im, H_impl_areAmounts.R, H_impl_areAmounts.m, impl_areAmounts⟩
theorem E_impl_areAmounts : fnOf tys [(307, T_impl_isAmount)] Tryz.f306 H_impl_areAmounts = T_impl_areAmounts := by kernel_rfl
theorem K_impl_areAmounts : SigOk Tryz.prog 306 T_impl_areAmounts := (congrArg (SigOk Tryz.prog 306) E_impl_areAmounts).mp (fnOf_ok rfl tysOk ⟨K_impl_isAmount, trivial⟩ Tryz.func306 (by decide) rfl (fun _ h => by cases h) (nilEq_of (by kernel_rfl)))
def impl_ModeOk (x : (D_Mode × D_Step)) (c : Unit) : (Option (Bool × Unit)) :=
  (Option.bind ((Option.bind (impl_within (x.1.1, (1, (12, ()))) ()) fun v0 => (some v0.1)) : (Option Bool)) fun v1 => (Option.bind ((if v1 = true then (Option.bind ((Option.bind (impl_areAmounts (x.1.2.1, (x.2.1, ())) ()) fun v2 => (some v2.1)) : (Option Bool)) fun v3 => (Option.bind ((if v3 = true then (Option.bind ((Option.bind (impl_areAmounts (x.1.2.2.1, (x.2.2.1, ())) ()) fun v4 => (some v4.1)) : (Option Bool)) fun v5 => (some (v5, ()))) else (some (false, ()))) : (Option (Bool × Unit))) fun v6 => (some (v6.1, ())))) else (some (false, ()))) : (Option (Bool × Unit))) fun v7 => (some (v7.1, ()))))
def H_impl_ModeOk : Hd := ⟨[.st [.int .i64, .sl 3 (.int .i64), .sl 3 (.int .i64)], .int .i64, .int .i64], [], none, .p, .bool, .p, []⟩
def T_impl_ModeOk : FSig := ⟨H_impl_ModeOk.ps, H_impl_ModeOk.cs, H_impl_ModeOk.io, H_impl_ModeOk.im, H_impl_ModeOk.R, H_impl_ModeOk.m, impl_ModeOk⟩
theorem E_impl_ModeOk : fnOf tys [(116, T_impl_within), (306, T_impl_areAmounts)] Tryz.f253 H_impl_ModeOk = T_impl_ModeOk := by kernel_rfl
theorem K_impl_ModeOk : SigOk Tryz.prog 253 T_impl_ModeOk := (congrArg (SigOk Tryz.prog 253) E_impl_ModeOk).mp (fnOf_ok rfl tysOk ⟨K_impl_within, K_impl_areAmounts, trivial⟩ Tryz.func253 (by decide) rfl (fun _ h => by cases h) (nilEq_of (by kernel_rfl)))
def impl_IsName_L0 : (Int × (Int × ((List UInt8) × Unit))) → Option (Out (Int × (Int × ((List UInt8) × Unit))) ((Bool × (Int × (Int × ((List UInt8) × Unit)))) ⊕ Empty) (Bool × Unit)) :=
  (fun v0 => (if (ltZ v0.1 v0.2.1) = true then (Option.bind (byteAt v0.2.2.1 v0.1) fun v1 => (Option.bind ((if (leZ 97 v1) = true then (Option.bind (byteAt v0.2.2.1 v0.1) fun v2 => (some ((leZ v2 122), (v0.1, (v0.1, (v0.2.1, (v0.2.2.1, ()))))))) else (some (false, (v0.1, (v0.1, (v0.2.1, (v0.2.2.1, ()))))))) : (Option (Bool × (Int × (Int × (Int × ((List UInt8) × Unit))))))) fun v3 => (Option.bind ((if (notB v3.1) = true then (Option.bind ((if (eqZ v3.2.1 0) = true then (some (true, (v3.2.2.1, (v3.2.2.2.1, (v3.2.2.2.2.1, ()))))) else (Option.bind (byteAt v3.2.2.2.2.1 v3.2.1) fun v4 => (Option.bind ((if (ltZ v4 48) = true then (some (true, (v3.2.2.1, (v3.2.2.2.1, (v3.2.2.2.2.1, ()))))) else (Option.bind (byteAt v3.2.2.2.2.1 v3.2.1) fun v5 => (some ((ltZ 57 v5), (v3.2.2.1, (v3.2.2.2.1, (v3.2.2.2.2.1, ()))))))) : (Option (Bool × (Int × (Int × ((List UInt8) × Unit)))))) fun v6 => (some (v6.1, (v6.2.1, (v6.2.2.1, (v6.2.2.2.1, ())))))))) : (Option (Bool × (Int × (Int × ((List UInt8) × Unit)))))) fun v7 => (some (v7.1, (v7.2.1, (v7.2.2.1, (v7.2.2.2.1, ())))))) else (some (false, (v3.2.2.1, (v3.2.2.2.1, (v3.2.2.2.2.1, ())))))) : (Option (Bool × (Int × (Int × ((List UInt8) × Unit)))))) fun v8 => (if v8.1 = true then (some (Out.ret (false, ()))) else (some (Out.norm ((addZ .i64 v8.2.1 1), (v8.2.2.1, (v8.2.2.2.1, ()))))))))) else (some (Out.exit (Sum.inl ((ltZ v0.1 v0.2.1), (v0.1, (v0.2.1, (v0.2.2.1, ())))))))))
def impl_IsName (x : ((List UInt8) × Unit)) (c : Unit) : (Option (Bool × Unit)) :=
  (Option.bind (loopN (A := (Int × (Int × ((List UInt8) × Unit)))) big impl_IsName_L0 (0, ((lenI x.1), (x.1, ())))) fun v9 => (match v9 with | Out.norm v10 => none | Out.exit v11 => (match ((match v11 with | Sum.inl v16 => (Sum.inl (v16.2.2.2.1, ())) | Sum.inr v17 => (Empty.elim v17)) : (((List UInt8) × Unit) ⊕ Empty)) with | Sum.inl v12 => (Option.bind ((Option.bind (impl_within ((lenI v12.1), (1, (8, ()))) ()) fun v13 => (some v13.1)) : (Option Bool)) fun v14 => (some (v14, ()))) | Sum.inr v15 => none) | Out.ret v18 => (some v18)))
def H_impl_IsName : Hd := ⟨[.str], [], none, .p, .bool, .p, []⟩
def T_impl_IsName : FSig := ⟨H_impl_IsName.ps, H_impl_IsName.cs, H_impl_IsName.io, H_impl_IsName.im, H_impl_IsName.R, H_impl_IsName.m, impl_IsName⟩
theorem E_impl_IsName : fnOf tys [(116, T_impl_within)] Tryz.f254 H_impl_IsName = T_impl_IsName := by kernel_rfl
theorem K_impl_IsName : SigOk Tryz.prog 254 T_impl_IsName := (congrArg (SigOk Tryz.prog 254) E_impl_IsName).mp (fnOf_ok rfl tysOk ⟨K_impl_within, trivial⟩ Tryz.func254 (by decide) rfl (fun _ h => by cases h) (nilEq_of (by kernel_rfl)))
def impl_ActivityOk_L0 : (Int × (Int × ((List D_Mode) × (Int × (Int × (D_Activity × Unit)))))) → Option (Out (Int × (Int × ((List D_Mode) × (Int × (Int × (D_Activity × Unit)))))) ((Bool × (Int × (Int × ((List D_Mode) × (Int × (Int × (D_Activity × Unit))))))) ⊕ Empty) (Bool × Unit)) :=
  (fun v0 => (if (ltZ v0.1 v0.2.1) = true then (Option.bind (getI v0.2.2.1 v0.1) fun v1 => (Option.bind ((Option.bind (impl_ModeOk (v1, (v0.2.2.2.1, (v0.2.2.2.2.1, ()))) ()) fun v2 => (some v2.1)) : (Option Bool)) fun v3 => (if (notB v3) = true then (some (Out.ret (false, ()))) else (some (Out.norm ((addZ .i64 v0.1 1), (v0.2.1, (v0.2.2.1, (v0.2.2.2.1, (v0.2.2.2.2.1, (v0.2.2.2.2.2.1, ()))))))))))) else (some (Out.exit (Sum.inl ((ltZ v0.1 v0.2.1), (v0.1, (v0.2.1, (v0.2.2.1, (v0.2.2.2.1, (v0.2.2.2.2.1, (v0.2.2.2.2.2.1, ()))))))))))))
def impl_ActivityOk (x : (D_Activity × D_Step)) (c : Unit) : (Option (Bool × Unit)) :=
  (Option.bind (loopN (A := (Int × (Int × ((List D_Mode) × (Int × (Int × (D_Activity × Unit))))))) big impl_ActivityOk_L0 (0, ((lenI x.1.2.2.1), (x.1.2.2.1, (x.2.1, (x.2.2.1, (x.1, ()))))))) fun v4 => (match v4 with | Out.norm v5 => none | Out.exit v6 => (match ((match v6 with | Sum.inl v17 => (Sum.inl (v17.2.2.2.2.2.2.1, ())) | Sum.inr v18 => (Empty.elim v18)) : ((D_Activity × Unit) ⊕ Empty)) with | Sum.inl v7 => (Option.bind ((Option.bind (impl_IsName (v7.1.1, ()) ()) fun v8 => (some v8.1)) : (Option Bool)) fun v9 => (Option.bind ((if v9 = true then (Option.bind ((Option.bind (impl_within (v7.1.2.1, (0, (3, ()))) ()) fun v10 => (some v10.1)) : (Option Bool)) fun v11 => (Option.bind ((if v11 = true then (Option.bind ((Option.bind (impl_within ((lenI v7.1.2.2.1), (1, (3, ()))) ()) fun v12 => (some v12.1)) : (Option Bool)) fun v13 => (some (v13, ()))) else (some (false, ()))) : (Option (Bool × Unit))) fun v14 => (some (v14.1, ())))) else (some (false, ()))) : (Option (Bool × Unit))) fun v15 => (some (v15.1, ())))) | Sum.inr v16 => none) | Out.ret v19 => (some v19)))
def H_impl_ActivityOk : Hd := ⟨[.st [.str, .int .i64, .sl 167 (.st [.int .i64, .sl 3 (.int .i64), .sl 3 (.int .i64)])], .int .i64, .int .i64], [], none, .p, .bool, .p, []⟩
def T_impl_ActivityOk : FSig := ⟨H_impl_ActivityOk.ps, H_impl_ActivityOk.cs, H_impl_ActivityOk.io, H_impl_ActivityOk.im, H_impl_ActivityOk.R, H_impl_ActivityOk.m, impl_ActivityOk⟩
theorem E_impl_ActivityOk : fnOf tys [(116, T_impl_within), (253, T_impl_ModeOk), (254, T_impl_IsName)] Tryz.f175 H_impl_ActivityOk = T_impl_ActivityOk := by kernel_rfl
theorem K_impl_ActivityOk : SigOk Tryz.prog 175 T_impl_ActivityOk := (congrArg (SigOk Tryz.prog 175) E_impl_ActivityOk).mp (fnOf_ok rfl tysOk ⟨K_impl_within, K_impl_ModeOk, K_impl_IsName, trivial⟩ Tryz.func175 (by decide) rfl (fun _ h => by cases h) (nilEq_of (by kernel_rfl)))
def slices_IndexFunc_impl_Activity_impl_Activity_L0 : (Int × (Int × (((D_Activity × Unit) → (Option Bool)) × ((List D_Activity) × Unit)))) → Option (Out (Int × (Int × (((D_Activity × Unit) → (Option Bool)) × ((List D_Activity) × Unit)))) ((Bool × (Int × (Int × (((D_Activity × Unit) → (Option Bool)) × ((List D_Activity) × Unit))))) ⊕ Empty) (Int × Unit)) :=
  (fun v0 => (if (ltZ v0.1 v0.2.1) = true then (Option.bind (getI v0.2.2.2.1 v0.1) fun v1 => (Option.bind (v0.2.2.1 (v1, ())) fun v2 => (if v2 = true then (some (Out.ret (v0.1, ()))) else (some (Out.norm ((addZ .i64 v0.1 1), (v0.2.1, (v0.2.2.1, (v0.2.2.2.1, ()))))))))) else (some (Out.exit (Sum.inl ((ltZ v0.1 v0.2.1), (v0.1, (v0.2.1, (v0.2.2.1, (v0.2.2.2.1, ()))))))))))
def slices_IndexFunc_impl_Activity_impl_Activity (x : ((List D_Activity) × (((D_Activity × Unit) → (Option Bool)) × Unit))) (c : Unit) : (Option (Int × Unit)) :=
  (Option.bind (loopN (A := (Int × (Int × (((D_Activity × Unit) → (Option Bool)) × ((List D_Activity) × Unit))))) big slices_IndexFunc_impl_Activity_impl_Activity_L0 (0, ((lenI x.1), (x.2.1, (x.1, ()))))) fun v3 => (match v3 with | Out.norm v4 => none | Out.exit v5 => (match ((match v5 with | Sum.inl v8 => (Sum.inl ()) | Sum.inr v9 => (Empty.elim v9)) : (Unit ⊕ Empty)) with | Sum.inl v6 => (some ((-1), ())) | Sum.inr v7 => none) | Out.ret v10 => (some v10)))
def H_slices_IndexFunc_impl_Activity_impl_Activity : Hd := ⟨[.sl 165 (.st [.str, .int .i64, .sl 167 (.st [.int .i64, .sl 3 (.int .i64), .sl 3 (.int .i64)])]), .fn [.st [.str, .int .i64, .sl 167 (.st [.int .i64, .sl 3 (.int .i64), .sl 3 (.int .i64)])]] (.bool)], [], none, .p, .int .i64, .p, []⟩
def T_slices_IndexFunc_impl_Activity_impl_Activity : FSig := ⟨H_slices_IndexFunc_impl_Activity_impl_Activity.ps, H_slices_IndexFunc_impl_Activity_impl_Activity.cs, H_slices_IndexFunc_impl_Activity_impl_Activity.io, H_slices_IndexFunc_impl_Activity_impl_Activity.im, H_slices_IndexFunc_impl_Activity_impl_Activity.R, H_slices_IndexFunc_impl_Activity_impl_Activity.m, slices_IndexFunc_impl_Activity_impl_Activity⟩
theorem E_slices_IndexFunc_impl_Activity_impl_Activity : fnOf tys [] Tryz.f255 H_slices_IndexFunc_impl_Activity_impl_Activity = T_slices_IndexFunc_impl_Activity_impl_Activity := by kernel_rfl
theorem K_slices_IndexFunc_impl_Activity_impl_Activity : SigOk Tryz.prog 255 T_slices_IndexFunc_impl_Activity_impl_Activity := (congrArg (SigOk Tryz.prog 255) E_slices_IndexFunc_impl_Activity_impl_Activity).mp (fnOf_ok rfl tysOk trivial Tryz.func255 (by decide) rfl (fun _ h => by cases h) (nilEq_of (by kernel_rfl)))
def impl_ActivityIndex_1 (x : (D_Activity × Unit)) (c : ((List UInt8) × Unit)) : (Option (Bool × Unit)) :=
  (some ((eqS x.1.1 c.1), ()))
def H_impl_ActivityIndex_1 : Hd := ⟨[.st [.str, .int .i64, .sl 167 (.st [.int .i64, .sl 3 (.int .i64), .sl 3 (.int .i64)])]], [.str], none, .p, .bool, .p, []⟩
def T_impl_ActivityIndex_1 : FSig := ⟨H_impl_ActivityIndex_1.ps, H_impl_ActivityIndex_1.cs, H_impl_ActivityIndex_1.io, H_impl_ActivityIndex_1.im, H_impl_ActivityIndex_1.R, H_impl_ActivityIndex_1.m, impl_ActivityIndex_1⟩
theorem E_impl_ActivityIndex_1 : fnOf tys [] Tryz.f256 H_impl_ActivityIndex_1 = T_impl_ActivityIndex_1 := by kernel_rfl
theorem K_impl_ActivityIndex_1 : SigOk Tryz.prog 256 T_impl_ActivityIndex_1 := (congrArg (SigOk Tryz.prog 256) E_impl_ActivityIndex_1).mp (fnOf_ok rfl tysOk trivial Tryz.func256 (by decide) rfl (fun _ h => by cases h) (nilEq_of (by kernel_rfl)))
def impl_ActivityIndex (x : (D_Project × ((List UInt8) × Unit))) (c : Unit) : (Option (Int × Unit)) :=
  (Option.bind ((Option.bind (slices_IndexFunc_impl_Activity_impl_Activity (x.1.2.1, ((fun v0 => (Option.bind (impl_ActivityIndex_1 v0 (x.2.1, ())) fun v1 => (some v1.1))), ())) ()) fun v2 => (some v2.1)) : (Option Int)) fun v3 => (some (v3, ())))
def H_impl_ActivityIndex : Hd := ⟨[.st [.int .i64, .sl 165 (.st [.str, .int .i64, .sl 167 (.st [.int .i64, .sl 3 (.int .i64), .sl 3 (.int .i64)])]), .sl 190 (.st [.int .i64, .int .i64, .bool, .int .i64]), .sl 187 (.st [.sl 210 (.st [.int .i64, .int .i64]), .sl 25 (.sl 3 (.int .i64))]), .sl 3 (.int .i64)], .str], [], none, .p, .int .i64, .p, []⟩
def T_impl_ActivityIndex : FSig := ⟨H_impl_ActivityIndex.ps, H_impl_ActivityIndex.cs, H_impl_ActivityIndex.io, H_impl_ActivityIndex.im, H_impl_ActivityIndex.R, H_impl_ActivityIndex.m, impl_ActivityIndex⟩
theorem E_impl_ActivityIndex : fnOf tys [(255, T_slices_IndexFunc_impl_Activity_impl_Activity), (256, T_impl_ActivityIndex_1)] Tryz.f176 H_impl_ActivityIndex = T_impl_ActivityIndex := by kernel_rfl
theorem K_impl_ActivityIndex : SigOk Tryz.prog 176 T_impl_ActivityIndex := (congrArg (SigOk Tryz.prog 176) E_impl_ActivityIndex).mp (fnOf_ok rfl tysOk ⟨K_slices_IndexFunc_impl_Activity_impl_Activity, K_impl_ActivityIndex_1, trivial⟩ Tryz.func176 (by decide) rfl (fun _ h => by cases h) (nilEq_of (by kernel_rfl)))
def impl_isTime (x : (Int × Unit)) (c : Unit) : (Option (Bool × Unit)) :=
  (Option.bind ((Option.bind (impl_within (x.1, (0, (60, ()))) ()) fun v0 => (some v0.1)) : (Option Bool)) fun v1 => (some (v1, ())))
def H_impl_isTime : Hd := ⟨[.int .i64], [], none, .p, .bool, .p, []⟩
def T_impl_isTime : FSig := ⟨H_impl_isTime.ps, H_impl_isTime.cs, H_impl_isTime.io, H_impl_isTime.im, H_impl_isTime.R, H_impl_isTime.m, impl_isTime⟩
theorem E_impl_isTime : fnOf tys [(116, T_impl_within)] Tryz.f141 H_impl_isTime = T_impl_isTime := by kernel_rfl
theorem K_impl_isTime : SigOk Tryz.prog 141 T_impl_isTime := (congrArg (SigOk Tryz.prog 141) E_impl_isTime).mp (fnOf_ok rfl tysOk ⟨K_impl_within, trivial⟩ Tryz.func141 (by decide) rfl (fun _ h => by cases h) (nilEq_of (by kernel_rfl)))
def impl_StepsOk_L0 : (Int × (Int × ((List D_Step) × ((List D_Step) × Unit)))) → Option (Out (Int × (Int × ((List D_Step) × ((List D_Step) × Unit)))) ((Bool × (Int × (Int × ((List D_Step) × ((List D_Step) × Unit))))) ⊕ Empty) (Bool × Unit)) :=
  (fun v0 => (if (ltZ v0.1 v0.2.1) = true then (Option.bind (getI v0.2.2.1 v0.1) fun v1 => (Option.bind ((Option.bind (impl_isTime (v1.1, ()) ()) fun v2 => (some v2.1)) : (Option Bool)) fun v3 => (Option.bind ((if (notB v3) = true then (some (true, (v0.1, (v0.2.1, (v0.2.2.1, (v0.2.2.2.1, ())))))) else (Option.bind ((Option.bind (impl_isAmount (v1.2.1, ()) ()) fun v4 => (some v4.1)) : (Option Bool)) fun v5 => (Option.bind ((if (notB v5) = true then (some (true, (v0.1, (v0.2.1, (v0.2.2.1, (v0.2.2.2.1, ())))))) else (Option.bind ((if (eqZ v0.1 0) = true then (Option.bind ((if (notB (eqZ v1.1 0)) = true then (some (true, (v0.1, (v0.2.1, (v0.2.2.1, (v0.2.2.2.1, ())))))) else (Option.bind ((if (ltZ 0 v0.1) = true then (Option.bind (getI v0.2.2.2.1 (subZ .i64 v0.1 1)) fun v6 => (some ((leZ v1.1 v6.1), (v0.1, (v0.2.1, (v0.2.2.1, (v0.2.2.2.1, ()))))))) else (some (false, (v0.1, (v0.2.1, (v0.2.2.1, (v0.2.2.2.1, ()))))))) : (Option (Bool × (Int × (Int × ((List D_Step) × ((List D_Step) × Unit))))))) fun v7 => (some (v7.1, (v7.2.1, (v7.2.2.1, (v7.2.2.2.1, (v7.2.2.2.2.1, ())))))))) : (Option (Bool × (Int × (Int × ((List D_Step) × ((List D_Step) × Unit))))))) fun v8 => (some (v8.1, (v8.2.1, (v8.2.2.1, (v8.2.2.2.1, (v8.2.2.2.2.1, ()))))))) else (Option.bind ((Option.bind ((if (ltZ 0 v0.1) = true then (Option.bind (getI v0.2.2.2.1 (subZ .i64 v0.1 1)) fun v9 => (some ((leZ v1.1 v9.1), (v0.1, (v0.2.1, (v0.2.2.1, (v0.2.2.2.1, ()))))))) else (some (false, (v0.1, (v0.2.1, (v0.2.2.1, (v0.2.2.2.1, ()))))))) : (Option (Bool × (Int × (Int × ((List D_Step) × ((List D_Step) × Unit))))))) fun v10 => (some (v10.1, (v10.2.1, (v10.2.2.1, (v10.2.2.2.1, (v10.2.2.2.2.1, ()))))))) : (Option (Bool × (Int × (Int × ((List D_Step) × ((List D_Step) × Unit))))))) fun v11 => (some (v11.1, (v11.2.1, (v11.2.2.1, (v11.2.2.2.1, (v11.2.2.2.2.1, ())))))))) : (Option (Bool × (Int × (Int × ((List D_Step) × ((List D_Step) × Unit))))))) fun v12 => (some (v12.1, (v12.2.1, (v12.2.2.1, (v12.2.2.2.1, (v12.2.2.2.2.1, ())))))))) : (Option (Bool × (Int × (Int × ((List D_Step) × ((List D_Step) × Unit))))))) fun v13 => (some (v13.1, (v13.2.1, (v13.2.2.1, (v13.2.2.2.1, (v13.2.2.2.2.1, ()))))))))) : (Option (Bool × (Int × (Int × ((List D_Step) × ((List D_Step) × Unit))))))) fun v14 => (if v14.1 = true then (some (Out.ret (false, ()))) else (some (Out.norm ((addZ .i64 v14.2.1 1), (v14.2.2.1, (v14.2.2.2.1, (v14.2.2.2.2.1, ())))))))))) else (some (Out.exit (Sum.inl ((ltZ v0.1 v0.2.1), (v0.1, (v0.2.1, (v0.2.2.1, (v0.2.2.2.1, ()))))))))))
def impl_StepsOk (x : ((List D_Step) × Unit)) (c : Unit) : (Option (Bool × Unit)) :=
  (Option.bind (loopN (A := (Int × (Int × ((List D_Step) × ((List D_Step) × Unit))))) big impl_StepsOk_L0 (0, ((lenI x.1), (x.1, (x.1, ()))))) fun v15 => (match v15 with | Out.norm v16 => none | Out.exit v17 => (match ((match v17 with | Sum.inl v22 => (Sum.inl (v22.2.2.2.2.1, ())) | Sum.inr v23 => (Empty.elim v23)) : (((List D_Step) × Unit) ⊕ Empty)) with | Sum.inl v18 => (Option.bind ((Option.bind (impl_within ((lenI v18.1), (1, (8, ()))) ()) fun v19 => (some v19.1)) : (Option Bool)) fun v20 => (some (v20, ()))) | Sum.inr v21 => none) | Out.ret v24 => (some v24)))
def H_impl_StepsOk : Hd := ⟨[.sl 210 (.st [.int .i64, .int .i64])], [], none, .p, .bool, .p, []⟩
def T_impl_StepsOk : FSig := ⟨H_impl_StepsOk.ps, H_impl_StepsOk.cs, H_impl_StepsOk.io, H_impl_StepsOk.im, H_impl_StepsOk.R, H_impl_StepsOk.m, impl_StepsOk⟩
theorem E_impl_StepsOk : fnOf tys [(116, T_impl_within), (141, T_impl_isTime), (307, T_impl_isAmount)] Tryz.f257 H_impl_StepsOk = T_impl_StepsOk := by kernel_rfl
theorem K_impl_StepsOk : SigOk Tryz.prog 257 T_impl_StepsOk := (congrArg (SigOk Tryz.prog 257) E_impl_StepsOk).mp (fnOf_ok rfl tysOk ⟨K_impl_within, K_impl_isTime, K_impl_isAmount, trivial⟩ Tryz.func257 (by decide) rfl (fun _ h => by cases h) (nilEq_of (by kernel_rfl)))
def impl_ResourceOk_L0 : (Int × (Int × ((List Int) × (Int × (Int × ((List (List Int)) × (D_Resource × Unit))))))) → Option (Out (Int × (Int × ((List Int) × (Int × (Int × ((List (List Int)) × (D_Resource × Unit))))))) ((Bool × (Int × (Int × ((List Int) × (Int × (Int × ((List (List Int)) × (D_Resource × Unit)))))))) ⊕ Empty) (Bool × Unit)) :=
  (fun v2 => (if (ltZ v2.1 v2.2.1) = true then (Option.bind (getI v2.2.2.1 v2.1) fun v3 => (Option.bind ((Option.bind (impl_within (v3, (0, (12, ()))) ()) fun v4 => (some v4.1)) : (Option Bool)) fun v5 => (if (notB v5) = true then (some (Out.ret (false, ()))) else (some (Out.norm ((addZ .i64 v2.1 1), (v2.2.1, (v2.2.2.1, (v2.2.2.2.1, (v2.2.2.2.2.1, (v2.2.2.2.2.2.1, (v2.2.2.2.2.2.2.1, ())))))))))))) else (some (Out.exit (Sum.inl ((ltZ v2.1 v2.2.1), (v2.1, (v2.2.1, (v2.2.2.1, (v2.2.2.2.1, (v2.2.2.2.2.1, (v2.2.2.2.2.2.1, (v2.2.2.2.2.2.2.1, ())))))))))))))
def impl_ResourceOk_L1 : (Int × (Int × ((List (List Int)) × (D_Resource × Unit)))) → Option (Out (Int × (Int × ((List (List Int)) × (D_Resource × Unit)))) ((Bool × (Int × (Int × ((List (List Int)) × (D_Resource × Unit))))) ⊕ Empty) (Bool × Unit)) :=
  (fun v0 => (if (ltZ v0.1 v0.2.1) = true then (Option.bind (getI v0.2.2.1 v0.1) fun v1 => (if (notB (eqZ (lenI v1) 4)) = true then (some (Out.ret (false, ()))) else (Option.bind (loopN (A := (Int × (Int × ((List Int) × (Int × (Int × ((List (List Int)) × (D_Resource × Unit)))))))) big impl_ResourceOk_L0 (0, ((lenI v1), (v1, (v0.1, (v0.2.1, (v0.2.2.1, (v0.2.2.2.1, ())))))))) fun v6 => (match v6 with | Out.norm v7 => none | Out.exit v8 => (match ((match v8 with | Sum.inl v13 => (Sum.inl (v13.2.2.2.2.1, (v13.2.2.2.2.2.1, (v13.2.2.2.2.2.2.1, (v13.2.2.2.2.2.2.2.1, ()))))) | Sum.inr v14 => (Empty.elim v14)) : ((Int × (Int × ((List (List Int)) × (D_Resource × Unit)))) ⊕ Empty)) with | Sum.inl v9 => (some (Out.norm ((addZ .i64 v9.1 1), (v9.2.1, (v9.2.2.1, (v9.2.2.2.1, ())))))) | Sum.inr v10 => (match ((Empty.elim v10) : ((Int × (Int × ((List (List Int)) × (D_Resource × Unit)))) ⊕ Empty)) with | Sum.inl v11 => (some (Out.norm ((addZ .i64 v11.1 1), (v11.2.1, (v11.2.2.1, (v11.2.2.2.1, ())))))) | Sum.inr v12 => (some (Out.exit (Sum.inr (Empty.elim v12)))))) | Out.ret v15 => (some (Out.ret v15)))))) else (some (Out.exit (Sum.inl ((ltZ v0.1 v0.2.1), (v0.1, (v0.2.1, (v0.2.2.1, (v0.2.2.2.1, ()))))))))))
def impl_ResourceOk (x : (D_Resource × Unit)) (c : Unit) : (Option (Bool × Unit)) :=
  (Option.bind (loopN (A := (Int × (Int × ((List (List Int)) × (D_Resource × Unit))))) big impl_ResourceOk_L1 (0, ((lenI x.1.2.1), (x.1.2.1, (x.1, ()))))) fun v16 => (match v16 with | Out.norm v17 => none | Out.exit v18 => (match ((match v18 with | Sum.inl v25 => (Sum.inl (v25.2.2.2.2.1, ())) | Sum.inr v26 => (Empty.elim v26)) : ((D_Resource × Unit) ⊕ Empty)) with | Sum.inl v19 => (Option.bind ((Option.bind (impl_StepsOk (v19.1.1, ()) ()) fun v20 => (some v20.1)) : (Option Bool)) fun v21 => (Option.bind ((if v21 = true then (Option.bind ((if (eqZ (lenI v19.1.2.1) 0) = true then (some (true, ())) else (some ((eqZ (lenI v19.1.2.1) 4), ()))) : (Option (Bool × Unit))) fun v22 => (some (v22.1, ()))) else (some (false, ()))) : (Option (Bool × Unit))) fun v23 => (some (v23.1, ())))) | Sum.inr v24 => none) | Out.ret v27 => (some v27)))
def H_impl_ResourceOk : Hd := ⟨[.st [.sl 210 (.st [.int .i64, .int .i64]), .sl 25 (.sl 3 (.int .i64))]], [], none, .p, .bool, .p, []⟩
def T_impl_ResourceOk : FSig := ⟨H_impl_ResourceOk.ps, H_impl_ResourceOk.cs, H_impl_ResourceOk.io, H_impl_ResourceOk.im, H_impl_ResourceOk.R, H_impl_ResourceOk.m, impl_ResourceOk⟩
theorem E_impl_ResourceOk : fnOf tys [(116, T_impl_within), (257, T_impl_StepsOk)] Tryz.f177 H_impl_ResourceOk = T_impl_ResourceOk := by kernel_rfl
theorem K_impl_ResourceOk : SigOk Tryz.prog 177 T_impl_ResourceOk := (congrArg (SigOk Tryz.prog 177) E_impl_ResourceOk).mp (fnOf_ok rfl tysOk ⟨K_impl_within, K_impl_StepsOk, trivial⟩ Tryz.func177 (by decide) rfl (fun _ h => by cases h) (nilEq_of (by kernel_rfl)))
def slices_IndexFunc_impl_Link_impl_Link_L0 : (Int × (Int × (((D_Link × Unit) → (Option Bool)) × ((List D_Link) × Unit)))) → Option (Out (Int × (Int × (((D_Link × Unit) → (Option Bool)) × ((List D_Link) × Unit)))) ((Bool × (Int × (Int × (((D_Link × Unit) → (Option Bool)) × ((List D_Link) × Unit))))) ⊕ Empty) (Int × Unit)) :=
  (fun v0 => (if (ltZ v0.1 v0.2.1) = true then (Option.bind (getI v0.2.2.2.1 v0.1) fun v1 => (Option.bind (v0.2.2.1 (v1, ())) fun v2 => (if v2 = true then (some (Out.ret (v0.1, ()))) else (some (Out.norm ((addZ .i64 v0.1 1), (v0.2.1, (v0.2.2.1, (v0.2.2.2.1, ()))))))))) else (some (Out.exit (Sum.inl ((ltZ v0.1 v0.2.1), (v0.1, (v0.2.1, (v0.2.2.1, (v0.2.2.2.1, ()))))))))))
def slices_IndexFunc_impl_Link_impl_Link (x : ((List D_Link) × (((D_Link × Unit) → (Option Bool)) × Unit))) (c : Unit) : (Option (Int × Unit)) :=
  (Option.bind (loopN (A := (Int × (Int × (((D_Link × Unit) → (Option Bool)) × ((List D_Link) × Unit))))) big slices_IndexFunc_impl_Link_impl_Link_L0 (0, ((lenI x.1), (x.2.1, (x.1, ()))))) fun v3 => (match v3 with | Out.norm v4 => none | Out.exit v5 => (match ((match v5 with | Sum.inl v8 => (Sum.inl ()) | Sum.inr v9 => (Empty.elim v9)) : (Unit ⊕ Empty)) with | Sum.inl v6 => (some ((-1), ())) | Sum.inr v7 => none) | Out.ret v10 => (some v10)))
def H_slices_IndexFunc_impl_Link_impl_Link : Hd := ⟨[.sl 190 (.st [.int .i64, .int .i64, .bool, .int .i64]), .fn [.st [.int .i64, .int .i64, .bool, .int .i64]] (.bool)], [], none, .p, .int .i64, .p, []⟩
def T_slices_IndexFunc_impl_Link_impl_Link : FSig := ⟨H_slices_IndexFunc_impl_Link_impl_Link.ps, H_slices_IndexFunc_impl_Link_impl_Link.cs, H_slices_IndexFunc_impl_Link_impl_Link.io, H_slices_IndexFunc_impl_Link_impl_Link.im, H_slices_IndexFunc_impl_Link_impl_Link.R, H_slices_IndexFunc_impl_Link_impl_Link.m, slices_IndexFunc_impl_Link_impl_Link⟩
theorem E_slices_IndexFunc_impl_Link_impl_Link : fnOf tys [] Tryz.f258 H_slices_IndexFunc_impl_Link_impl_Link = T_slices_IndexFunc_impl_Link_impl_Link := by kernel_rfl
theorem K_slices_IndexFunc_impl_Link_impl_Link : SigOk Tryz.prog 258 T_slices_IndexFunc_impl_Link_impl_Link := (congrArg (SigOk Tryz.prog 258) E_slices_IndexFunc_impl_Link_impl_Link).mp (fnOf_ok rfl tysOk trivial Tryz.func258 (by decide) rfl (fun _ h => by cases h) (nilEq_of (by kernel_rfl)))
def slices_ContainsFunc_impl_Link_impl_Link (x : ((List D_Link) × (((D_Link × Unit) → (Option Bool)) × Unit))) (c : Unit) : (Option (Bool × Unit)) :=
  (Option.bind ((Option.bind (slices_IndexFunc_impl_Link_impl_Link (x.1, (x.2.1, ())) ()) fun v0 => (some v0.1)) : (Option Int)) fun v1 => (some ((leZ 0 v1), ())))
def H_slices_ContainsFunc_impl_Link_impl_Link : Hd := ⟨[.sl 190 (.st [.int .i64, .int .i64, .bool, .int .i64]), .fn [.st [.int .i64, .int .i64, .bool, .int .i64]] (.bool)], [], none, .p, .bool, .p, []⟩
def T_slices_ContainsFunc_impl_Link_impl_Link : FSig := ⟨H_slices_ContainsFunc_impl_Link_impl_Link.ps, H_slices_ContainsFunc_impl_Link_impl_Link.cs, H_slices_ContainsFunc_impl_Link_impl_Link.io, H_slices_ContainsFunc_impl_Link_impl_Link.im, H_slices_ContainsFunc_impl_Link_impl_Link.R, H_slices_ContainsFunc_impl_Link_impl_Link.m, slices_ContainsFunc_impl_Link_impl_Link⟩
theorem E_slices_ContainsFunc_impl_Link_impl_Link : fnOf tys [(258, T_slices_IndexFunc_impl_Link_impl_Link)] Tryz.f178 H_slices_ContainsFunc_impl_Link_impl_Link = T_slices_ContainsFunc_impl_Link_impl_Link := by kernel_rfl
theorem K_slices_ContainsFunc_impl_Link_impl_Link : SigOk Tryz.prog 178 T_slices_ContainsFunc_impl_Link_impl_Link := (congrArg (SigOk Tryz.prog 178) E_slices_ContainsFunc_impl_Link_impl_Link).mp (fnOf_ok rfl tysOk ⟨K_slices_IndexFunc_impl_Link_impl_Link, trivial⟩ Tryz.func178 (by decide) rfl (fun _ h => by cases h) (nilEq_of (by kernel_rfl)))
def impl_Project_hasActivity (x : (D_Project × (Int × Unit))) (c : Unit) : (Option (Bool × Unit)) :=
  (Option.bind ((Option.bind (impl_within (x.2.1, (0, ((subZ .i64 (lenI x.1.2.1) 1), ()))) ()) fun v0 => (some v0.1)) : (Option Bool)) fun v1 => (some (v1, ())))
def H_impl_Project_hasActivity : Hd := ⟨[.st [.int .i64, .sl 165 (.st [.str, .int .i64, .sl 167 (.st [.int .i64, .sl 3 (.int .i64), .sl 3 (.int .i64)])]), .sl 190 (.st [.int .i64, .int .i64, .bool, .int .i64]), .sl 187 (.st [.sl 210 (.st [.int .i64, .int .i64]), .sl 25 (.sl 3 (.int .i64))]), .sl 3 (.int .i64)], .int .i64], [], none, .p, .bool, .p, []⟩
def T_impl_Project_hasActivity : FSig := ⟨H_impl_Project_hasActivity.ps, H_impl_Project_hasActivity.cs, H_impl_Project_hasActivity.io, H_impl_Project_hasActivity.im, H_impl_Project_hasActivity.R, H_impl_Project_hasActivity.m, impl_Project_hasActivity⟩
theorem E_impl_Project_hasActivity : fnOf tys [(116, T_impl_within)] Tryz.f139 H_impl_Project_hasActivity = T_impl_Project_hasActivity := by kernel_rfl
theorem K_impl_Project_hasActivity : SigOk Tryz.prog 139 T_impl_Project_hasActivity := (congrArg (SigOk Tryz.prog 139) E_impl_Project_hasActivity).mp (fnOf_ok rfl tysOk ⟨K_impl_within, trivial⟩ Tryz.func139 (by decide) rfl (fun _ h => by cases h) (nilEq_of (by kernel_rfl)))
def impl_Project_linkOk (x : (D_Project × (D_Link × Unit))) (c : Unit) : (Option (Bool × Unit)) :=
  (Option.bind ((Option.bind (impl_Project_hasActivity (x.1, (x.2.1.1, ())) ()) fun v0 => (some v0.1)) : (Option Bool)) fun v1 => (Option.bind ((if v1 = true then (Option.bind ((Option.bind (impl_Project_hasActivity (x.1, (x.2.1.2.1, ())) ()) fun v2 => (some v2.1)) : (Option Bool)) fun v3 => (Option.bind ((if v3 = true then (Option.bind ((if (notB (eqZ x.2.1.1 x.2.1.2.1)) = true then (Option.bind ((Option.bind (impl_within (x.2.1.2.2.2.1, ((-60), (60, ()))) ()) fun v4 => (some v4.1)) : (Option Bool)) fun v5 => (some (v5, ()))) else (some (false, ()))) : (Option (Bool × Unit))) fun v6 => (some (v6.1, ()))) else (some (false, ()))) : (Option (Bool × Unit))) fun v7 => (some (v7.1, ())))) else (some (false, ()))) : (Option (Bool × Unit))) fun v8 => (some (v8.1, ()))))
def H_impl_Project_linkOk : Hd := ⟨[.st [.int .i64, .sl 165 (.st [.str, .int .i64, .sl 167 (.st [.int .i64, .sl 3 (.int .i64), .sl 3 (.int .i64)])]), .sl 190 (.st [.int .i64, .int .i64, .bool, .int .i64]), .sl 187 (.st [.sl 210 (.st [.int .i64, .int .i64]), .sl 25 (.sl 3 (.int .i64))]), .sl 3 (.int .i64)], .st [.int .i64, .int .i64, .bool, .int .i64]], [], none, .p, .bool, .p, []⟩
def T_impl_Project_linkOk : FSig := ⟨H_impl_Project_linkOk.ps, H_impl_Project_linkOk.cs, H_impl_Project_linkOk.io, H_impl_Project_linkOk.im, H_impl_Project_linkOk.R, H_impl_Project_linkOk.m, impl_Project_linkOk⟩
theorem E_impl_Project_linkOk : fnOf tys [(116, T_impl_within), (139, T_impl_Project_hasActivity)] Tryz.f180 H_impl_Project_linkOk = T_impl_Project_linkOk := by kernel_rfl
theorem K_impl_Project_linkOk : SigOk Tryz.prog 180 T_impl_Project_linkOk := (congrArg (SigOk Tryz.prog 180) E_impl_Project_linkOk).mp (fnOf_ok rfl tysOk ⟨K_impl_within, K_impl_Project_hasActivity, trivial⟩ Tryz.func180 (by decide) rfl (fun _ h => by cases h) (nilEq_of (by kernel_rfl)))
def impl_ProjectOk_1 (x : (D_Link × Unit)) (c : (D_Project × Unit)) : (Option (Bool × Unit)) :=
  (Option.bind ((Option.bind (impl_Project_linkOk (c.1, (x.1, ())) ()) fun v0 => (some v0.1)) : (Option Bool)) fun v1 => (some ((notB v1), ())))
def H_impl_ProjectOk_1 : Hd := ⟨[.st [.int .i64, .int .i64, .bool, .int .i64]], [.st [.int .i64, .sl 165 (.st [.str, .int .i64, .sl 167 (.st [.int .i64, .sl 3 (.int .i64), .sl 3 (.int .i64)])]), .sl 190 (.st [.int .i64, .int .i64, .bool, .int .i64]), .sl 187 (.st [.sl 210 (.st [.int .i64, .int .i64]), .sl 25 (.sl 3 (.int .i64))]), .sl 3 (.int .i64)]], none, .p, .bool, .p, []⟩
def T_impl_ProjectOk_1 : FSig := ⟨H_impl_ProjectOk_1.ps, H_impl_ProjectOk_1.cs, H_impl_ProjectOk_1.io, H_impl_ProjectOk_1.im, H_impl_ProjectOk_1.R, H_impl_ProjectOk_1.m, impl_ProjectOk_1⟩
theorem E_impl_ProjectOk_1 : fnOf tys [(180, T_impl_Project_linkOk)] Tryz.f179 H_impl_ProjectOk_1 = T_impl_ProjectOk_1 := by kernel_rfl
theorem K_impl_ProjectOk_1 : SigOk Tryz.prog 179 T_impl_ProjectOk_1 := (congrArg (SigOk Tryz.prog 179) E_impl_ProjectOk_1).mp (fnOf_ok rfl tysOk ⟨K_impl_Project_linkOk, trivial⟩ Tryz.func179 (by decide) rfl (fun _ h => by cases h) (nilEq_of (by kernel_rfl)))
def impl_ProjectOk_L0 : (Int × (Int × ((List D_Activity) × (D_Project × Unit)))) → Option (Out (Int × (Int × ((List D_Activity) × (D_Project × Unit)))) ((Bool × (Int × (Int × ((List D_Activity) × (D_Project × Unit))))) ⊕ Empty) (Bool × Unit)) :=
  (fun v8 => (if (ltZ v8.1 v8.2.1) = true then (Option.bind (getI v8.2.2.1 v8.1) fun v9 => (Option.bind ((Option.bind (impl_ActivityOk (v9, ((lenI v8.2.2.2.1.2.2.2.1), ((lenI v8.2.2.2.1.2.2.2.2.1), ()))) ()) fun v10 => (some v10.1)) : (Option Bool)) fun v11 => (Option.bind ((if (notB v11) = true then (some (true, (v8.1, (v8.2.1, (v8.2.2.1, (v8.2.2.2.1, ())))))) else (Option.bind ((Option.bind (impl_ActivityIndex (v8.2.2.2.1, (v9.1, ())) ()) fun v12 => (some v12.1)) : (Option Int)) fun v13 => (some ((notB (eqZ v13 v8.1)), (v8.1, (v8.2.1, (v8.2.2.1, (v8.2.2.2.1, ())))))))) : (Option (Bool × (Int × (Int × ((List D_Activity) × (D_Project × Unit))))))) fun v14 => (if v14.1 = true then (some (Out.ret (false, ()))) else (some (Out.norm ((addZ .i64 v14.2.1 1), (v14.2.2.1, (v14.2.2.2.1, (v14.2.2.2.2.1, ())))))))))) else (some (Out.exit (Sum.inl ((ltZ v8.1 v8.2.1), (v8.1, (v8.2.1, (v8.2.2.1, (v8.2.2.2.1, ()))))))))))
def impl_ProjectOk_L1 : (Int × (Int × ((List D_Resource) × (D_Project × Unit)))) → Option (Out (Int × (Int × ((List D_Resource) × (D_Project × Unit)))) ((Bool × (Int × (Int × ((List D_Resource) × (D_Project × Unit))))) ⊕ Empty) (Bool × Unit)) :=
  (fun v19 => (if (ltZ v19.1 v19.2.1) = true then (Option.bind (getI v19.2.2.1 v19.1) fun v20 => (Option.bind ((Option.bind (impl_ResourceOk (v20, ()) ()) fun v21 => (some v21.1)) : (Option Bool)) fun v22 => (if (notB v22) = true then (some (Out.ret (false, ()))) else (some (Out.norm ((addZ .i64 v19.1 1), (v19.2.1, (v19.2.2.1, (v19.2.2.2.1, ()))))))))) else (some (Out.exit (Sum.inl ((ltZ v19.1 v19.2.1), (v19.1, (v19.2.1, (v19.2.2.1, (v19.2.2.2.1, ()))))))))))
def impl_ProjectOk_L2 : (Int × (Int × ((List Int) × (D_Project × Unit)))) → Option (Out (Int × (Int × ((List Int) × (D_Project × Unit)))) ((Bool × (Int × (Int × ((List Int) × (D_Project × Unit))))) ⊕ Empty) (Bool × Unit)) :=
  (fun v27 => (if (ltZ v27.1 v27.2.1) = true then (Option.bind (getI v27.2.2.1 v27.1) fun v28 => (Option.bind ((Option.bind (impl_within (v28, (0, (100, ()))) ()) fun v29 => (some v29.1)) : (Option Bool)) fun v30 => (if (notB v30) = true then (some (Out.ret (false, ()))) else (some (Out.norm ((addZ .i64 v27.1 1), (v27.2.1, (v27.2.2.1, (v27.2.2.2.1, ()))))))))) else (some (Out.exit (Sum.inl ((ltZ v27.1 v27.2.1), (v27.1, (v27.2.1, (v27.2.2.1, (v27.2.2.2.1, ()))))))))))
def impl_ProjectOk (x : (D_Project × Unit)) (c : Unit) : (Option (Bool × Unit)) :=
  (Option.bind ((Option.bind (impl_within (x.1.1, (1, (60, ()))) ()) fun v0 => (some v0.1)) : (Option Bool)) fun v1 => (Option.bind ((if (notB v1) = true then (some (true, (x.1, ()))) else (Option.bind ((Option.bind (impl_within ((lenI x.1.2.1), (1, (6, ()))) ()) fun v2 => (some v2.1)) : (Option Bool)) fun v3 => (Option.bind ((if (notB v3) = true then (some (true, (x.1, ()))) else (Option.bind ((if (ltZ 3 (lenI x.1.2.2.2.1)) = true then (some (true, (x.1, ()))) else (Option.bind ((if (ltZ 2 (lenI x.1.2.2.2.2.1)) = true then (some (true, (x.1, ()))) else (some ((ltZ 12 (lenI x.1.2.2.1)), (x.1, ())))) : (Option (Bool × (D_Project × Unit)))) fun v4 => (some (v4.1, (v4.2.1, ()))))) : (Option (Bool × (D_Project × Unit)))) fun v5 => (some (v5.1, (v5.2.1, ()))))) : (Option (Bool × (D_Project × Unit)))) fun v6 => (some (v6.1, (v6.2.1, ())))))) : (Option (Bool × (D_Project × Unit)))) fun v7 => (if v7.1 = true then (some (false, ())) else (Option.bind (loopN (A := (Int × (Int × ((List D_Activity) × (D_Project × Unit))))) big impl_ProjectOk_L0 (0, ((lenI v7.2.1.2.1), (v7.2.1.2.1, (v7.2.1, ()))))) fun v15 => (match v15 with | Out.norm v16 => none | Out.exit v17 => (match ((match v17 with | Sum.inl v48 => (Sum.inl (v48.2.2.2.2.1, ())) | Sum.inr v49 => (Empty.elim v49)) : ((D_Project × Unit) ⊕ Empty)) with | Sum.inl v18 => (Option.bind (loopN (A := (Int × (Int × ((List D_Resource) × (D_Project × Unit))))) big impl_ProjectOk_L1 (0, ((lenI v18.1.2.2.2.1), (v18.1.2.2.2.1, (v18.1, ()))))) fun v23 => (match v23 with | Out.norm v24 => none | Out.exit v25 => (match ((match v25 with | Sum.inl v44 => (Sum.inl (v44.2.2.2.2.1, ())) | Sum.inr v45 => (Empty.elim v45)) : ((D_Project × Unit) ⊕ Empty)) with | Sum.inl v26 => (Option.bind (loopN (A := (Int × (Int × ((List Int) × (D_Project × Unit))))) big impl_ProjectOk_L2 (0, ((lenI v26.1.2.2.2.2.1), (v26.1.2.2.2.2.1, (v26.1, ()))))) fun v31 => (match v31 with | Out.norm v32 => none | Out.exit v33 => (match ((match v33 with | Sum.inl v40 => (Sum.inl (v40.2.2.2.2.1, ())) | Sum.inr v41 => (Empty.elim v41)) : ((D_Project × Unit) ⊕ Empty)) with | Sum.inl v34 => (Option.bind ((Option.bind (slices_ContainsFunc_impl_Link_impl_Link (v34.1.2.2.1, ((fun v35 => (Option.bind (impl_ProjectOk_1 v35 (v34.1, ())) fun v36 => (some v36.1))), ())) ()) fun v37 => (some v37.1)) : (Option Bool)) fun v38 => (some ((notB v38), ()))) | Sum.inr v39 => none) | Out.ret v42 => (some v42))) | Sum.inr v43 => none) | Out.ret v46 => (some v46))) | Sum.inr v47 => none) | Out.ret v50 => (some v50))))))
def H_impl_ProjectOk : Hd := ⟨[.st [.int .i64, .sl 165 (.st [.str, .int .i64, .sl 167 (.st [.int .i64, .sl 3 (.int .i64), .sl 3 (.int .i64)])]), .sl 190 (.st [.int .i64, .int .i64, .bool, .int .i64]), .sl 187 (.st [.sl 210 (.st [.int .i64, .int .i64]), .sl 25 (.sl 3 (.int .i64))]), .sl 3 (.int .i64)]], [], none, .p, .bool, .p, []⟩
def T_impl_ProjectOk : FSig := ⟨H_impl_ProjectOk.ps, H_impl_ProjectOk.cs, H_impl_ProjectOk.io, H_impl_ProjectOk.im, H_impl_ProjectOk.R, H_impl_ProjectOk.m, impl_ProjectOk⟩
theorem E_impl_ProjectOk : fnOf tys [(116, T_impl_within), (175, T_impl_ActivityOk), (176, T_impl_ActivityIndex), (177, T_impl_ResourceOk), (178, T_slices_ContainsFunc_impl_Link_impl_Link), (179, T_impl_ProjectOk_1)] Tryz.f103 H_impl_ProjectOk = T_impl_ProjectOk := by kernel_rfl
theorem K_impl_ProjectOk : SigOk Tryz.prog 103 T_impl_ProjectOk := (congrArg (SigOk Tryz.prog 103) E_impl_ProjectOk).mp (fnOf_ok rfl tysOk ⟨K_impl_within, K_impl_ActivityOk, K_impl_ActivityIndex, K_impl_ResourceOk, K_slices_ContainsFunc_impl_Link_impl_Link, K_impl_ProjectOk_1, trivial⟩ Tryz.func103 (by decide) rfl (fun _ h => by cases h) (nilEq_of (by kernel_rfl)))
end Go.Proofs.YtnkgcbeklohakaaGreat