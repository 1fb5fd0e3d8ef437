/-
  The functions of this seat as plain Lean functions, and that the program computes them. No condition.
-/
import Derived.Test.YtnkgcbeklohakaaGreatN36
import Derived.Test.YtnkgcbeklohakaaGreatProg
import Derived.KernelRfl
namespace Go.Proofs.YtnkgcbeklohakaaGreat
open Go.Abs
set_option linter.unusedVariables false
set_option maxRecDepth 100000
abbrev D_Mode : Type := (Int × ((List Int) × ((List Int) × Unit)))
abbrev D_Activity : Type := ((List UInt8) × (Int × ((List D_Mode) × Unit)))
abbrev D_Link : Type := (Int × (Int × (Bool × (Int × Unit))))
abbrev D_Step : Type := (Int × (Int × Unit))
abbrev D_Resource : Type := ((List D_Step) × ((List (List Int)) × Unit))
abbrev D_Project : Type := (Int × ((List D_Activity) × ((List D_Link) × ((List D_Resource) × ((List Int) × Unit)))))
abbrev D_Literal : Type := (Int × D_Step)
abbrev D_Domain : Type := ((List Int) × ((List Int) × ((List (List Int)) × Unit)))
theorem tn3 : TnOk Tryz.prog 3 (.int .i64) := ⟨Tryz.underlying3, fun _ h => (by cases h), Tryz.t3, rfl, rfl, fun _ _ => rfl⟩
theorem tn4 : TnOk Tryz.prog 4 (.bool) := ⟨Tryz.underlying4, fun _ h => (by cases h), Tryz.t4, rfl, rfl, fun _ _ => rfl⟩
theorem tn5 : TnOk Tryz.prog 5 (.int .u8) := ⟨Tryz.underlying5, fun _ h => (by cases h), Tryz.t5, rfl, rfl, fun _ _ => rfl⟩
theorem tn9 : TnOk Tryz.prog 9 (.str) := ⟨Tryz.underlying9, fun _ h => (by cases h), Tryz.t9, rfl, rfl, fun _ _ => rfl⟩
theorem tn22 : TnOk Tryz.prog 22 (.sl 178 (.st [.str, .int .i64, .sl 269 (.st [.int .i64, .sl 3 (.int .i64), .sl 3 (.int .i64)])])) := ⟨⟨Tryz.underlying22, Tryz.t178, _, rfl, rfl, rfl, rfl, by decide, by decide, fun _ _ => rfl, fun k h => by cases h⟩, fun _ h => (by cases h), Tryz.t22, rfl, rfl, fun _ _ => rfl⟩
theorem tn23 : TnOk Tryz.prog 23 (.sl 194 (.st [.int .i64, .int .i64, .bool, .int .i64])) := ⟨⟨Tryz.underlying23, Tryz.t194, _, rfl, rfl, rfl, rfl, by decide, by decide, fun _ _ => rfl, fun k h => by cases h⟩, fun _ h => (by cases h), Tryz.t23, rfl, rfl, fun _ _ => rfl⟩
theorem tn24 : TnOk Tryz.prog 24 (.sl 182 (.st [.sl 272 (.st [.int .i64, .int .i64]), .sl 25 (.sl 3 (.int .i64))])) := ⟨⟨Tryz.underlying24, Tryz.t182, _, rfl, rfl, rfl, rfl, by decide, by decide, fun _ _ => rfl, fun k h => by cases h⟩, fun _ h => (by cases h), Tryz.t24, rfl, rfl, fun _ _ => rfl⟩
theorem tn25 : TnOk Tryz.prog 25 (.sl 3 (.int .i64)) := ⟨⟨Tryz.underlying25, Tryz.t3, _, rfl, rfl, rfl, rfl, by decide, by decide, fun _ _ => rfl, fun k h => by cases h; exact Tryz.underlying3⟩, fun _ h => (by cases h), Tryz.t25, rfl, rfl, fun _ _ => rfl⟩
theorem tn26 : TnOk Tryz.prog 26 (.st [.int .i64, .sl 178 (.st [.str, .int .i64, .sl 269 (.st [.int .i64, .sl 3 (.int .i64), .sl 3 (.int .i64)])]), .sl 194 (.st [.int .i64, .int .i64, .bool, .int .i64]), .sl 182 (.st [.sl 272 (.st [.int .i64, .int .i64]), .sl 25 (.sl 3 (.int .i64))]), .sl 3 (.int .i64)]) := ⟨⟨_, Tryz.underlying26, Tryz.eqGuardType26, Tryz.stoodInHeld26, rfl, fun j τ h => by
    cases j with
    | zero => cases h; exact ⟨_, _, rfl, rfl, by decide, by decide, Tryz.underlying3, rfl, fun us h => by cases h⟩
    | succ j =>
     cases j with
     | zero => cases h; exact ⟨_, _, rfl, rfl, by decide, by decide, Tryz.underlying22, rfl, fun us h => by cases h⟩
     | succ j =>
      cases j with
      | zero => cases h; exact ⟨_, _, rfl, rfl, by decide, by decide, Tryz.underlying23, rfl, fun us h => by cases h⟩
      | succ j =>
       cases j with
       | zero => cases h; exact ⟨_, _, rfl, rfl, by decide, by decide, Tryz.underlying24, rfl, fun us h => by cases h⟩
       | succ j =>
        cases j with
        | zero => cases h; exact ⟨_, _, rfl, rfl, by decide, by decide, Tryz.underlying25, rfl, fun us h => by cases h⟩
        | succ j =>
         cases h⟩, (fun us hus fs hfs j τ h f hf => by
    cases hus
    rw [Tryz.underlying26] at hfs
    cases hfs
    cases j with
    | zero => cases h; cases hf; exact ⟨fun k e => by cases e; exact Tryz.underlying3, fun e => (by cases e), fun e => (by cases e)⟩
    | succ j =>
     cases j with
     | zero => cases h; cases hf; exact ⟨fun k e => (by cases e), fun e => (by cases e), fun e => (by cases e)⟩
     | succ j =>
      cases j with
      | zero => cases h; cases hf; exact ⟨fun k e => (by cases e), fun e => (by cases e), fun e => (by cases e)⟩
      | succ j =>
       cases j with
       | zero => cases h; cases hf; exact ⟨fun k e => (by cases e), fun e => (by cases e), fun e => (by cases e)⟩
       | succ j =>
        cases j with
        | zero => cases h; cases hf; exact ⟨fun k e => (by cases e), fun e => (by cases e), fun e => (by cases e)⟩
        | succ j =>
         cases h), Tryz.t26, rfl, rfl, fun _ _ => rfl⟩
theorem tn27 : TnOk Tryz.prog 27 (.st [.int .i64, .sl 178 (.st [.str, .int .i64, .sl 269 (.st [.int .i64, .sl 3 (.int .i64), .sl 3 (.int .i64)])]), .sl 194 (.st [.int .i64, .int .i64, .bool, .int .i64]), .sl 182 (.st [.sl 272 (.st [.int .i64, .int .i64]), .sl 25 (.sl 3 (.int .i64))]), .sl 3 (.int .i64)]) := ⟨⟨_, Tryz.underlying27, Tryz.eqGuardType27, Tryz.stoodInHeld27, rfl, fun j τ h => by
    cases j with
    | zero => cases h; exact ⟨_, _, rfl, rfl, by decide, by decide, Tryz.underlying3, rfl, fun us h => by cases h⟩
    | succ j =>
     cases j with
     | zero => cases h; exact ⟨_, _, rfl, rfl, by decide, by decide, Tryz.underlying22, rfl, fun us h => by cases h⟩
     | succ j =>
      cases j with
      | zero => cases h; exact ⟨_, _, rfl, rfl, by decide, by decide, Tryz.underlying23, rfl, fun us h => by cases h⟩
      | succ j =>
       cases j with
       | zero => cases h; exact ⟨_, _, rfl, rfl, by decide, by decide, Tryz.underlying24, rfl, fun us h => by cases h⟩
       | succ j =>
        cases j with
        | zero => cases h; exact ⟨_, _, rfl, rfl, by decide, by decide, Tryz.underlying25, rfl, fun us h => by cases h⟩
        | succ j =>
         cases h⟩, (fun us hus fs hfs j τ h f hf => by
    cases hus
    rw [Tryz.underlying27] at hfs
    cases hfs
    cases j with
    | zero => cases h; cases hf; exact ⟨fun k e => by cases e; exact Tryz.underlying3, fun e => (by cases e), fun e => (by cases e)⟩
    | succ j =>
     cases j with
     | zero => cases h; cases hf; exact ⟨fun k e => (by cases e), fun e => (by cases e), fun e => (by cases e)⟩
     | succ j =>
      cases j with
      | zero => cases h; cases hf; exact ⟨fun k e => (by cases e), fun e => (by cases e), fun e => (by cases e)⟩
      | succ j =>
       cases j with
       | zero => cases h; cases hf; exact ⟨fun k e => (by cases e), fun e => (by cases e), fun e => (by cases e)⟩
       | succ j =>
        cases j with
        | zero => cases h; cases hf; exact ⟨fun k e => (by cases e), fun e => (by cases e), fun e => (by cases e)⟩
        | succ j =>
         cases h), Tryz.t27, rfl, rfl, fun _ _ => rfl⟩
theorem tn28 : TnOk Tryz.prog 28 (.sl 122 (.st [.int .i64, .int .i64, .int .i64])) := ⟨⟨Tryz.underlying28, Tryz.t122, _, rfl, rfl, rfl, rfl, by decide, by decide, fun _ _ => rfl, fun k h => by cases h⟩, fun _ h => (by cases h), Tryz.t28, rfl, rfl, fun _ _ => rfl⟩
theorem tn29 : TnOk Tryz.prog 29 (.fn [.st [.int .i64, .sl 178 (.st [.str, .int .i64, .sl 269 (.st [.int .i64, .sl 3 (.int .i64), .sl 3 (.int .i64)])]), .sl 194 (.st [.int .i64, .int .i64, .bool, .int .i64]), .sl 182 (.st [.sl 272 (.st [.int .i64, .int .i64]), .sl 25 (.sl 3 (.int .i64))]), .sl 3 (.int .i64)], .int .i64] (.int .i64)) := ⟨⟨_, _, _, Tryz.underlying29⟩, fun _ h => (by cases h), Tryz.t29, rfl, rfl, fun _ h => by cases h⟩
theorem tn30 : TnOk Tryz.prog 30 (.fn [.sl 122 (.st [.int .i64, .int .i64, .int .i64]), .int .i64] (.int .i64)) := ⟨⟨_, _, _, Tryz.underlying30⟩, fun _ h => (by cases h), Tryz.t30, rfl, rfl, fun _ h => by cases h⟩
theorem tn31 : TnOk Tryz.prog 31 (.sl 25 (.sl 3 (.int .i64))) := ⟨⟨Tryz.underlying31, Tryz.t25, _, rfl, rfl, rfl, rfl, by decide, by decide, fun _ _ => rfl, fun k h => by cases h⟩, fun _ h => (by cases h), Tryz.t31, rfl, rfl, fun _ _ => rfl⟩
theorem tn32 : TnOk Tryz.prog 32 (.st [.sl 3 (.int .i64), .sl 3 (.int .i64), .sl 25 (.sl 3 (.int .i64))]) := ⟨⟨_, Tryz.underlying32, Tryz.eqGuardType32, Tryz.stoodInHeld32, rfl, fun j τ h => by
    cases j with
    | zero => cases h; exact ⟨_, _, rfl, rfl, by decide, by decide, Tryz.underlying25, rfl, fun us h => by cases h⟩
    | succ j =>
     cases j with
     | zero => cases h; exact ⟨_, _, rfl, rfl, by decide, by decide, Tryz.underlying25, rfl, fun us h => by cases h⟩
     | succ j =>
      cases j with
      | zero => cases h; exact ⟨_, _, rfl, rfl, by decide, by decide, Tryz.underlying31, rfl, fun us h => by cases h⟩
      | succ j =>
       cases h⟩, (fun us hus fs hfs j τ h f hf => by
    cases hus
    rw [Tryz.underlying32] at hfs
    cases hfs
    cases j with
    | zero => cases h; cases hf; exact ⟨fun k e => (by cases e), fun e => (by cases e), fun e => (by cases e)⟩
    | succ j =>
     cases j with
     | zero => cases h; cases hf; exact ⟨fun k e => (by cases e), fun e => (by cases e), fun e => (by cases e)⟩
     | succ j =>
      cases j with
      | zero => cases h; cases hf; exact ⟨fun k e => (by cases e), fun e => (by cases e), fun e => (by cases e)⟩
      | succ j =>
       cases h), Tryz.t32, rfl, rfl, fun _ _ => rfl⟩
theorem tn33 : TnOk Tryz.prog 33 (.st [.sl 3 (.int .i64), .sl 3 (.int .i64), .sl 25 (.sl 3 (.int .i64))]) := ⟨⟨_, Tryz.underlying33, Tryz.eqGuardType33, Tryz.stoodInHeld33, rfl, fun j τ h => by
    cases j with
    | zero => cases h; exact ⟨_, _, rfl, rfl, by decide, by decide, Tryz.underlying25, rfl, fun us h => by cases h⟩
    | succ j =>
     cases j with
     | zero => cases h; exact ⟨_, _, rfl, rfl, by decide, by decide, Tryz.underlying25, rfl, fun us h => by cases h⟩
     | succ j =>
      cases j with
      | zero => cases h; exact ⟨_, _, rfl, rfl, by decide, by decide, Tryz.underlying31, rfl, fun us h => by cases h⟩
      | succ j =>
       cases h⟩, (fun us hus fs hfs j τ h f hf => by
    cases hus
    rw [Tryz.underlying33] at hfs
    cases hfs
    cases j with
    | zero => cases h; cases hf; exact ⟨fun k e => (by cases e), fun e => (by cases e), fun e => (by cases e)⟩
    | succ j =>
     cases j with
     | zero => cases h; cases hf; exact ⟨fun k e => (by cases e), fun e => (by cases e), fun e => (by cases e)⟩
     | succ j =>
      cases j with
      | zero => cases h; cases hf; exact ⟨fun k e => (by cases e), fun e => (by cases e), fun e => (by cases e)⟩
      | succ j =>
       cases h), Tryz.t33, rfl, rfl, fun _ _ => rfl⟩
theorem tn34 : TnOk Tryz.prog 34 (.fn [.st [.int .i64, .sl 165 (.st [.str, .int .i64, .sl 167 (.st [.int .i64, .sl 3 (.int .i64), .sl 3 (.int .i64)])]), .sl 190 (.st [.int .i64, .int .i64, .bool, .int .i64]), .sl 187 (.st [.sl 210 (.st [.int .i64, .int .i64]), .sl 25 (.sl 3 (.int .i64))]), .sl 3 (.int .i64)], .sl 120 (.st [.int .i64, .int .i64, .int .i64])] (.st [.sl 3 (.int .i64), .sl 3 (.int .i64), .sl 25 (.sl 3 (.int .i64))])) := ⟨⟨_, _, _, Tryz.underlying34⟩, fun _ h => (by cases h), Tryz.t34, rfl, rfl, fun _ h => by cases h⟩
theorem tn35 : TnOk Tryz.prog 35 (.sl 165 (.st [.str, .int .i64, .sl 167 (.st [.int .i64, .sl 3 (.int .i64), .sl 3 (.int .i64)])])) := ⟨⟨Tryz.underlying35, Tryz.t165, _, rfl, rfl, rfl, rfl, by decide, by decide, fun _ _ => rfl, fun k h => by cases h⟩, fun _ h => (by cases h), Tryz.t35, rfl, rfl, fun _ _ => rfl⟩
theorem tn36 : TnOk Tryz.prog 36 (.sl 190 (.st [.int .i64, .int .i64, .bool, .int .i64])) := ⟨⟨Tryz.underlying36, Tryz.t190, _, rfl, rfl, rfl, rfl, by decide, by decide, fun _ _ => rfl, fun k h => by cases h⟩, fun _ h => (by cases h), Tryz.t36, rfl, rfl, fun _ _ => rfl⟩
theorem tn37 : TnOk Tryz.prog 37 (.sl 187 (.st [.sl 210 (.st [.int .i64, .int .i64]), .sl 25 (.sl 3 (.int .i64))])) := ⟨⟨Tryz.underlying37, Tryz.t187, _, rfl, rfl, rfl, rfl, by decide, by decide, fun _ _ => rfl, fun k h => by cases h⟩, fun _ h => (by cases h), Tryz.t37, rfl, rfl, fun _ _ => rfl⟩
theorem tn38 : TnOk Tryz.prog 38 (.st [.int .i64, .sl 165 (.st [.str, .int .i64, .sl 167 (.st [.int .i64, .sl 3 (.int .i64), .sl 3 (.int .i64)])]), .sl 190 (.st [.int .i64, .int .i64, .bool, .int .i64]), .sl 187 (.st [.sl 210 (.st [.int .i64, .int .i64]), .sl 25 (.sl 3 (.int .i64))]), .sl 3 (.int .i64)]) := ⟨⟨_, Tryz.underlying38, Tryz.eqGuardType38, Tryz.stoodInHeld38, rfl, fun j τ h => by
    cases j with
    | zero => cases h; exact ⟨_, _, rfl, rfl, by decide, by decide, Tryz.underlying3, rfl, fun us h => by cases h⟩
    | succ j =>
     cases j with
     | zero => cases h; exact ⟨_, _, rfl, rfl, by decide, by decide, Tryz.underlying35, rfl, fun us h => by cases h⟩
     | succ j =>
      cases j with
      | zero => cases h; exact ⟨_, _, rfl, rfl, by decide, by decide, Tryz.underlying36, rfl, fun us h => by cases h⟩
      | succ j =>
       cases j with
       | zero => cases h; exact ⟨_, _, rfl, rfl, by decide, by decide, Tryz.underlying37, rfl, fun us h => by cases h⟩
       | succ j =>
        cases j with
        | zero => cases h; exact ⟨_, _, rfl, rfl, by decide, by decide, Tryz.underlying25, rfl, fun us h => by cases h⟩
        | succ j =>
         cases h⟩, (fun us hus fs hfs j τ h f hf => by
    cases hus
    rw [Tryz.underlying38] at hfs
    cases hfs
    cases j with
    | zero => cases h; cases hf; exact ⟨fun k e => by cases e; exact Tryz.underlying3, fun e => (by cases e), fun e => (by cases e)⟩
    | succ j =>
     cases j with
     | zero => cases h; cases hf; exact ⟨fun k e => (by cases e), fun e => (by cases e), fun e => (by cases e)⟩
     | succ j =>
      cases j with
      | zero => cases h; cases hf; exact ⟨fun k e => (by cases e), fun e => (by cases e), fun e => (by cases e)⟩
      | succ j =>
       cases j with
       | zero => cases h; cases hf; exact ⟨fun k e => (by cases e), fun e => (by cases e), fun e => (by cases e)⟩
       | succ j =>
        cases j with
        | zero => cases h; cases hf; exact ⟨fun k e => (by cases e), fun e => (by cases e), fun e => (by cases e)⟩
        | succ j =>
         cases h), Tryz.t38, rfl, rfl, fun _ _ => rfl⟩
theorem tn39 : TnOk Tryz.prog 39 (.st [.int .i64, .sl 165 (.st [.str, .int .i64, .sl 167 (.st [.int .i64, .sl 3 (.int .i64), .sl 3 (.int .i64)])]), .sl 190 (.st [.int .i64, .int .i64, .bool, .int .i64]), .sl 187 (.st [.sl 210 (.st [.int .i64, .int .i64]), .sl 25 (.sl 3 (.int .i64))]), .sl 3 (.int .i64)]) := ⟨⟨_, Tryz.underlying39, Tryz.eqGuardType39, Tryz.stoodInHeld39, rfl, fun j τ h => by
    cases j with
    | zero => cases h; exact ⟨_, _, rfl, rfl, by decide, by decide, Tryz.underlying3, rfl, fun us h => by cases h⟩
    | succ j =>
     cases j with
     | zero => cases h; exact ⟨_, _, rfl, rfl, by decide, by decide, Tryz.underlying35, rfl, fun us h => by cases h⟩
     | succ j =>
      cases j with
      | zero => cases h; exact ⟨_, _, rfl, rfl, by decide, by decide, Tryz.underlying36, rfl, fun us h => by cases h⟩
      | succ j =>
       cases j with
       | zero => cases h; exact ⟨_, _, rfl, rfl, by decide, by decide, Tryz.underlying37, rfl, fun us h => by cases h⟩
       | succ j =>
        cases j with
        | zero => cases h; exact ⟨_, _, rfl, rfl, by decide, by decide, Tryz.underlying25, rfl, fun us h => by cases h⟩
        | succ j =>
         cases h⟩, (fun us hus fs hfs j τ h f hf => by
    cases hus
    rw [Tryz.underlying39] at hfs
    cases hfs
    cases j with
    | zero => cases h; cases hf; exact ⟨fun k e => by cases e; exact Tryz.underlying3, fun e => (by cases e), fun e => (by cases e)⟩
    | succ j =>
     cases j with
     | zero => cases h; cases hf; exact ⟨fun k e => (by cases e), fun e => (by cases e), fun e => (by cases e)⟩
     | succ j =>
      cases j with
      | zero => cases h; cases hf; exact ⟨fun k e => (by cases e), fun e => (by cases e), fun e => (by cases e)⟩
      | succ j =>
       cases j with
       | zero => cases h; cases hf; exact ⟨fun k e => (by cases e), fun e => (by cases e), fun e => (by cases e)⟩
       | succ j =>
        cases j with
        | zero => cases h; cases hf; exact ⟨fun k e => (by cases e), fun e => (by cases e), fun e => (by cases e)⟩
        | succ j =>
         cases h), Tryz.t39, rfl, rfl, fun _ _ => rfl⟩
theorem tn40 : TnOk Tryz.prog 40 (.fn [.st [.int .i64, .sl 178 (.st [.str, .int .i64, .sl 269 (.st [.int .i64, .sl 3 (.int .i64), .sl 3 (.int .i64)])]), .sl 194 (.st [.int .i64, .int .i64, .bool, .int .i64]), .sl 182 (.st [.sl 272 (.st [.int .i64, .int .i64]), .sl 25 (.sl 3 (.int .i64))]), .sl 3 (.int .i64)]] (.st [.int .i64, .sl 165 (.st [.str, .int .i64, .sl 167 (.st [.int .i64, .sl 3 (.int .i64), .sl 3 (.int .i64)])]), .sl 190 (.st [.int .i64, .int .i64, .bool, .int .i64]), .sl 187 (.st [.sl 210 (.st [.int .i64, .int .i64]), .sl 25 (.sl 3 (.int .i64))]), .sl 3 (.int .i64)])) := ⟨⟨_, _, _, Tryz.underlying40⟩, fun _ h => (by cases h), Tryz.t40, rfl, rfl, fun _ h => by cases h⟩
theorem tn41 : TnOk Tryz.prog 41 (.sl 120 (.st [.int .i64, .int .i64, .int .i64])) := ⟨⟨Tryz.underlying41, Tryz.t120, _, rfl, rfl, rfl, rfl, by decide, by decide, fun _ _ => rfl, fun k h => by cases h⟩, fun _ h => (by cases h), Tryz.t41, rfl, rfl, fun _ _ => rfl⟩
theorem tn42 : TnOk Tryz.prog 42 (.fn [.sl 122 (.st [.int .i64, .int .i64, .int .i64])] (.sl 120 (.st [.int .i64, .int .i64, .int .i64]))) := ⟨⟨_, _, _, Tryz.underlying42⟩, fun _ h => (by cases h), Tryz.t42, rfl, rfl, fun _ h => by cases h⟩
theorem tn43 : TnOk Tryz.prog 43 (.fn [.st [.sl 3 (.int .i64), .sl 3 (.int .i64), .sl 25 (.sl 3 (.int .i64))], .st [.sl 3 (.int .i64), .sl 3 (.int .i64), .sl 25 (.sl 3 (.int .i64))]] (.bool)) := ⟨⟨_, _, _, Tryz.underlying43⟩, fun _ h => (by cases h), Tryz.t43, rfl, rfl, fun _ h => by cases h⟩
theorem tn44 : TnOk Tryz.prog 44 (.fn [.st [.int .i64, .sl 165 (.st [.str, .int .i64, .sl 167 (.st [.int .i64, .sl 3 (.int .i64), .sl 3 (.int .i64)])]), .sl 190 (.st [.int .i64, .int .i64, .bool, .int .i64]), .sl 187 (.st [.sl 210 (.st [.int .i64, .int .i64]), .sl 25 (.sl 3 (.int .i64))]), .sl 3 (.int .i64)], .st [.int .i64, .sl 165 (.st [.str, .int .i64, .sl 167 (.st [.int .i64, .sl 3 (.int .i64), .sl 3 (.int .i64)])]), .sl 190 (.st [.int .i64, .int .i64, .bool, .int .i64]), .sl 187 (.st [.sl 210 (.st [.int .i64, .int .i64]), .sl 25 (.sl 3 (.int .i64))]), .sl 3 (.int .i64)]] (.bool)) := ⟨⟨_, _, _, Tryz.underlying44⟩, fun _ h => (by cases h), Tryz.t44, rfl, rfl, fun _ h => by cases h⟩
theorem tn45 : TnOk Tryz.prog 45 (.fn [.sl 120 (.st [.int .i64, .int .i64, .int .i64]), .sl 120 (.st [.int .i64, .int .i64, .int .i64])] (.bool)) := ⟨⟨_, _, _, Tryz.underlying45⟩, fun _ h => (by cases h), Tryz.t45, rfl, rfl, fun _ h => by cases h⟩
theorem tn46 : TnOk Tryz.prog 46 (.fn [.st [.int .i64, .sl 165 (.st [.str, .int .i64, .sl 167 (.st [.int .i64, .sl 3 (.int .i64), .sl 3 (.int .i64)])]), .sl 190 (.st [.int .i64, .int .i64, .bool, .int .i64]), .sl 187 (.st [.sl 210 (.st [.int .i64, .int .i64]), .sl 25 (.sl 3 (.int .i64))]), .sl 3 (.int .i64)], .int .i64] (.int .i64)) := ⟨⟨_, _, _, Tryz.underlying46⟩, fun _ h => (by cases h), Tryz.t46, rfl, rfl, fun _ h => by cases h⟩
theorem tn47 : TnOk Tryz.prog 47 (.fn [.sl 120 (.st [.int .i64, .int .i64, .int .i64]), .int .i64] (.int .i64)) := ⟨⟨_, _, _, Tryz.underlying47⟩, fun _ h => (by cases h), Tryz.t47, rfl, rfl, fun _ h => by cases h⟩
theorem tn48 : TnOk Tryz.prog 48 (.fn [.st [.sl 3 (.int .i64), .sl 3 (.int .i64), .sl 25 (.sl 3 (.int .i64))], .int .i64] (.int .i64)) := ⟨⟨_, _, _, Tryz.underlying48⟩, fun _ h => (by cases h), Tryz.t48, rfl, rfl, fun _ h => by cases h⟩
theorem tn49 : TnOk Tryz.prog 49 (.fn [.st [.int .i64, .sl 178 (.st [.str, .int .i64, .sl 269 (.st [.int .i64, .sl 3 (.int .i64), .sl 3 (.int .i64)])]), .sl 194 (.st [.int .i64, .int .i64, .bool, .int .i64]), .sl 182 (.st [.sl 272 (.st [.int .i64, .int .i64]), .sl 25 (.sl 3 (.int .i64))]), .sl 3 (.int .i64)], .sl 122 (.st [.int .i64, .int .i64, .int .i64])] (.bool)) := ⟨⟨_, _, _, Tryz.underlying49⟩, fun _ h => (by cases h), Tryz.t49, rfl, rfl, fun _ h => by cases h⟩
theorem tn108 : TnOk Tryz.prog 108 (.fn [.sl 178 (.st [.str, .int .i64, .sl 269 (.st [.int .i64, .sl 3 (.int .i64), .sl 3 (.int .i64)])]), .int .i64] (.int .i64)) := ⟨⟨_, _, _, Tryz.underlying108⟩, fun _ h => (by cases h), Tryz.t108, rfl, rfl, fun _ h => by cases h⟩
theorem tn109 : TnOk Tryz.prog 109 (.fn [.sl 194 (.st [.int .i64, .int .i64, .bool, .int .i64]), .int .i64] (.int .i64)) := ⟨⟨_, _, _, Tryz.underlying109⟩, fun _ h => (by cases h), Tryz.t109, rfl, rfl, fun _ h => by cases h⟩
theorem tn110 : TnOk Tryz.prog 110 (.fn [.sl 182 (.st [.sl 272 (.st [.int .i64, .int .i64]), .sl 25 (.sl 3 (.int .i64))]), .int .i64] (.int .i64)) := ⟨⟨_, _, _, Tryz.underlying110⟩, fun _ h => (by cases h), Tryz.t110, rfl, rfl, fun _ h => by cases h⟩
theorem tn111 : TnOk Tryz.prog 111 (.fn [.sl 3 (.int .i64), .int .i64] (.int .i64)) := ⟨⟨_, _, _, Tryz.underlying111⟩, fun _ h => (by cases h), Tryz.t111, rfl, rfl, fun _ h => by cases h⟩
theorem tn112 : TnOk Tryz.prog 112 (.fn [.st [.int .i64, .sl 165 (.st [.str, .int .i64, .sl 167 (.st [.int .i64, .sl 3 (.int .i64), .sl 3 (.int .i64)])]), .sl 190 (.st [.int .i64, .int .i64, .bool, .int .i64]), .sl 187 (.st [.sl 210 (.st [.int .i64, .int .i64]), .sl 25 (.sl 3 (.int .i64))]), .sl 3 (.int .i64)]] (.bool)) := ⟨⟨_, _, _, Tryz.underlying112⟩, fun _ h => (by cases h), Tryz.t112, rfl, rfl, fun _ h => by cases h⟩
theorem tn113 : TnOk Tryz.prog 113 (.fn [.st [.sl 3 (.int .i64), .sl 3 (.int .i64), .sl 25 (.sl 3 (.int .i64))], .sl 120 (.st [.int .i64, .int .i64, .int .i64])] (.st [.sl 3 (.int .i64), .sl 3 (.int .i64), .sl 25 (.sl 3 (.int .i64))])) := ⟨⟨_, _, _, Tryz.underlying113⟩, fun _ h => (by cases h), Tryz.t113, rfl, rfl, fun _ h => by cases h⟩
theorem tn114 : TnOk Tryz.prog 114 (.fn [.st [.int .i64, .sl 165 (.st [.str, .int .i64, .sl 167 (.st [.int .i64, .sl 3 (.int .i64), .sl 3 (.int .i64)])]), .sl 190 (.st [.int .i64, .int .i64, .bool, .int .i64]), .sl 187 (.st [.sl 210 (.st [.int .i64, .int .i64]), .sl 25 (.sl 3 (.int .i64))]), .sl 3 (.int .i64)]] (.st [.sl 3 (.int .i64), .sl 3 (.int .i64), .sl 25 (.sl 3 (.int .i64))])) := ⟨⟨_, _, _, Tryz.underlying114⟩, fun _ h => (by cases h), Tryz.t114, rfl, rfl, fun _ h => by cases h⟩
theorem tn115 : TnOk Tryz.prog 115 (.fn [.sl 178 (.st [.str, .int .i64, .sl 269 (.st [.int .i64, .sl 3 (.int .i64), .sl 3 (.int .i64)])])] (.sl 165 (.st [.str, .int .i64, .sl 167 (.st [.int .i64, .sl 3 (.int .i64), .sl 3 (.int .i64)])]))) := ⟨⟨_, _, _, Tryz.underlying115⟩, fun _ h => (by cases h), Tryz.t115, rfl, rfl, fun _ h => by cases h⟩
theorem tn116 : TnOk Tryz.prog 116 (.fn [.sl 194 (.st [.int .i64, .int .i64, .bool, .int .i64])] (.sl 190 (.st [.int .i64, .int .i64, .bool, .int .i64]))) := ⟨⟨_, _, _, Tryz.underlying116⟩, fun _ h => (by cases h), Tryz.t116, rfl, rfl, fun _ h => by cases h⟩
theorem tn117 : TnOk Tryz.prog 117 (.fn [.sl 182 (.st [.sl 272 (.st [.int .i64, .int .i64]), .sl 25 (.sl 3 (.int .i64))])] (.sl 187 (.st [.sl 210 (.st [.int .i64, .int .i64]), .sl 25 (.sl 3 (.int .i64))]))) := ⟨⟨_, _, _, Tryz.underlying117⟩, fun _ h => (by cases h), Tryz.t117, rfl, rfl, fun _ h => by cases h⟩
theorem tn118 : TnOk Tryz.prog 118 (.fn [.sl 3 (.int .i64)] (.sl 3 (.int .i64))) := ⟨⟨_, _, _, Tryz.underlying118⟩, fun _ h => (by cases h), Tryz.t118, rfl, rfl, fun _ h => by cases h⟩
theorem tn119 : TnOk Tryz.prog 119 (.st [.int .i64, .int .i64, .int .i64]) := ⟨⟨_, Tryz.underlying119, Tryz.eqGuardType119, Tryz.stoodInHeld119, rfl, fun j τ h => by
    cases j with
    | zero => cases h; exact ⟨_, _, rfl, rfl, by decide, by decide, Tryz.underlying3, rfl, fun us h => by cases h⟩
    | succ j =>
     cases j with
     | zero => cases h; exact ⟨_, _, rfl, rfl, by decide, by decide, Tryz.underlying3, rfl, fun us h => by cases h⟩
     | succ j =>
      cases j with
      | zero => cases h; exact ⟨_, _, rfl, rfl, by decide, by decide, Tryz.underlying3, rfl, fun us h => by cases h⟩
      | succ j =>
       cases h⟩, (fun us hus fs hfs j τ h f hf => by
    cases hus
    rw [Tryz.underlying119] at hfs
    cases hfs
    cases j with
    | zero => cases h; cases hf; exact ⟨fun k e => by cases e; exact Tryz.underlying3, fun e => (by cases e), fun e => (by cases e)⟩
    | succ j =>
     cases j with
     | zero => cases h; cases hf; exact ⟨fun k e => by cases e; exact Tryz.underlying3, fun e => (by cases e), fun e => (by cases e)⟩
     | succ j =>
      cases j with
      | zero => cases h; cases hf; exact ⟨fun k e => by cases e; exact Tryz.underlying3, fun e => (by cases e), fun e => (by cases e)⟩
      | succ j =>
       cases h), Tryz.t119, rfl, rfl, fun _ _ => rfl⟩
theorem tn120 : TnOk Tryz.prog 120 (.st [.int .i64, .int .i64, .int .i64]) := ⟨⟨_, Tryz.underlying120, Tryz.eqGuardType120, Tryz.stoodInHeld120, rfl, fun j τ h => by
    cases j with
    | zero => cases h; exact ⟨_, _, rfl, rfl, by decide, by decide, Tryz.underlying3, rfl, fun us h => by cases h⟩
    | succ j =>
     cases j with
     | zero => cases h; exact ⟨_, _, rfl, rfl, by decide, by decide, Tryz.underlying3, rfl, fun us h => by cases h⟩
     | succ j =>
      cases j with
      | zero => cases h; exact ⟨_, _, rfl, rfl, by decide, by decide, Tryz.underlying3, rfl, fun us h => by cases h⟩
      | succ j =>
       cases h⟩, (fun us hus fs hfs j τ h f hf => by
    cases hus
    rw [Tryz.underlying120] at hfs
    cases hfs
    cases j with
    | zero => cases h; cases hf; exact ⟨fun k e => by cases e; exact Tryz.underlying3, fun e => (by cases e), fun e => (by cases e)⟩
    | succ j =>
     cases j with
     | zero => cases h; cases hf; exact ⟨fun k e => by cases e; exact Tryz.underlying3, fun e => (by cases e), fun e => (by cases e)⟩
     | succ j =>
      cases j with
      | zero => cases h; cases hf; exact ⟨fun k e => by cases e; exact Tryz.underlying3, fun e => (by cases e), fun e => (by cases e)⟩
      | succ j =>
       cases h), Tryz.t120, rfl, rfl, fun _ _ => rfl⟩
theorem tn121 : TnOk Tryz.prog 121 (.fn [.st [.int .i64, .int .i64, .int .i64]] (.st [.int .i64, .int .i64, .int .i64])) := ⟨⟨_, _, _, Tryz.underlying121⟩, fun _ h => (by cases h), Tryz.t121, rfl, rfl, fun _ h => by cases h⟩
theorem tn122 : TnOk Tryz.prog 122 (.st [.int .i64, .int .i64, .int .i64]) := ⟨⟨_, Tryz.underlying122, Tryz.eqGuardType122, Tryz.stoodInHeld122, rfl, fun j τ h => by
    cases j with
    | zero => cases h; exact ⟨_, _, rfl, rfl, by decide, by decide, Tryz.underlying3, rfl, fun us h => by cases h⟩
    | succ j =>
     cases j with
     | zero => cases h; exact ⟨_, _, rfl, rfl, by decide, by decide, Tryz.underlying3, rfl, fun us h => by cases h⟩
     | succ j =>
      cases j with
      | zero => cases h; exact ⟨_, _, rfl, rfl, by decide, by decide, Tryz.underlying3, rfl, fun us h => by cases h⟩
      | succ j =>
       cases h⟩, (fun us hus fs hfs j τ h f hf => by
    cases hus
    rw [Tryz.underlying122] at hfs
    cases hfs
    cases j with
    | zero => cases h; cases hf; exact ⟨fun k e => by cases e; exact Tryz.underlying3, fun e => (by cases e), fun e => (by cases e)⟩
    | succ j =>
     cases j with
     | zero => cases h; cases hf; exact ⟨fun k e => by cases e; exact Tryz.underlying3, fun e => (by cases e), fun e => (by cases e)⟩
     | succ j =>
      cases j with
      | zero => cases h; cases hf; exact ⟨fun k e => by cases e; exact Tryz.underlying3, fun e => (by cases e), fun e => (by cases e)⟩
      | succ j =>
       cases h), Tryz.t122, rfl, rfl, fun _ _ => rfl⟩
theorem tn123 : TnOk Tryz.prog 123 (.fn [.st [.sl 3 (.int .i64), .sl 3 (.int .i64), .sl 25 (.sl 3 (.int .i64))], .st [.int .i64, .int .i64, .int .i64]] (.st [.sl 3 (.int .i64), .sl 3 (.int .i64), .sl 25 (.sl 3 (.int .i64))])) := ⟨⟨_, _, _, Tryz.underlying123⟩, fun _ h => (by cases h), Tryz.t123, rfl, rfl, fun _ h => by cases h⟩
theorem tn124 : TnOk Tryz.prog 124 (.fn [.st [.int .i64, .int .i64, .int .i64]] (.st [.int .i64, .int .i64, .int .i64])) := ⟨⟨_, _, _, Tryz.underlying124⟩, fun _ h => (by cases h), Tryz.t124, rfl, rfl, fun _ h => by cases h⟩
theorem tn125 : TnOk Tryz.prog 125 (.fn [.sl 3 (.int .i64), .sl 3 (.int .i64)] (.bool)) := ⟨⟨_, _, _, Tryz.underlying125⟩, fun _ h => (by cases h), Tryz.t125, rfl, rfl, fun _ h => by cases h⟩
theorem tn126 : TnOk Tryz.prog 126 (.fn [.sl 25 (.sl 3 (.int .i64)), .sl 25 (.sl 3 (.int .i64))] (.bool)) := ⟨⟨_, _, _, Tryz.underlying126⟩, fun _ h => (by cases h), Tryz.t126, rfl, rfl, fun _ h => by cases h⟩
theorem tn127 : TnOk Tryz.prog 127 (.fn [.sl 165 (.st [.str, .int .i64, .sl 167 (.st [.int .i64, .sl 3 (.int .i64), .sl 3 (.int .i64)])]), .sl 165 (.st [.str, .int .i64, .sl 167 (.st [.int .i64, .sl 3 (.int .i64), .sl 3 (.int .i64)])])] (.bool)) := ⟨⟨_, _, _, Tryz.underlying127⟩, fun _ h => (by cases h), Tryz.t127, rfl, rfl, fun _ h => by cases h⟩
theorem tn128 : TnOk Tryz.prog 128 (.fn [.sl 190 (.st [.int .i64, .int .i64, .bool, .int .i64]), .sl 190 (.st [.int .i64, .int .i64, .bool, .int .i64])] (.bool)) := ⟨⟨_, _, _, Tryz.underlying128⟩, fun _ h => (by cases h), Tryz.t128, rfl, rfl, fun _ h => by cases h⟩
theorem tn129 : TnOk Tryz.prog 129 (.fn [.sl 187 (.st [.sl 210 (.st [.int .i64, .int .i64]), .sl 25 (.sl 3 (.int .i64))]), .sl 187 (.st [.sl 210 (.st [.int .i64, .int .i64]), .sl 25 (.sl 3 (.int .i64))])] (.bool)) := ⟨⟨_, _, _, Tryz.underlying129⟩, fun _ h => (by cases h), Tryz.t129, rfl, rfl, fun _ h => by cases h⟩
theorem tn130 : TnOk Tryz.prog 130 (.fn [.st [.int .i64, .int .i64, .int .i64], .st [.int .i64, .int .i64, .int .i64]] (.bool)) := ⟨⟨_, _, _, Tryz.underlying130⟩, fun _ h => (by cases h), Tryz.t130, rfl, rfl, fun _ h => by cases h⟩
theorem tn131 : TnOk Tryz.prog 131 (.fn [.sl 165 (.st [.str, .int .i64, .sl 167 (.st [.int .i64, .sl 3 (.int .i64), .sl 3 (.int .i64)])]), .int .i64] (.int .i64)) := ⟨⟨_, _, _, Tryz.underlying131⟩, fun _ h => (by cases h), Tryz.t131, rfl, rfl, fun _ h => by cases h⟩
theorem tn132 : TnOk Tryz.prog 132 (.fn [.sl 190 (.st [.int .i64, .int .i64, .bool, .int .i64]), .int .i64] (.int .i64)) := ⟨⟨_, _, _, Tryz.underlying132⟩, fun _ h => (by cases h), Tryz.t132, rfl, rfl, fun _ h => by cases h⟩
theorem tn133 : TnOk Tryz.prog 133 (.fn [.sl 187 (.st [.sl 210 (.st [.int .i64, .int .i64]), .sl 25 (.sl 3 (.int .i64))]), .int .i64] (.int .i64)) := ⟨⟨_, _, _, Tryz.underlying133⟩, fun _ h => (by cases h), Tryz.t133, rfl, rfl, fun _ h => by cases h⟩
theorem tn134 : TnOk Tryz.prog 134 (.fn [.sl 25 (.sl 3 (.int .i64)), .int .i64] (.int .i64)) := ⟨⟨_, _, _, Tryz.underlying134⟩, fun _ h => (by cases h), Tryz.t134, rfl, rfl, fun _ h => by cases h⟩
theorem tn136 : TnOk Tryz.prog 136 (.fn [.sl 25 (.sl 3 (.int .i64))] (.sl 25 (.sl 3 (.int .i64)))) := ⟨⟨_, _, _, Tryz.underlying136⟩, fun _ h => (by cases h), Tryz.t136, rfl, rfl, fun _ h => by cases h⟩
theorem tn141 : TnOk Tryz.prog 141 (.fn [.int .i64, .int .i64, .int .i64] (.bool)) := ⟨⟨_, _, _, Tryz.underlying141⟩, fun _ h => (by cases h), Tryz.t141, rfl, rfl, fun _ h => by cases h⟩
theorem tn148 : TnOk Tryz.prog 148 (.fn [.st [.sl 3 (.int .i64), .sl 3 (.int .i64), .sl 25 (.sl 3 (.int .i64))]] (.st [.sl 3 (.int .i64), .sl 3 (.int .i64), .sl 25 (.sl 3 (.int .i64))])) := ⟨⟨_, _, _, Tryz.underlying148⟩, fun _ h => (by cases h), Tryz.t148, rfl, rfl, fun _ h => by cases h⟩
theorem tn153 : TnOk Tryz.prog 153 (.fn [] (.st [.sl 3 (.int .i64), .sl 3 (.int .i64), .sl 25 (.sl 3 (.int .i64))])) := ⟨⟨_, _, _, Tryz.underlying153⟩, fun _ h => (by cases h), Tryz.t153, rfl, rfl, fun _ h => by cases h⟩
theorem tn161 : TnOk Tryz.prog 161 (.fn [.int .i64] (.bool)) := ⟨⟨_, _, _, Tryz.underlying161⟩, fun _ h => (by cases h), Tryz.t161, rfl, rfl, fun _ h => by cases h⟩
theorem tn162 : TnOk Tryz.prog 162 (.fn [.sl 3 (.int .i64), .int .i64] (.bool)) := ⟨⟨_, _, _, Tryz.underlying162⟩, fun _ h => (by cases h), Tryz.t162, rfl, rfl, fun _ h => by cases h⟩
theorem tn163 : TnOk Tryz.prog 163 (.sl 167 (.st [.int .i64, .sl 3 (.int .i64), .sl 3 (.int .i64)])) := ⟨⟨Tryz.underlying163, Tryz.t167, _, rfl, rfl, rfl, rfl, by decide, by decide, fun _ _ => rfl, fun k h => by cases h⟩, fun _ h => (by cases h), Tryz.t163, rfl, rfl, fun _ _ => rfl⟩
theorem tn164 : TnOk Tryz.prog 164 (.st [.str, .int .i64, .sl 167 (.st [.int .i64, .sl 3 (.int .i64), .sl 3 (.int .i64)])]) := ⟨⟨_, Tryz.underlying164, Tryz.eqGuardType164, Tryz.stoodInHeld164, rfl, fun j τ h => by
    cases j with
    | zero => cases h; exact ⟨_, _, rfl, rfl, by decide, by decide, Tryz.underlying9, rfl, fun us h => by cases h⟩
    | succ j =>
     cases j with
     | zero => cases h; exact ⟨_, _, rfl, rfl, by decide, by decide, Tryz.underlying3, rfl, fun us h => by cases h⟩
     | succ j =>
      cases j with
      | zero => cases h; exact ⟨_, _, rfl, rfl, by decide, by decide, Tryz.underlying163, rfl, fun us h => by cases h⟩
      | succ j =>
       cases h⟩, (fun us hus fs hfs j τ h f hf => by
    cases hus
    rw [Tryz.underlying164] at hfs
    cases hfs
    cases j with
    | zero => cases h; cases hf; exact ⟨fun k e => (by cases e), fun e => (by cases e), fun _ => Tryz.underlying9⟩
    | succ j =>
     cases j with
     | zero => cases h; cases hf; exact ⟨fun k e => by cases e; exact Tryz.underlying3, fun e => (by cases e), fun e => (by cases e)⟩
     | succ j =>
      cases j with
      | zero => cases h; cases hf; exact ⟨fun k e => (by cases e), fun e => (by cases e), fun e => (by cases e)⟩
      | succ j =>
       cases h), Tryz.t164, rfl, rfl, fun _ _ => rfl⟩
theorem tn165 : TnOk Tryz.prog 165 (.st [.str, .int .i64, .sl 167 (.st [.int .i64, .sl 3 (.int .i64), .sl 3 (.int .i64)])]) := ⟨⟨_, Tryz.underlying165, Tryz.eqGuardType165, Tryz.stoodInHeld165, rfl, fun j τ h => by
    cases j with
    | zero => cases h; exact ⟨_, _, rfl, rfl, by decide, by decide, Tryz.underlying9, rfl, fun us h => by cases h⟩
    | succ j =>
     cases j with
     | zero => cases h; exact ⟨_, _, rfl, rfl, by decide, by decide, Tryz.underlying3, rfl, fun us h => by cases h⟩
     | succ j =>
      cases j with
      | zero => cases h; exact ⟨_, _, rfl, rfl, by decide, by decide, Tryz.underlying163, rfl, fun us h => by cases h⟩
      | succ j =>
       cases h⟩, (fun us hus fs hfs j τ h f hf => by
    cases hus
    rw [Tryz.underlying165] at hfs
    cases hfs
    cases j with
    | zero => cases h; cases hf; exact ⟨fun k e => (by cases e), fun e => (by cases e), fun _ => Tryz.underlying9⟩
    | succ j =>
     cases j with
     | zero => cases h; cases hf; exact ⟨fun k e => by cases e; exact Tryz.underlying3, fun e => (by cases e), fun e => (by cases e)⟩
     | succ j =>
      cases j with
      | zero => cases h; cases hf; exact ⟨fun k e => (by cases e), fun e => (by cases e), fun e => (by cases e)⟩
      | succ j =>
       cases h), Tryz.t165, rfl, rfl, fun _ _ => rfl⟩
theorem tn166 : TnOk Tryz.prog 166 (.st [.int .i64, .sl 3 (.int .i64), .sl 3 (.int .i64)]) := ⟨⟨_, Tryz.underlying166, Tryz.eqGuardType166, Tryz.stoodInHeld166, rfl, fun j τ h => by
    cases j with
    | zero => cases h; exact ⟨_, _, rfl, rfl, by decide, by decide, Tryz.underlying3, rfl, fun us h => by cases h⟩
    | succ j =>
     cases j with
     | zero => cases h; exact ⟨_, _, rfl, rfl, by decide, by decide, Tryz.underlying25, rfl, fun us h => by cases h⟩
     | succ j =>
      cases j with
      | zero => cases h; exact ⟨_, _, rfl, rfl, by decide, by decide, Tryz.underlying25, rfl, fun us h => by cases h⟩
      | succ j =>
       cases h⟩, (fun us hus fs hfs j τ h f hf => by
    cases hus
    rw [Tryz.underlying166] at hfs
    cases hfs
    cases j with
    | zero => cases h; cases hf; exact ⟨fun k e => by cases e; exact Tryz.underlying3, fun e => (by cases e), fun e => (by cases e)⟩
    | succ j =>
     cases j with
     | zero => cases h; cases hf; exact ⟨fun k e => (by cases e), fun e => (by cases e), fun e => (by cases e)⟩
     | succ j =>
      cases j with
      | zero => cases h; cases hf; exact ⟨fun k e => (by cases e), fun e => (by cases e), fun e => (by cases e)⟩
      | succ j =>
       cases h), Tryz.t166, rfl, rfl, fun _ _ => rfl⟩
theorem tn167 : TnOk Tryz.prog 167 (.st [.int .i64, .sl 3 (.int .i64), .sl 3 (.int .i64)]) := ⟨⟨_, Tryz.underlying167, Tryz.eqGuardType167, Tryz.stoodInHeld167, rfl, fun j τ h => by
    cases j with
    | zero => cases h; exact ⟨_, _, rfl, rfl, by decide, by decide, Tryz.underlying3, rfl, fun us h => by cases h⟩
    | succ j =>
     cases j with
     | zero => cases h; exact ⟨_, _, rfl, rfl, by decide, by decide, Tryz.underlying25, rfl, fun us h => by cases h⟩
     | succ j =>
      cases j with
      | zero => cases h; exact ⟨_, _, rfl, rfl, by decide, by decide, Tryz.underlying25, rfl, fun us h => by cases h⟩
      | succ j =>
       cases h⟩, (fun us hus fs hfs j τ h f hf => by
    cases hus
    rw [Tryz.underlying167] at hfs
    cases hfs
    cases j with
    | zero => cases h; cases hf; exact ⟨fun k e => by cases e; exact Tryz.underlying3, fun e => (by cases e), fun e => (by cases e)⟩
    | succ j =>
     cases j with
     | zero => cases h; cases hf; exact ⟨fun k e => (by cases e), fun e => (by cases e), fun e => (by cases e)⟩
     | succ j =>
      cases j with
      | zero => cases h; cases hf; exact ⟨fun k e => (by cases e), fun e => (by cases e), fun e => (by cases e)⟩
      | succ j =>
       cases h), Tryz.t167, rfl, rfl, fun _ _ => rfl⟩
theorem tn170 : TnOk Tryz.prog 170 (.fn [.int .i64, .int .i64] (.int .i64)) := ⟨⟨_, _, _, Tryz.underlying170⟩, fun _ h => (by cases h), Tryz.t170, rfl, rfl, fun _ h => by cases h⟩
theorem tn174 : TnOk Tryz.prog 174 (.fn [.sl 3 (.int .i64), .int .i64] (.sl 3 (.int .i64))) := ⟨⟨_, _, _, Tryz.underlying174⟩, fun _ h => (by cases h), Tryz.t174, rfl, rfl, fun _ h => by cases h⟩
theorem tn175 : TnOk Tryz.prog 175 (.fn [.st [.str, .int .i64, .sl 269 (.st [.int .i64, .sl 3 (.int .i64), .sl 3 (.int .i64)])], .int .i64] (.int .i64)) := ⟨⟨_, _, _, Tryz.underlying175⟩, fun _ h => (by cases h), Tryz.t175, rfl, rfl, fun _ h => by cases h⟩
theorem tn176 : TnOk Tryz.prog 176 (.sl 269 (.st [.int .i64, .sl 3 (.int .i64), .sl 3 (.int .i64)])) := ⟨⟨Tryz.underlying176, Tryz.t269, _, rfl, rfl, rfl, rfl, by decide, by decide, fun _ _ => rfl, fun k h => by cases h⟩, fun _ h => (by cases h), Tryz.t176, rfl, rfl, fun _ _ => rfl⟩
theorem tn177 : TnOk Tryz.prog 177 (.st [.str, .int .i64, .sl 269 (.st [.int .i64, .sl 3 (.int .i64), .sl 3 (.int .i64)])]) := ⟨⟨_, Tryz.underlying177, Tryz.eqGuardType177, Tryz.stoodInHeld177, rfl, fun j τ h => by
    cases j with
    | zero => cases h; exact ⟨_, _, rfl, rfl, by decide, by decide, Tryz.underlying9, rfl, fun us h => by cases h⟩
    | succ j =>
     cases j with
     | zero => cases h; exact ⟨_, _, rfl, rfl, by decide, by decide, Tryz.underlying3, rfl, fun us h => by cases h⟩
     | succ j =>
      cases j with
      | zero => cases h; exact ⟨_, _, rfl, rfl, by decide, by decide, Tryz.underlying176, rfl, fun us h => by cases h⟩
      | succ j =>
       cases h⟩, (fun us hus fs hfs j τ h f hf => by
    cases hus
    rw [Tryz.underlying177] at hfs
    cases hfs
    cases j with
    | zero => cases h; cases hf; exact ⟨fun k e => (by cases e), fun e => (by cases e), fun _ => Tryz.underlying9⟩
    | succ j =>
     cases j with
     | zero => cases h; cases hf; exact ⟨fun k e => by cases e; exact Tryz.underlying3, fun e => (by cases e), fun e => (by cases e)⟩
     | succ j =>
      cases j with
      | zero => cases h; cases hf; exact ⟨fun k e => (by cases e), fun e => (by cases e), fun e => (by cases e)⟩
      | succ j =>
       cases h), Tryz.t177, rfl, rfl, fun _ _ => rfl⟩
theorem tn178 : TnOk Tryz.prog 178 (.st [.str, .int .i64, .sl 269 (.st [.int .i64, .sl 3 (.int .i64), .sl 3 (.int .i64)])]) := ⟨⟨_, Tryz.underlying178, Tryz.eqGuardType178, Tryz.stoodInHeld178, rfl, fun j τ h => by
    cases j with
    | zero => cases h; exact ⟨_, _, rfl, rfl, by decide, by decide, Tryz.underlying9, rfl, fun us h => by cases h⟩
    | succ j =>
     cases j with
     | zero => cases h; exact ⟨_, _, rfl, rfl, by decide, by decide, Tryz.underlying3, rfl, fun us h => by cases h⟩
     | succ j =>
      cases j with
      | zero => cases h; exact ⟨_, _, rfl, rfl, by decide, by decide, Tryz.underlying176, rfl, fun us h => by cases h⟩
      | succ j =>
       cases h⟩, (fun us hus fs hfs j τ h f hf => by
    cases hus
    rw [Tryz.underlying178] at hfs
    cases hfs
    cases j with
    | zero => cases h; cases hf; exact ⟨fun k e => (by cases e), fun e => (by cases e), fun _ => Tryz.underlying9⟩
    | succ j =>
     cases j with
     | zero => cases h; cases hf; exact ⟨fun k e => by cases e; exact Tryz.underlying3, fun e => (by cases e), fun e => (by cases e)⟩
     | succ j =>
      cases j with
      | zero => cases h; cases hf; exact ⟨fun k e => (by cases e), fun e => (by cases e), fun e => (by cases e)⟩
      | succ j =>
       cases h), Tryz.t178, rfl, rfl, fun _ _ => rfl⟩
theorem tn179 : TnOk Tryz.prog 179 (.fn [.st [.sl 272 (.st [.int .i64, .int .i64]), .sl 25 (.sl 3 (.int .i64))], .int .i64] (.int .i64)) := ⟨⟨_, _, _, Tryz.underlying179⟩, fun _ h => (by cases h), Tryz.t179, rfl, rfl, fun _ h => by cases h⟩
theorem tn180 : TnOk Tryz.prog 180 (.sl 272 (.st [.int .i64, .int .i64])) := ⟨⟨Tryz.underlying180, Tryz.t272, _, rfl, rfl, rfl, rfl, by decide, by decide, fun _ _ => rfl, fun k h => by cases h⟩, fun _ h => (by cases h), Tryz.t180, rfl, rfl, fun _ _ => rfl⟩
theorem tn181 : TnOk Tryz.prog 181 (.st [.sl 272 (.st [.int .i64, .int .i64]), .sl 25 (.sl 3 (.int .i64))]) := ⟨⟨_, Tryz.underlying181, Tryz.eqGuardType181, Tryz.stoodInHeld181, rfl, fun j τ h => by
    cases j with
    | zero => cases h; exact ⟨_, _, rfl, rfl, by decide, by decide, Tryz.underlying180, rfl, fun us h => by cases h⟩
    | succ j =>
     cases j with
     | zero => cases h; exact ⟨_, _, rfl, rfl, by decide, by decide, Tryz.underlying31, rfl, fun us h => by cases h⟩
     | succ j =>
      cases h⟩, (fun us hus fs hfs j τ h f hf => by
    cases hus
    rw [Tryz.underlying181] at hfs
    cases hfs
    cases j with
    | zero => cases h; cases hf; exact ⟨fun k e => (by cases e), fun e => (by cases e), fun e => (by cases e)⟩
    | succ j =>
     cases j with
     | zero => cases h; cases hf; exact ⟨fun k e => (by cases e), fun e => (by cases e), fun e => (by cases e)⟩
     | succ j =>
      cases h), Tryz.t181, rfl, rfl, fun _ _ => rfl⟩
theorem tn182 : TnOk Tryz.prog 182 (.st [.sl 272 (.st [.int .i64, .int .i64]), .sl 25 (.sl 3 (.int .i64))]) := ⟨⟨_, Tryz.underlying182, Tryz.eqGuardType182, Tryz.stoodInHeld182, rfl, fun j τ h => by
    cases j with
    | zero => cases h; exact ⟨_, _, rfl, rfl, by decide, by decide, Tryz.underlying180, rfl, fun us h => by cases h⟩
    | succ j =>
     cases j with
     | zero => cases h; exact ⟨_, _, rfl, rfl, by decide, by decide, Tryz.underlying31, rfl, fun us h => by cases h⟩
     | succ j =>
      cases h⟩, (fun us hus fs hfs j τ h f hf => by
    cases hus
    rw [Tryz.underlying182] at hfs
    cases hfs
    cases j with
    | zero => cases h; cases hf; exact ⟨fun k e => (by cases e), fun e => (by cases e), fun e => (by cases e)⟩
    | succ j =>
     cases j with
     | zero => cases h; cases hf; exact ⟨fun k e => (by cases e), fun e => (by cases e), fun e => (by cases e)⟩
     | succ j =>
      cases h), Tryz.t182, rfl, rfl, fun _ _ => rfl⟩
theorem tn183 : TnOk Tryz.prog 183 (.fn [.st [.str, .int .i64, .sl 167 (.st [.int .i64, .sl 3 (.int .i64), .sl 3 (.int .i64)])], .int .i64, .int .i64] (.bool)) := ⟨⟨_, _, _, Tryz.underlying183⟩, fun _ h => (by cases h), Tryz.t183, rfl, rfl, fun _ h => by cases h⟩
theorem tn184 : TnOk Tryz.prog 184 (.fn [.st [.int .i64, .sl 165 (.st [.str, .int .i64, .sl 167 (.st [.int .i64, .sl 3 (.int .i64), .sl 3 (.int .i64)])]), .sl 190 (.st [.int .i64, .int .i64, .bool, .int .i64]), .sl 187 (.st [.sl 210 (.st [.int .i64, .int .i64]), .sl 25 (.sl 3 (.int .i64))]), .sl 3 (.int .i64)], .str] (.int .i64)) := ⟨⟨_, _, _, Tryz.underlying184⟩, fun _ h => (by cases h), Tryz.t184, rfl, rfl, fun _ h => by cases h⟩
theorem tn185 : TnOk Tryz.prog 185 (.sl 210 (.st [.int .i64, .int .i64])) := ⟨⟨Tryz.underlying185, Tryz.t210, _, rfl, rfl, rfl, rfl, by decide, by decide, fun _ _ => rfl, fun k h => by cases h⟩, fun _ h => (by cases h), Tryz.t185, rfl, rfl, fun _ _ => rfl⟩
theorem tn186 : TnOk Tryz.prog 186 (.st [.sl 210 (.st [.int .i64, .int .i64]), .sl 25 (.sl 3 (.int .i64))]) := ⟨⟨_, Tryz.underlying186, Tryz.eqGuardType186, Tryz.stoodInHeld186, rfl, fun j τ h => by
    cases j with
    | zero => cases h; exact ⟨_, _, rfl, rfl, by decide, by decide, Tryz.underlying185, rfl, fun us h => by cases h⟩
    | succ j =>
     cases j with
     | zero => cases h; exact ⟨_, _, rfl, rfl, by decide, by decide, Tryz.underlying31, rfl, fun us h => by cases h⟩
     | succ j =>
      cases h⟩, (fun us hus fs hfs j τ h f hf => by
    cases hus
    rw [Tryz.underlying186] at hfs
    cases hfs
    cases j with
    | zero => cases h; cases hf; exact ⟨fun k e => (by cases e), fun e => (by cases e), fun e => (by cases e)⟩
    | succ j =>
     cases j with
     | zero => cases h; cases hf; exact ⟨fun k e => (by cases e), fun e => (by cases e), fun e => (by cases e)⟩
     | succ j =>
      cases h), Tryz.t186, rfl, rfl, fun _ _ => rfl⟩
theorem tn187 : TnOk Tryz.prog 187 (.st [.sl 210 (.st [.int .i64, .int .i64]), .sl 25 (.sl 3 (.int .i64))]) := ⟨⟨_, Tryz.underlying187, Tryz.eqGuardType187, Tryz.stoodInHeld187, rfl, fun j τ h => by
    cases j with
    | zero => cases h; exact ⟨_, _, rfl, rfl, by decide, by decide, Tryz.underlying185, rfl, fun us h => by cases h⟩
    | succ j =>
     cases j with
     | zero => cases h; exact ⟨_, _, rfl, rfl, by decide, by decide, Tryz.underlying31, rfl, fun us h => by cases h⟩
     | succ j =>
      cases h⟩, (fun us hus fs hfs j τ h f hf => by
    cases hus
    rw [Tryz.underlying187] at hfs
    cases hfs
    cases j with
    | zero => cases h; cases hf; exact ⟨fun k e => (by cases e), fun e => (by cases e), fun e => (by cases e)⟩
    | succ j =>
     cases j with
     | zero => cases h; cases hf; exact ⟨fun k e => (by cases e), fun e => (by cases e), fun e => (by cases e)⟩
     | succ j =>
      cases h), Tryz.t187, rfl, rfl, fun _ _ => rfl⟩
theorem tn188 : TnOk Tryz.prog 188 (.fn [.st [.sl 210 (.st [.int .i64, .int .i64]), .sl 25 (.sl 3 (.int .i64))]] (.bool)) := ⟨⟨_, _, _, Tryz.underlying188⟩, fun _ h => (by cases h), Tryz.t188, rfl, rfl, fun _ h => by cases h⟩
theorem tn189 : TnOk Tryz.prog 189 (.st [.int .i64, .int .i64, .bool, .int .i64]) := ⟨⟨_, Tryz.underlying189, Tryz.eqGuardType189, Tryz.stoodInHeld189, rfl, fun j τ h => by
    cases j with
    | zero => cases h; exact ⟨_, _, rfl, rfl, by decide, by decide, Tryz.underlying3, rfl, fun us h => by cases h⟩
    | succ j =>
     cases j with
     | zero => cases h; exact ⟨_, _, rfl, rfl, by decide, by decide, Tryz.underlying3, rfl, fun us h => by cases h⟩
     | succ j =>
      cases j with
      | zero => cases h; exact ⟨_, _, rfl, rfl, by decide, by decide, Tryz.underlying4, rfl, fun us h => by cases h⟩
      | succ j =>
       cases j with
       | zero => cases h; exact ⟨_, _, rfl, rfl, by decide, by decide, Tryz.underlying3, rfl, fun us h => by cases h⟩
       | succ j =>
        cases h⟩, (fun us hus fs hfs j τ h f hf => by
    cases hus
    rw [Tryz.underlying189] at hfs
    cases hfs
    cases j with
    | zero => cases h; cases hf; exact ⟨fun k e => by cases e; exact Tryz.underlying3, fun e => (by cases e), fun e => (by cases e)⟩
    | succ j =>
     cases j with
     | zero => cases h; cases hf; exact ⟨fun k e => by cases e; exact Tryz.underlying3, fun e => (by cases e), fun e => (by cases e)⟩
     | succ j =>
      cases j with
      | zero => cases h; cases hf; exact ⟨fun k e => (by cases e), fun _ => Tryz.underlying4, fun e => (by cases e)⟩
      | succ j =>
       cases j with
       | zero => cases h; cases hf; exact ⟨fun k e => by cases e; exact Tryz.underlying3, fun e => (by cases e), fun e => (by cases e)⟩
       | succ j =>
        cases h), Tryz.t189, rfl, rfl, fun _ _ => rfl⟩
theorem tn190 : TnOk Tryz.prog 190 (.st [.int .i64, .int .i64, .bool, .int .i64]) := ⟨⟨_, Tryz.underlying190, Tryz.eqGuardType190, Tryz.stoodInHeld190, rfl, fun j τ h => by
    cases j with
    | zero => cases h; exact ⟨_, _, rfl, rfl, by decide, by decide, Tryz.underlying3, rfl, fun us h => by cases h⟩
    | succ j =>
     cases j with
     | zero => cases h; exact ⟨_, _, rfl, rfl, by decide, by decide, Tryz.underlying3, rfl, fun us h => by cases h⟩
     | succ j =>
      cases j with
      | zero => cases h; exact ⟨_, _, rfl, rfl, by decide, by decide, Tryz.underlying4, rfl, fun us h => by cases h⟩
      | succ j =>
       cases j with
       | zero => cases h; exact ⟨_, _, rfl, rfl, by decide, by decide, Tryz.underlying3, rfl, fun us h => by cases h⟩
       | succ j =>
        cases h⟩, (fun us hus fs hfs j τ h f hf => by
    cases hus
    rw [Tryz.underlying190] at hfs
    cases hfs
    cases j with
    | zero => cases h; cases hf; exact ⟨fun k e => by cases e; exact Tryz.underlying3, fun e => (by cases e), fun e => (by cases e)⟩
    | succ j =>
     cases j with
     | zero => cases h; cases hf; exact ⟨fun k e => by cases e; exact Tryz.underlying3, fun e => (by cases e), fun e => (by cases e)⟩
     | succ j =>
      cases j with
      | zero => cases h; cases hf; exact ⟨fun k e => (by cases e), fun _ => Tryz.underlying4, fun e => (by cases e)⟩
      | succ j =>
       cases j with
       | zero => cases h; cases hf; exact ⟨fun k e => by cases e; exact Tryz.underlying3, fun e => (by cases e), fun e => (by cases e)⟩
       | succ j =>
        cases h), Tryz.t190, rfl, rfl, fun _ _ => rfl⟩
theorem tn191 : TnOk Tryz.prog 191 (.fn [.st [.str, .int .i64, .sl 167 (.st [.int .i64, .sl 3 (.int .i64), .sl 3 (.int .i64)])]] (.sl 3 (.int .i64))) := ⟨⟨_, _, _, Tryz.underlying191⟩, fun _ h => (by cases h), Tryz.t191, rfl, rfl, fun _ h => by cases h⟩
theorem tn192 : TnOk Tryz.prog 192 (.fn [.st [.str, .int .i64, .sl 269 (.st [.int .i64, .sl 3 (.int .i64), .sl 3 (.int .i64)])]] (.st [.str, .int .i64, .sl 167 (.st [.int .i64, .sl 3 (.int .i64), .sl 3 (.int .i64)])])) := ⟨⟨_, _, _, Tryz.underlying192⟩, fun _ h => (by cases h), Tryz.t192, rfl, rfl, fun _ h => by cases h⟩
theorem tn193 : TnOk Tryz.prog 193 (.fn [.st [.int .i64, .int .i64, .bool, .int .i64]] (.st [.int .i64, .int .i64, .bool, .int .i64])) := ⟨⟨_, _, _, Tryz.underlying193⟩, fun _ h => (by cases h), Tryz.t193, rfl, rfl, fun _ h => by cases h⟩
theorem tn194 : TnOk Tryz.prog 194 (.st [.int .i64, .int .i64, .bool, .int .i64]) := ⟨⟨_, Tryz.underlying194, Tryz.eqGuardType194, Tryz.stoodInHeld194, rfl, fun j τ h => by
    cases j with
    | zero => cases h; exact ⟨_, _, rfl, rfl, by decide, by decide, Tryz.underlying3, rfl, fun us h => by cases h⟩
    | succ j =>
     cases j with
     | zero => cases h; exact ⟨_, _, rfl, rfl, by decide, by decide, Tryz.underlying3, rfl, fun us h => by cases h⟩
     | succ j =>
      cases j with
      | zero => cases h; exact ⟨_, _, rfl, rfl, by decide, by decide, Tryz.underlying4, rfl, fun us h => by cases h⟩
      | succ j =>
       cases j with
       | zero => cases h; exact ⟨_, _, rfl, rfl, by decide, by decide, Tryz.underlying3, rfl, fun us h => by cases h⟩
       | succ j =>
        cases h⟩, (fun us hus fs hfs j τ h f hf => by
    cases hus
    rw [Tryz.underlying194] at hfs
    cases hfs
    cases j with
    | zero => cases h; cases hf; exact ⟨fun k e => by cases e; exact Tryz.underlying3, fun e => (by cases e), fun e => (by cases e)⟩
    | succ j =>
     cases j with
     | zero => cases h; cases hf; exact ⟨fun k e => by cases e; exact Tryz.underlying3, fun e => (by cases e), fun e => (by cases e)⟩
     | succ j =>
      cases j with
      | zero => cases h; cases hf; exact ⟨fun k e => (by cases e), fun _ => Tryz.underlying4, fun e => (by cases e)⟩
      | succ j =>
       cases j with
       | zero => cases h; cases hf; exact ⟨fun k e => by cases e; exact Tryz.underlying3, fun e => (by cases e), fun e => (by cases e)⟩
       | succ j =>
        cases h), Tryz.t194, rfl, rfl, fun _ _ => rfl⟩
theorem tn195 : TnOk Tryz.prog 195 (.fn [.st [.sl 272 (.st [.int .i64, .int .i64]), .sl 25 (.sl 3 (.int .i64))]] (.st [.sl 210 (.st [.int .i64, .int .i64]), .sl 25 (.sl 3 (.int .i64))])) := ⟨⟨_, _, _, Tryz.underlying195⟩, fun _ h => (by cases h), Tryz.t195, rfl, rfl, fun _ h => by cases h⟩
theorem tn196 : TnOk Tryz.prog 196 (.fn [.int .i64] (.int .i64)) := ⟨⟨_, _, _, Tryz.underlying196⟩, fun _ h => (by cases h), Tryz.t196, rfl, rfl, fun _ h => by cases h⟩
theorem tn197 : TnOk Tryz.prog 197 (.fn [.sl 3 (.int .i64), .fn [.int .i64] (.bool)] (.sl 3 (.int .i64))) := ⟨⟨_, _, _, Tryz.underlying197⟩, fun _ h => (by cases h), Tryz.t197, rfl, rfl, fun _ h => by cases h⟩
theorem tn198 : TnOk Tryz.prog 198 (.fn [.st [.str, .int .i64, .sl 167 (.st [.int .i64, .sl 3 (.int .i64), .sl 3 (.int .i64)])], .st [.str, .int .i64, .sl 167 (.st [.int .i64, .sl 3 (.int .i64), .sl 3 (.int .i64)])]] (.bool)) := ⟨⟨_, _, _, Tryz.underlying198⟩, fun _ h => (by cases h), Tryz.t198, rfl, rfl, fun _ h => by cases h⟩
theorem tn199 : TnOk Tryz.prog 199 (.fn [.st [.int .i64, .int .i64, .bool, .int .i64], .st [.int .i64, .int .i64, .bool, .int .i64]] (.bool)) := ⟨⟨_, _, _, Tryz.underlying199⟩, fun _ h => (by cases h), Tryz.t199, rfl, rfl, fun _ h => by cases h⟩
theorem tn200 : TnOk Tryz.prog 200 (.fn [.st [.sl 210 (.st [.int .i64, .int .i64]), .sl 25 (.sl 3 (.int .i64))], .st [.sl 210 (.st [.int .i64, .int .i64]), .sl 25 (.sl 3 (.int .i64))]] (.bool)) := ⟨⟨_, _, _, Tryz.underlying200⟩, fun _ h => (by cases h), Tryz.t200, rfl, rfl, fun _ h => by cases h⟩
theorem tn201 : TnOk Tryz.prog 201 (.fn [.int .i64] (.str)) := ⟨⟨_, _, _, Tryz.underlying201⟩, fun _ h => (by cases h), Tryz.t201, rfl, rfl, fun _ h => by cases h⟩
theorem tn202 : TnOk Tryz.prog 202 (.fn [.sl 167 (.st [.int .i64, .sl 3 (.int .i64), .sl 3 (.int .i64)]), .int .i64] (.int .i64)) := ⟨⟨_, _, _, Tryz.underlying202⟩, fun _ h => (by cases h), Tryz.t202, rfl, rfl, fun _ h => by cases h⟩
theorem tn203 : TnOk Tryz.prog 203 (.fn [.sl 210 (.st [.int .i64, .int .i64]), .int .i64] (.int .i64)) := ⟨⟨_, _, _, Tryz.underlying203⟩, fun _ h => (by cases h), Tryz.t203, rfl, rfl, fun _ h => by cases h⟩
theorem tn205 : TnOk Tryz.prog 205 (.fn [.sl 190 (.st [.int .i64, .int .i64, .bool, .int .i64]), .fn [.st [.int .i64, .int .i64, .bool, .int .i64]] (.bool)] (.bool)) := ⟨⟨_, _, _, Tryz.underlying205⟩, fun _ h => (by cases h), Tryz.t205, rfl, rfl, fun _ h => by cases h⟩
theorem tn206 : TnOk Tryz.prog 206 (.fn [.st [.int .i64, .int .i64, .bool, .int .i64]] (.bool)) := ⟨⟨_, _, _, Tryz.underlying206⟩, fun _ h => (by cases h), Tryz.t206, rfl, rfl, fun _ h => by cases h⟩
theorem tn209 : TnOk Tryz.prog 209 (.st [.int .i64, .int .i64]) := ⟨⟨_, Tryz.underlying209, Tryz.eqGuardType209, Tryz.stoodInHeld209, rfl, fun j τ h => by
    cases j with
    | zero => cases h; exact ⟨_, _, rfl, rfl, by decide, by decide, Tryz.underlying3, rfl, fun us h => by cases h⟩
    | succ j =>
     cases j with
     | zero => cases h; exact ⟨_, _, rfl, rfl, by decide, by decide, Tryz.underlying3, rfl, fun us h => by cases h⟩
     | succ j =>
      cases h⟩, (fun us hus fs hfs j τ h f hf => by
    cases hus
    rw [Tryz.underlying209] at hfs
    cases hfs
    cases j with
    | zero => cases h; cases hf; exact ⟨fun k e => by cases e; exact Tryz.underlying3, fun e => (by cases e), fun e => (by cases e)⟩
    | succ j =>
     cases j with
     | zero => cases h; cases hf; exact ⟨fun k e => by cases e; exact Tryz.underlying3, fun e => (by cases e), fun e => (by cases e)⟩
     | succ j =>
      cases h), Tryz.t209, rfl, rfl, fun _ _ => rfl⟩
theorem tn210 : TnOk Tryz.prog 210 (.st [.int .i64, .int .i64]) := ⟨⟨_, Tryz.underlying210, Tryz.eqGuardType210, Tryz.stoodInHeld210, rfl, fun j τ h => by
    cases j with
    | zero => cases h; exact ⟨_, _, rfl, rfl, by decide, by decide, Tryz.underlying3, rfl, fun us h => by cases h⟩
    | succ j =>
     cases j with
     | zero => cases h; exact ⟨_, _, rfl, rfl, by decide, by decide, Tryz.underlying3, rfl, fun us h => by cases h⟩
     | succ j =>
      cases h⟩, (fun us hus fs hfs j τ h f hf => by
    cases hus
    rw [Tryz.underlying210] at hfs
    cases hfs
    cases j with
    | zero => cases h; cases hf; exact ⟨fun k e => by cases e; exact Tryz.underlying3, fun e => (by cases e), fun e => (by cases e)⟩
    | succ j =>
     cases j with
     | zero => cases h; cases hf; exact ⟨fun k e => by cases e; exact Tryz.underlying3, fun e => (by cases e), fun e => (by cases e)⟩
     | succ j =>
      cases h), Tryz.t210, rfl, rfl, fun _ _ => rfl⟩
theorem tn219 : TnOk Tryz.prog 219 (.fn [.st [.sl 3 (.int .i64), .sl 3 (.int .i64), .sl 25 (.sl 3 (.int .i64))], .int .i64] (.bool)) := ⟨⟨_, _, _, Tryz.underlying219⟩, fun _ h => (by cases h), Tryz.t219, rfl, rfl, fun _ h => by cases h⟩
theorem tn220 : TnOk Tryz.prog 220 (.fn [.sl 3 (.int .i64), .sl 3 (.int .i64)] (.sl 3 (.int .i64))) := ⟨⟨_, _, _, Tryz.underlying220⟩, fun _ h => (by cases h), Tryz.t220, rfl, rfl, fun _ h => by cases h⟩
theorem tn225 : TnOk Tryz.prog 225 (.fn [.int .i64] (.sl 3 (.int .i64))) := ⟨⟨_, _, _, Tryz.underlying225⟩, fun _ h => (by cases h), Tryz.t225, rfl, rfl, fun _ h => by cases h⟩
theorem tn236 : TnOk Tryz.prog 236 (.fn [.sl 269 (.st [.int .i64, .sl 3 (.int .i64), .sl 3 (.int .i64)]), .int .i64] (.int .i64)) := ⟨⟨_, _, _, Tryz.underlying236⟩, fun _ h => (by cases h), Tryz.t236, rfl, rfl, fun _ h => by cases h⟩
theorem tn237 : TnOk Tryz.prog 237 (.fn [.sl 272 (.st [.int .i64, .int .i64]), .int .i64] (.int .i64)) := ⟨⟨_, _, _, Tryz.underlying237⟩, fun _ h => (by cases h), Tryz.t237, rfl, rfl, fun _ h => by cases h⟩
theorem tn238 : TnOk Tryz.prog 238 (.fn [.st [.int .i64, .sl 3 (.int .i64), .sl 3 (.int .i64)], .int .i64, .int .i64] (.bool)) := ⟨⟨_, _, _, Tryz.underlying238⟩, fun _ h => (by cases h), Tryz.t238, rfl, rfl, fun _ h => by cases h⟩
theorem tn239 : TnOk Tryz.prog 239 (.fn [.str] (.bool)) := ⟨⟨_, _, _, Tryz.underlying239⟩, fun _ h => (by cases h), Tryz.t239, rfl, rfl, fun _ h => by cases h⟩
theorem tn240 : TnOk Tryz.prog 240 (.fn [.sl 210 (.st [.int .i64, .int .i64])] (.bool)) := ⟨⟨_, _, _, Tryz.underlying240⟩, fun _ h => (by cases h), Tryz.t240, rfl, rfl, fun _ h => by cases h⟩
theorem tn241 : TnOk Tryz.prog 241 (.fn [.sl 269 (.st [.int .i64, .sl 3 (.int .i64), .sl 3 (.int .i64)])] (.sl 167 (.st [.int .i64, .sl 3 (.int .i64), .sl 3 (.int .i64)]))) := ⟨⟨_, _, _, Tryz.underlying241⟩, fun _ h => (by cases h), Tryz.t241, rfl, rfl, fun _ h => by cases h⟩
theorem tn242 : TnOk Tryz.prog 242 (.fn [.sl 272 (.st [.int .i64, .int .i64])] (.sl 210 (.st [.int .i64, .int .i64]))) := ⟨⟨_, _, _, Tryz.underlying242⟩, fun _ h => (by cases h), Tryz.t242, rfl, rfl, fun _ h => by cases h⟩
theorem tn243 : TnOk Tryz.prog 243 (.fn [.sl 167 (.st [.int .i64, .sl 3 (.int .i64), .sl 3 (.int .i64)]), .sl 167 (.st [.int .i64, .sl 3 (.int .i64), .sl 3 (.int .i64)])] (.bool)) := ⟨⟨_, _, _, Tryz.underlying243⟩, fun _ h => (by cases h), Tryz.t243, rfl, rfl, fun _ h => by cases h⟩
theorem tn244 : TnOk Tryz.prog 244 (.fn [.sl 210 (.st [.int .i64, .int .i64]), .sl 210 (.st [.int .i64, .int .i64])] (.bool)) := ⟨⟨_, _, _, Tryz.underlying244⟩, fun _ h => (by cases h), Tryz.t244, rfl, rfl, fun _ h => by cases h⟩
theorem tn245 : TnOk Tryz.prog 245 (.sl 5 (.int .u8)) := ⟨⟨Tryz.underlying245, Tryz.t5, _, rfl, rfl, rfl, rfl, by decide, by decide, fun _ _ => rfl, fun k h => by cases h; exact Tryz.underlying5⟩, fun _ h => (by cases h), Tryz.t245, rfl, rfl, fun _ _ => rfl⟩
theorem tn246 : TnOk Tryz.prog 246 (.fn [.sl 165 (.st [.str, .int .i64, .sl 167 (.st [.int .i64, .sl 3 (.int .i64), .sl 3 (.int .i64)])]), .fn [.st [.str, .int .i64, .sl 167 (.st [.int .i64, .sl 3 (.int .i64), .sl 3 (.int .i64)])]] (.bool)] (.int .i64)) := ⟨⟨_, _, _, Tryz.underlying246⟩, fun _ h => (by cases h), Tryz.t246, rfl, rfl, fun _ h => by cases h⟩
theorem tn247 : TnOk Tryz.prog 247 (.fn [.st [.str, .int .i64, .sl 167 (.st [.int .i64, .sl 3 (.int .i64), .sl 3 (.int .i64)])]] (.bool)) := ⟨⟨_, _, _, Tryz.underlying247⟩, fun _ h => (by cases h), Tryz.t247, rfl, rfl, fun _ h => by cases h⟩
theorem tn248 : TnOk Tryz.prog 248 (.fn [.sl 190 (.st [.int .i64, .int .i64, .bool, .int .i64]), .fn [.st [.int .i64, .int .i64, .bool, .int .i64]] (.bool)] (.int .i64)) := ⟨⟨_, _, _, Tryz.underlying248⟩, fun _ h => (by cases h), Tryz.t248, rfl, rfl, fun _ h => by cases h⟩
theorem tn268 : TnOk Tryz.prog 268 (.fn [.st [.int .i64, .sl 3 (.int .i64), .sl 3 (.int .i64)], .int .i64] (.int .i64)) := ⟨⟨_, _, _, Tryz.underlying268⟩, fun _ h => (by cases h), Tryz.t268, rfl, rfl, fun _ h => by cases h⟩
theorem tn269 : TnOk Tryz.prog 269 (.st [.int .i64, .sl 3 (.int .i64), .sl 3 (.int .i64)]) := ⟨⟨_, Tryz.underlying269, Tryz.eqGuardType269, Tryz.stoodInHeld269, rfl, fun j τ h => by
    cases j with
    | zero => cases h; exact ⟨_, _, rfl, rfl, by decide, by decide, Tryz.underlying3, rfl, fun us h => by cases h⟩
    | succ j =>
     cases j with
     | zero => cases h; exact ⟨_, _, rfl, rfl, by decide, by decide, Tryz.underlying25, rfl, fun us h => by cases h⟩
     | succ j =>
      cases j with
      | zero => cases h; exact ⟨_, _, rfl, rfl, by decide, by decide, Tryz.underlying25, rfl, fun us h => by cases h⟩
      | succ j =>
       cases h⟩, (fun us hus fs hfs j τ h f hf => by
    cases hus
    rw [Tryz.underlying269] at hfs
    cases hfs
    cases j with
    | zero => cases h; cases hf; exact ⟨fun k e => by cases e; exact Tryz.underlying3, fun e => (by cases e), fun e => (by cases e)⟩
    | succ j =>
     cases j with
     | zero => cases h; cases hf; exact ⟨fun k e => (by cases e), fun e => (by cases e), fun e => (by cases e)⟩
     | succ j =>
      cases j with
      | zero => cases h; cases hf; exact ⟨fun k e => (by cases e), fun e => (by cases e), fun e => (by cases e)⟩
      | succ j =>
       cases h), Tryz.t269, rfl, rfl, fun _ _ => rfl⟩
theorem tn270 : TnOk Tryz.prog 270 (.fn [.st [.int .i64, .sl 3 (.int .i64), .sl 3 (.int .i64)]] (.st [.int .i64, .sl 3 (.int .i64), .sl 3 (.int .i64)])) := ⟨⟨_, _, _, Tryz.underlying270⟩, fun _ h => (by cases h), Tryz.t270, rfl, rfl, fun _ h => by cases h⟩
theorem tn271 : TnOk Tryz.prog 271 (.fn [.st [.int .i64, .int .i64]] (.st [.int .i64, .int .i64])) := ⟨⟨_, _, _, Tryz.underlying271⟩, fun _ h => (by cases h), Tryz.t271, rfl, rfl, fun _ h => by cases h⟩
theorem tn272 : TnOk Tryz.prog 272 (.st [.int .i64, .int .i64]) := ⟨⟨_, Tryz.underlying272, Tryz.eqGuardType272, Tryz.stoodInHeld272, rfl, fun j τ h => by
    cases j with
    | zero => cases h; exact ⟨_, _, rfl, rfl, by decide, by decide, Tryz.underlying3, rfl, fun us h => by cases h⟩
    | succ j =>
     cases j with
     | zero => cases h; exact ⟨_, _, rfl, rfl, by decide, by decide, Tryz.underlying3, rfl, fun us h => by cases h⟩
     | succ j =>
      cases h⟩, (fun us hus fs hfs j τ h f hf => by
    cases hus
    rw [Tryz.underlying272] at hfs
    cases hfs
    cases j with
    | zero => cases h; cases hf; exact ⟨fun k e => by cases e; exact Tryz.underlying3, fun e => (by cases e), fun e => (by cases e)⟩
    | succ j =>
     cases j with
     | zero => cases h; cases hf; exact ⟨fun k e => by cases e; exact Tryz.underlying3, fun e => (by cases e), fun e => (by cases e)⟩
     | succ j =>
      cases h), Tryz.t272, rfl, rfl, fun _ _ => rfl⟩
theorem tn273 : TnOk Tryz.prog 273 (.fn [.st [.int .i64, .sl 3 (.int .i64), .sl 3 (.int .i64)], .st [.int .i64, .sl 3 (.int .i64), .sl 3 (.int .i64)]] (.bool)) := ⟨⟨_, _, _, Tryz.underlying273⟩, fun _ h => (by cases h), Tryz.t273, rfl, rfl, fun _ h => by cases h⟩
theorem tn274 : TnOk Tryz.prog 274 (.fn [.st [.int .i64, .int .i64], .st [.int .i64, .int .i64]] (.bool)) := ⟨⟨_, _, _, Tryz.underlying274⟩, fun _ h => (by cases h), Tryz.t274, rfl, rfl, fun _ h => by cases h⟩
def tys : List (Nat × Ty) := [(3, .int .i64), (4, .bool), (5, .int .u8), (9, .str), (22, .sl 178 (.st [.str, .int .i64, .sl 269 (.st [.int .i64, .sl 3 (.int .i64), .sl 3 (.int .i64)])])), (23, .sl 194 (.st [.int .i64, .int .i64, .bool, .int .i64])), (24, .sl 182 (.st [.sl 272 (.st [.int .i64, .int .i64]), .sl 25 (.sl 3 (.int .i64))])), (25, .sl 3 (.int .i64)), (26, .st [.int .i64, .sl 178 (.st [.str, .int .i64, .sl 269 (.st [.int .i64, .sl 3 (.int .i64), .sl 3 (.int .i64)])]), .sl 194 (.st [.int .i64, .int .i64, .bool, .int .i64]), .sl 182 (.st [.sl 272 (.st [.int .i64, .int .i64]), .sl 25 (.sl 3 (.int .i64))]), .sl 3 (.int .i64)]), (27, .st [.int .i64, .sl 178 (.st [.str, .int .i64, .sl 269 (.st [.int .i64, .sl 3 (.int .i64), .sl 3 (.int .i64)])]), .sl 194 (.st [.int .i64, .int .i64, .bool, .int .i64]), .sl 182 (.st [.sl 272 (.st [.int .i64, .int .i64]), .sl 25 (.sl 3 (.int .i64))]), .sl 3 (.int .i64)]), (28, .sl 122 (.st [.int .i64, .int .i64, .int .i64])), (29, .fn [.st [.int .i64, .sl 178 (.st [.str, .int .i64, .sl 269 (.st [.int .i64, .sl 3 (.int .i64), .sl 3 (.int .i64)])]), .sl 194 (.st [.int .i64, .int .i64, .bool, .int .i64]), .sl 182 (.st [.sl 272 (.st [.int .i64, .int .i64]), .sl 25 (.sl 3 (.int .i64))]), .sl 3 (.int .i64)], .int .i64] (.int .i64)), (30, .fn [.sl 122 (.st [.int .i64, .int .i64, .int .i64]), .int .i64] (.int .i64)), (31, .sl 25 (.sl 3 (.int .i64))), (32, .st [.sl 3 (.int .i64), .sl 3 (.int .i64), .sl 25 (.sl 3 (.int .i64))]), (33, .st [.sl 3 (.int .i64), .sl 3 (.int .i64), .sl 25 (.sl 3 (.int .i64))]), (34, .fn [.st [.int .i64, .sl 165 (.st [.str, .int .i64, .sl 167 (.st [.int .i64, .sl 3 (.int .i64), .sl 3 (.int .i64)])]), .sl 190 (.st [.int .i64, .int .i64, .bool, .int .i64]), .sl 187 (.st [.sl 210 (.st [.int .i64, .int .i64]), .sl 25 (.sl 3 (.int .i64))]), .sl 3 (.int .i64)], .sl 120 (.st [.int .i64, .int .i64, .int .i64])] (.st [.sl 3 (.int .i64), .sl 3 (.int .i64), .sl 25 (.sl 3 (.int .i64))])), (35, .sl 165 (.st [.str, .int .i64, .sl 167 (.st [.int .i64, .sl 3 (.int .i64), .sl 3 (.int .i64)])])), (36, .sl 190 (.st [.int .i64, .int .i64, .bool, .int .i64])), (37, .sl 187 (.st [.sl 210 (.st [.int .i64, .int .i64]), .sl 25 (.sl 3 (.int .i64))])), (38, .st [.int .i64, .sl 165 (.st [.str, .int .i64, .sl 167 (.st [.int .i64, .sl 3 (.int .i64), .sl 3 (.int .i64)])]), .sl 190 (.st [.int .i64, .int .i64, .bool, .int .i64]), .sl 187 (.st [.sl 210 (.st [.int .i64, .int .i64]), .sl 25 (.sl 3 (.int .i64))]), .sl 3 (.int .i64)]), (39, .st [.int .i64, .sl 165 (.st [.str, .int .i64, .sl 167 (.st [.int .i64, .sl 3 (.int .i64), .sl 3 (.int .i64)])]), .sl 190 (.st [.int .i64, .int .i64, .bool, .int .i64]), .sl 187 (.st [.sl 210 (.st [.int .i64, .int .i64]), .sl 25 (.sl 3 (.int .i64))]), .sl 3 (.int .i64)]), (40, .fn [.st [.int .i64, .sl 178 (.st [.str, .int .i64, .sl 269 (.st [.int .i64, .sl 3 (.int .i64), .sl 3 (.int .i64)])]), .sl 194 (.st [.int .i64, .int .i64, .bool, .int .i64]), .sl 182 (.st [.sl 272 (.st [.int .i64, .int .i64]), .sl 25 (.sl 3 (.int .i64))]), .sl 3 (.int .i64)]] (.st [.int .i64, .sl 165 (.st [.str, .int .i64, .sl 167 (.st [.int .i64, .sl 3 (.int .i64), .sl 3 (.int .i64)])]), .sl 190 (.st [.int .i64, .int .i64, .bool, .int .i64]), .sl 187 (.st [.sl 210 (.st [.int .i64, .int .i64]), .sl 25 (.sl 3 (.int .i64))]), .sl 3 (.int .i64)])), (41, .sl 120 (.st [.int .i64, .int .i64, .int .i64])), (42, .fn [.sl 122 (.st [.int .i64, .int .i64, .int .i64])] (.sl 120 (.st [.int .i64, .int .i64, .int .i64]))), (43, .fn [.st [.sl 3 (.int .i64), .sl 3 (.int .i64), .sl 25 (.sl 3 (.int .i64))], .st [.sl 3 (.int .i64), .sl 3 (.int .i64), .sl 25 (.sl 3 (.int .i64))]] (.bool)), (44, .fn [.st [.int .i64, .sl 165 (.st [.str, .int .i64, .sl 167 (.st [.int .i64, .sl 3 (.int .i64), .sl 3 (.int .i64)])]), .sl 190 (.st [.int .i64, .int .i64, .bool, .int .i64]), .sl 187 (.st [.sl 210 (.st [.int .i64, .int .i64]), .sl 25 (.sl 3 (.int .i64))]), .sl 3 (.int .i64)], .st [.int .i64, .sl 165 (.st [.str, .int .i64, .sl 167 (.st [.int .i64, .sl 3 (.int .i64), .sl 3 (.int .i64)])]), .sl 190 (.st [.int .i64, .int .i64, .bool, .int .i64]), .sl 187 (.st [.sl 210 (.st [.int .i64, .int .i64]), .sl 25 (.sl 3 (.int .i64))]), .sl 3 (.int .i64)]] (.bool)), (45, .fn [.sl 120 (.st [.int .i64, .int .i64, .int .i64]), .sl 120 (.st [.int .i64, .int .i64, .int .i64])] (.bool)), (46, .fn [.st [.int .i64, .sl 165 (.st [.str, .int .i64, .sl 167 (.st [.int .i64, .sl 3 (.int .i64), .sl 3 (.int .i64)])]), .sl 190 (.st [.int .i64, .int .i64, .bool, .int .i64]), .sl 187 (.st [.sl 210 (.st [.int .i64, .int .i64]), .sl 25 (.sl 3 (.int .i64))]), .sl 3 (.int .i64)], .int .i64] (.int .i64)), (47, .fn [.sl 120 (.st [.int .i64, .int .i64, .int .i64]), .int .i64] (.int .i64)), (48, .fn [.st [.sl 3 (.int .i64), .sl 3 (.int .i64), .sl 25 (.sl 3 (.int .i64))], .int .i64] (.int .i64)), (49, .fn [.st [.int .i64, .sl 178 (.st [.str, .int .i64, .sl 269 (.st [.int .i64, .sl 3 (.int .i64), .sl 3 (.int .i64)])]), .sl 194 (.st [.int .i64, .int .i64, .bool, .int .i64]), .sl 182 (.st [.sl 272 (.st [.int .i64, .int .i64]), .sl 25 (.sl 3 (.int .i64))]), .sl 3 (.int .i64)], .sl 122 (.st [.int .i64, .int .i64, .int .i64])] (.bool)), (108, .fn [.sl 178 (.st [.str, .int .i64, .sl 269 (.st [.int .i64, .sl 3 (.int .i64), .sl 3 (.int .i64)])]), .int .i64] (.int .i64)), (109, .fn [.sl 194 (.st [.int .i64, .int .i64, .bool, .int .i64]), .int .i64] (.int .i64)), (110, .fn [.sl 182 (.st [.sl 272 (.st [.int .i64, .int .i64]), .sl 25 (.sl 3 (.int .i64))]), .int .i64] (.int .i64)), (111, .fn [.sl 3 (.int .i64), .int .i64] (.int .i64)), (112, .fn [.st [.int .i64, .sl 165 (.st [.str, .int .i64, .sl 167 (.st [.int .i64, .sl 3 (.int .i64), .sl 3 (.int .i64)])]), .sl 190 (.st [.int .i64, .int .i64, .bool, .int .i64]), .sl 187 (.st [.sl 210 (.st [.int .i64, .int .i64]), .sl 25 (.sl 3 (.int .i64))]), .sl 3 (.int .i64)]] (.bool)), (113, .fn [.st [.sl 3 (.int .i64), .sl 3 (.int .i64), .sl 25 (.sl 3 (.int .i64))], .sl 120 (.st [.int .i64, .int .i64, .int .i64])] (.st [.sl 3 (.int .i64), .sl 3 (.int .i64), .sl 25 (.sl 3 (.int .i64))])), (114, .fn [.st [.int .i64, .sl 165 (.st [.str, .int .i64, .sl 167 (.st [.int .i64, .sl 3 (.int .i64), .sl 3 (.int .i64)])]), .sl 190 (.st [.int .i64, .int .i64, .bool, .int .i64]), .sl 187 (.st [.sl 210 (.st [.int .i64, .int .i64]), .sl 25 (.sl 3 (.int .i64))]), .sl 3 (.int .i64)]] (.st [.sl 3 (.int .i64), .sl 3 (.int .i64), .sl 25 (.sl 3 (.int .i64))])), (115, .fn [.sl 178 (.st [.str, .int .i64, .sl 269 (.st [.int .i64, .sl 3 (.int .i64), .sl 3 (.int .i64)])])] (.sl 165 (.st [.str, .int .i64, .sl 167 (.st [.int .i64, .sl 3 (.int .i64), .sl 3 (.int .i64)])]))), (116, .fn [.sl 194 (.st [.int .i64, .int .i64, .bool, .int .i64])] (.sl 190 (.st [.int .i64, .int .i64, .bool, .int .i64]))), (117, .fn [.sl 182 (.st [.sl 272 (.st [.int .i64, .int .i64]), .sl 25 (.sl 3 (.int .i64))])] (.sl 187 (.st [.sl 210 (.st [.int .i64, .int .i64]), .sl 25 (.sl 3 (.int .i64))]))), (118, .fn [.sl 3 (.int .i64)] (.sl 3 (.int .i64))), (119, .st [.int .i64, .int .i64, .int .i64]), (120, .st [.int .i64, .int .i64, .int .i64]), (121, .fn [.st [.int .i64, .int .i64, .int .i64]] (.st [.int .i64, .int .i64, .int .i64])), (122, .st [.int .i64, .int .i64, .int .i64]), (123, .fn [.st [.sl 3 (.int .i64), .sl 3 (.int .i64), .sl 25 (.sl 3 (.int .i64))], .st [.int .i64, .int .i64, .int .i64]] (.st [.sl 3 (.int .i64), .sl 3 (.int .i64), .sl 25 (.sl 3 (.int .i64))])), (124, .fn [.st [.int .i64, .int .i64, .int .i64]] (.st [.int .i64, .int .i64, .int .i64])), (125, .fn [.sl 3 (.int .i64), .sl 3 (.int .i64)] (.bool)), (126, .fn [.sl 25 (.sl 3 (.int .i64)), .sl 25 (.sl 3 (.int .i64))] (.bool)), (127, .fn [.sl 165 (.st [.str, .int .i64, .sl 167 (.st [.int .i64, .sl 3 (.int .i64), .sl 3 (.int .i64)])]), .sl 165 (.st [.str, .int .i64, .sl 167 (.st [.int .i64, .sl 3 (.int .i64), .sl 3 (.int .i64)])])] (.bool)), (128, .fn [.sl 190 (.st [.int .i64, .int .i64, .bool, .int .i64]), .sl 190 (.st [.int .i64, .int .i64, .bool, .int .i64])] (.bool)), (129, .fn [.sl 187 (.st [.sl 210 (.st [.int .i64, .int .i64]), .sl 25 (.sl 3 (.int .i64))]), .sl 187 (.st [.sl 210 (.st [.int .i64, .int .i64]), .sl 25 (.sl 3 (.int .i64))])] (.bool)), (130, .fn [.st [.int .i64, .int .i64, .int .i64], .st [.int .i64, .int .i64, .int .i64]] (.bool)), (131, .fn [.sl 165 (.st [.str, .int .i64, .sl 167 (.st [.int .i64, .sl 3 (.int .i64), .sl 3 (.int .i64)])]), .int .i64] (.int .i64)), (132, .fn [.sl 190 (.st [.int .i64, .int .i64, .bool, .int .i64]), .int .i64] (.int .i64)), (133, .fn [.sl 187 (.st [.sl 210 (.st [.int .i64, .int .i64]), .sl 25 (.sl 3 (.int .i64))]), .int .i64] (.int .i64)), (134, .fn [.sl 25 (.sl 3 (.int .i64)), .int .i64] (.int .i64)), (136, .fn [.sl 25 (.sl 3 (.int .i64))] (.sl 25 (.sl 3 (.int .i64)))), (141, .fn [.int .i64, .int .i64, .int .i64] (.bool)), (148, .fn [.st [.sl 3 (.int .i64), .sl 3 (.int .i64), .sl 25 (.sl 3 (.int .i64))]] (.st [.sl 3 (.int .i64), .sl 3 (.int .i64), .sl 25 (.sl 3 (.int .i64))])), (153, .fn [] (.st [.sl 3 (.int .i64), .sl 3 (.int .i64), .sl 25 (.sl 3 (.int .i64))])), (161, .fn [.int .i64] (.bool)), (162, .fn [.sl 3 (.int .i64), .int .i64] (.bool)), (163, .sl 167 (.st [.int .i64, .sl 3 (.int .i64), .sl 3 (.int .i64)])), (164, .st [.str, .int .i64, .sl 167 (.st [.int .i64, .sl 3 (.int .i64), .sl 3 (.int .i64)])]), (165, .st [.str, .int .i64, .sl 167 (.st [.int .i64, .sl 3 (.int .i64), .sl 3 (.int .i64)])]), (166, .st [.int .i64, .sl 3 (.int .i64), .sl 3 (.int .i64)]), (167, .st [.int .i64, .sl 3 (.int .i64), .sl 3 (.int .i64)]), (170, .fn [.int .i64, .int .i64] (.int .i64)), (174, .fn [.sl 3 (.int .i64), .int .i64] (.sl 3 (.int .i64))), (175, .fn [.st [.str, .int .i64, .sl 269 (.st [.int .i64, .sl 3 (.int .i64), .sl 3 (.int .i64)])], .int .i64] (.int .i64)), (176, .sl 269 (.st [.int .i64, .sl 3 (.int .i64), .sl 3 (.int .i64)])), (177, .st [.str, .int .i64, .sl 269 (.st [.int .i64, .sl 3 (.int .i64), .sl 3 (.int .i64)])]), (178, .st [.str, .int .i64, .sl 269 (.st [.int .i64, .sl 3 (.int .i64), .sl 3 (.int .i64)])]), (179, .fn [.st [.sl 272 (.st [.int .i64, .int .i64]), .sl 25 (.sl 3 (.int .i64))], .int .i64] (.int .i64)), (180, .sl 272 (.st [.int .i64, .int .i64])), (181, .st [.sl 272 (.st [.int .i64, .int .i64]), .sl 25 (.sl 3 (.int .i64))]), (182, .st [.sl 272 (.st [.int .i64, .int .i64]), .sl 25 (.sl 3 (.int .i64))]), (183, .fn [.st [.str, .int .i64, .sl 167 (.st [.int .i64, .sl 3 (.int .i64), .sl 3 (.int .i64)])], .int .i64, .int .i64] (.bool)), (184, .fn [.st [.int .i64, .sl 165 (.st [.str, .int .i64, .sl 167 (.st [.int .i64, .sl 3 (.int .i64), .sl 3 (.int .i64)])]), .sl 190 (.st [.int .i64, .int .i64, .bool, .int .i64]), .sl 187 (.st [.sl 210 (.st [.int .i64, .int .i64]), .sl 25 (.sl 3 (.int .i64))]), .sl 3 (.int .i64)], .str] (.int .i64)), (185, .sl 210 (.st [.int .i64, .int .i64])), (186, .st [.sl 210 (.st [.int .i64, .int .i64]), .sl 25 (.sl 3 (.int .i64))]), (187, .st [.sl 210 (.st [.int .i64, .int .i64]), .sl 25 (.sl 3 (.int .i64))]), (188, .fn [.st [.sl 210 (.st [.int .i64, .int .i64]), .sl 25 (.sl 3 (.int .i64))]] (.bool)), (189, .st [.int .i64, .int .i64, .bool, .int .i64]), (190, .st [.int .i64, .int .i64, .bool, .int .i64]), (191, .fn [.st [.str, .int .i64, .sl 167 (.st [.int .i64, .sl 3 (.int .i64), .sl 3 (.int .i64)])]] (.sl 3 (.int .i64))), (192, .fn [.st [.str, .int .i64, .sl 269 (.st [.int .i64, .sl 3 (.int .i64), .sl 3 (.int .i64)])]] (.st [.str, .int .i64, .sl 167 (.st [.int .i64, .sl 3 (.int .i64), .sl 3 (.int .i64)])])), (193, .fn [.st [.int .i64, .int .i64, .bool, .int .i64]] (.st [.int .i64, .int .i64, .bool, .int .i64])), (194, .st [.int .i64, .int .i64, .bool, .int .i64]), (195, .fn [.st [.sl 272 (.st [.int .i64, .int .i64]), .sl 25 (.sl 3 (.int .i64))]] (.st [.sl 210 (.st [.int .i64, .int .i64]), .sl 25 (.sl 3 (.int .i64))])), (196, .fn [.int .i64] (.int .i64)), (197, .fn [.sl 3 (.int .i64), .fn [.int .i64] (.bool)] (.sl 3 (.int .i64))), (198, .fn [.st [.str, .int .i64, .sl 167 (.st [.int .i64, .sl 3 (.int .i64), .sl 3 (.int .i64)])], .st [.str, .int .i64, .sl 167 (.st [.int .i64, .sl 3 (.int .i64), .sl 3 (.int .i64)])]] (.bool)), (199, .fn [.st [.int .i64, .int .i64, .bool, .int .i64], .st [.int .i64, .int .i64, .bool, .int .i64]] (.bool)), (200, .fn [.st [.sl 210 (.st [.int .i64, .int .i64]), .sl 25 (.sl 3 (.int .i64))], .st [.sl 210 (.st [.int .i64, .int .i64]), .sl 25 (.sl 3 (.int .i64))]] (.bool)), (201, .fn [.int .i64] (.str)), (202, .fn [.sl 167 (.st [.int .i64, .sl 3 (.int .i64), .sl 3 (.int .i64)]), .int .i64] (.int .i64)), (203, .fn [.sl 210 (.st [.int .i64, .int .i64]), .int .i64] (.int .i64)), (205, .fn [.sl 190 (.st [.int .i64, .int .i64, .bool, .int .i64]), .fn [.st [.int .i64, .int .i64, .bool, .int .i64]] (.bool)] (.bool)), (206, .fn [.st [.int .i64, .int .i64, .bool, .int .i64]] (.bool)), (209, .st [.int .i64, .int .i64]), (210, .st [.int .i64, .int .i64]), (219, .fn [.st [.sl 3 (.int .i64), .sl 3 (.int .i64), .sl 25 (.sl 3 (.int .i64))], .int .i64] (.bool)), (220, .fn [.sl 3 (.int .i64), .sl 3 (.int .i64)] (.sl 3 (.int .i64))), (225, .fn [.int .i64] (.sl 3 (.int .i64))), (236, .fn [.sl 269 (.st [.int .i64, .sl 3 (.int .i64), .sl 3 (.int .i64)]), .int .i64] (.int .i64)), (237, .fn [.sl 272 (.st [.int .i64, .int .i64]), .int .i64] (.int .i64)), (238, .fn [.st [.int .i64, .sl 3 (.int .i64), .sl 3 (.int .i64)], .int .i64, .int .i64] (.bool)), (239, .fn [.str] (.bool)), (240, .fn [.sl 210 (.st [.int .i64, .int .i64])] (.bool)), (241, .fn [.sl 269 (.st [.int .i64, .sl 3 (.int .i64), .sl 3 (.int .i64)])] (.sl 167 (.st [.int .i64, .sl 3 (.int .i64), .sl 3 (.int .i64)]))), (242, .fn [.sl 272 (.st [.int .i64, .int .i64])] (.sl 210 (.st [.int .i64, .int .i64]))), (243, .fn [.sl 167 (.st [.int .i64, .sl 3 (.int .i64), .sl 3 (.int .i64)]), .sl 167 (.st [.int .i64, .sl 3 (.int .i64), .sl 3 (.int .i64)])] (.bool)), (244, .fn [.sl 210 (.st [.int .i64, .int .i64]), .sl 210 (.st [.int .i64, .int .i64])] (.bool)), (245, .sl 5 (.int .u8)), (246, .fn [.sl 165 (.st [.str, .int .i64, .sl 167 (.st [.int .i64, .sl 3 (.int .i64), .sl 3 (.int .i64)])]), .fn [.st [.str, .int .i64, .sl 167 (.st [.int .i64, .sl 3 (.int .i64), .sl 3 (.int .i64)])]] (.bool)] (.int .i64)), (247, .fn [.st [.str, .int .i64, .sl 167 (.st [.int .i64, .sl 3 (.int .i64), .sl 3 (.int .i64)])]] (.bool)), (248, .fn [.sl 190 (.st [.int .i64, .int .i64, .bool, .int .i64]), .fn [.st [.int .i64, .int .i64, .bool, .int .i64]] (.bool)] (.int .i64)), (268, .fn [.st [.int .i64, .sl 3 (.int .i64), .sl 3 (.int .i64)], .int .i64] (.int .i64)), (269, .st [.int .i64, .sl 3 (.int .i64), .sl 3 (.int .i64)]), (270, .fn [.st [.int .i64, .sl 3 (.int .i64), .sl 3 (.int .i64)]] (.st [.int .i64, .sl 3 (.int .i64), .sl 3 (.int .i64)])), (271, .fn [.st [.int .i64, .int .i64]] (.st [.int .i64, .int .i64])), (272, .st [.int .i64, .int .i64]), (273, .fn [.st [.int .i64, .sl 3 (.int .i64), .sl 3 (.int .i64)], .st [.int .i64, .sl 3 (.int .i64), .sl 3 (.int .i64)]] (.bool)), (274, .fn [.st [.int .i64, .int .i64], .st [.int .i64, .int .i64]] (.bool))]
theorem tysOk : LkAll (TnOk Tryz.prog) tys := ⟨tn3, tn4, tn5, tn9, tn22, tn23, tn24, tn25, tn26, tn27, tn28, tn29, tn30, tn31, tn32, tn33, tn34, tn35, tn36, tn37, tn38, tn39, tn40, tn41, tn42, tn43, tn44, tn45, tn46, tn47, tn48, tn49, tn108, tn109, tn110, tn111, tn112, tn113, tn114, tn115, tn116, tn117, tn118, tn119, tn120, tn121, tn122, tn123, tn124, tn125, tn126, tn127, tn128, tn129, tn130, tn131, tn132, tn133, tn134, tn136, tn141, tn148, tn153, tn161, tn162, tn163, tn164, tn165, tn166, tn167, tn170, tn174, tn175, tn176, tn177, tn178, tn179, tn180, tn181, tn182, tn183, tn184, tn185, tn186, tn187, tn188, tn189, tn190, tn191, tn192, tn193, tn194, tn195, tn196, tn197, tn198, tn199, tn200, tn201, tn202, tn203, tn205, tn206, tn209, tn210, tn219, tn220, tn225, tn236, tn237, tn238, tn239, tn240, tn241, tn242, tn243, tn244, tn245, tn246, tn247, tn248, tn268, tn269, tn270, tn271, tn272, tn273, tn274, trivial⟩
def laws_szIntS (x : ((List Int) × (Int × Unit))) (c : Unit) : (Option (Int × Unit)) :=
  (if (ltZ (subZ .i64 x.2.1 (lenI x.1)) 0) = true then (some ((-1), ())) else (some ((subZ .i64 x.2.1 (lenI x.1)), ())))
def H_laws_szIntS : Hd := ⟨[.sl 3 (.int .i64), .int .i64], [], none, .p, .int .i64, .p, []⟩
def T_laws_szIntS : FSig := ⟨H_laws_szIntS.ps, H_laws_szIntS.cs, H_laws_szIntS.io, H_laws_szIntS.im, H_laws_szIntS.R, H_laws_szIntS.m, laws_szIntS⟩
theorem E_laws_szIntS : fnOf tys [] Tryz.f73 H_laws_szIntS = T_laws_szIntS := by kernel_rfl
theorem K_laws_szIntS : SigOk Tryz.prog 73 T_laws_szIntS := (congrArg (SigOk Tryz.prog 73) E_laws_szIntS).mp (fnOf_ok rfl tysOk trivial Tryz.func73 (by decide) rfl (fun _ h => by cases h) (nilEq_of (by kernel_rfl)))
def laws_szMode (x : (D_Mode × (Int × Unit))) (c : Unit) : (Option (Int × Unit)) :=
  (Option.bind ((Option.bind (laws_szIntS (x.1.2.1, (x.2.1, ())) ()) fun v0 => (some v0.1)) : (Option Int)) fun v1 => (if (ltZ v1 0) = true then (some ((-1), ())) else (Option.bind ((Option.bind (laws_szIntS (x.1.2.2.1, (v1, ())) ()) fun v2 => (some v2.1)) : (Option Int)) fun v3 => (if (ltZ v3 0) = true then (some ((-1), ())) else (some (v3, ()))))))
def H_laws_szMode : Hd := ⟨[.st [.int .i64, .sl 3 (.int .i64), .sl 3 (.int .i64)], .int .i64], [], none, .p, .int .i64, .p, []⟩
def T_laws_szMode : FSig := ⟨H_laws_szMode.ps, H_laws_szMode.cs, H_laws_szMode.io, H_laws_szMode.im, H_laws_szMode.R, H_laws_szMode.m, laws_szMode⟩
theorem E_laws_szMode : fnOf tys [(73, T_laws_szIntS)] Tryz.f300 H_laws_szMode = T_laws_szMode := by kernel_rfl
theorem K_laws_szMode : SigOk Tryz.prog 300 T_laws_szMode := (congrArg (SigOk Tryz.prog 300) E_laws_szMode).mp (fnOf_ok rfl tysOk ⟨K_laws_szIntS, trivial⟩ Tryz.func300 (by decide) rfl (fun _ h => by cases h) (nilEq_of (by kernel_rfl)))
def laws_szModeS_L0 : (Int × ((List D_Mode) × (Int × Unit))) → Option (Out (Int × ((List D_Mode) × (Int × Unit))) ((Bool × (Int × ((List D_Mode) × (Int × Unit)))) ⊕ Empty) (Int × Unit)) :=
  (fun v0 => (if (ltZ v0.1 (lenI v0.2.1)) = true then (Option.bind (getI v0.2.1 v0.1) fun v1 => (Option.bind ((Option.bind (laws_szMode (v1, (v0.2.2.1, ())) ()) fun v2 => (some v2.1)) : (Option Int)) fun v3 => (if (ltZ v3 0) = true then (some (Out.ret ((-1), ()))) else (some (Out.norm ((addZ .i64 v0.1 1), (v0.2.1, (v3, ())))))))) else (some (Out.exit (Sum.inl ((ltZ v0.1 (lenI v0.2.1)), (v0.1, (v0.2.1, (v0.2.2.1, ())))))))))
def laws_szModeS (x : ((List D_Mode) × (Int × Unit))) (c : Unit) : (Option (Int × Unit)) :=
  (if (ltZ (subZ .i64 x.2.1 (lenI x.1)) 0) = true then (some ((-1), ())) else (Option.bind (loopN (A := (Int × ((List D_Mode) × (Int × Unit)))) big laws_szModeS_L0 (0, (x.1, ((subZ .i64 x.2.1 (lenI x.1)), ())))) fun v4 => (match v4 with | Out.norm v5 => none | Out.exit v6 => (match ((match v6 with | Sum.inl v9 => (Sum.inl (v9.2.2.2.1, ())) | Sum.inr v10 => (Empty.elim v10)) : ((Int × Unit) ⊕ Empty)) with | Sum.inl v7 => (some (v7.1, ())) | Sum.inr v8 => none) | Out.ret v11 => (some v11))))
def H_laws_szModeS : Hd := ⟨[.sl 269 (.st [.int .i64, .sl 3 (.int .i64), .sl 3 (.int .i64)]), .int .i64], [], none, .p, .int .i64, .p, []⟩
def T_laws_szModeS : FSig := ⟨H_laws_szModeS.ps, H_laws_szModeS.cs, H_laws_szModeS.io, H_laws_szModeS.im, H_laws_szModeS.R, H_laws_szModeS.m, laws_szModeS⟩
theorem E_laws_szModeS : fnOf tys [(300, T_laws_szMode)] Tryz.f242 H_laws_szModeS = T_laws_szModeS := by kernel_rfl
theorem K_laws_szModeS : SigOk Tryz.prog 242 T_laws_szModeS := (congrArg (SigOk Tryz.prog 242) E_laws_szModeS).mp (fnOf_ok rfl tysOk ⟨K_laws_szMode, trivial⟩ Tryz.func242 (by decide) rfl (fun _ h => by cases h) (nilEq_of (by kernel_rfl)))
def laws_szActivity (x : (D_Activity × (Int × Unit))) (c : Unit) : (Option (Int × Unit)) :=
  (if (ltZ (subZ .i64 x.2.1 (lenI x.1.1)) 0) = true then (some ((-1), ())) else (Option.bind ((Option.bind (laws_szModeS (x.1.2.2.1, ((subZ .i64 x.2.1 (lenI x.1.1)), ())) ()) fun v0 => (some v0.1)) : (Option Int)) fun v1 => (if (ltZ v1 0) = true then (some ((-1), ())) else (some (v1, ())))))
def H_laws_szActivity : Hd := ⟨[.st [.str, .int .i64, .sl 269 (.st [.int .i64, .sl 3 (.int .i64), .sl 3 (.int .i64)])], .int .i64], [], none, .p, .int .i64, .p, []⟩
def T_laws_szActivity : FSig := ⟨H_laws_szActivity.ps, H_laws_szActivity.cs, H_laws_szActivity.io, H_laws_szActivity.im, H_laws_szActivity.R, H_laws_szActivity.m, laws_szActivity⟩
theorem E_laws_szActivity : fnOf tys [(242, T_laws_szModeS)] Tryz.f151 H_laws_szActivity = T_laws_szActivity := by kernel_rfl
theorem K_laws_szActivity : SigOk Tryz.prog 151 T_laws_szActivity := (congrArg (SigOk Tryz.prog 151) E_laws_szActivity).mp (fnOf_ok rfl tysOk ⟨K_laws_szModeS, trivial⟩ Tryz.func151 (by decide) rfl (fun _ h => by cases h) (nilEq_of (by kernel_rfl)))
def laws_szActivityS_L0 : (Int × ((List D_Activity) × (Int × Unit))) → Option (Out (Int × ((List D_Activity) × (Int × Unit))) ((Bool × (Int × ((List D_Activity) × (Int × Unit)))) ⊕ Empty) (Int × Unit)) :=
  (fun v0 => (if (ltZ v0.1 (lenI v0.2.1)) = true then (Option.bind (getI v0.2.1 v0.1) fun v1 => (Option.bind ((Option.bind (laws_szActivity (v1, (v0.2.2.1, ())) ()) fun v2 => (some v2.1)) : (Option Int)) fun v3 => (if (ltZ v3 0) = true then (some (Out.ret ((-1), ()))) else (some (Out.norm ((addZ .i64 v0.1 1), (v0.2.1, (v3, ())))))))) else (some (Out.exit (Sum.inl ((ltZ v0.1 (lenI v0.2.1)), (v0.1, (v0.2.1, (v0.2.2.1, ())))))))))
def laws_szActivityS (x : ((List D_Activity) × (Int × Unit))) (c : Unit) : (Option (Int × Unit)) :=
  (if (ltZ (subZ .i64 x.2.1 (lenI x.1)) 0) = true then (some ((-1), ())) else (Option.bind (loopN (A := (Int × ((List D_Activity) × (Int × Unit)))) big laws_szActivityS_L0 (0, (x.1, ((subZ .i64 x.2.1 (lenI x.1)), ())))) fun v4 => (match v4 with | Out.norm v5 => none | Out.exit v6 => (match ((match v6 with | Sum.inl v9 => (Sum.inl (v9.2.2.2.1, ())) | Sum.inr v10 => (Empty.elim v10)) : ((Int × Unit) ⊕ Empty)) with | Sum.inl v7 => (some (v7.1, ())) | Sum.inr v8 => none) | Out.ret v11 => (some v11))))
def H_laws_szActivityS : Hd := ⟨[.sl 178 (.st [.str, .int .i64, .sl 269 (.st [.int .i64, .sl 3 (.int .i64), .sl 3 (.int .i64)])]), .int .i64], [], none, .p, .int .i64, .p, []⟩
def T_laws_szActivityS : FSig := ⟨H_laws_szActivityS.ps, H_laws_szActivityS.cs, H_laws_szActivityS.io, H_laws_szActivityS.im, H_laws_szActivityS.R, H_laws_szActivityS.m, laws_szActivityS⟩
theorem E_laws_szActivityS : fnOf tys [(151, T_laws_szActivity)] Tryz.f70 H_laws_szActivityS = T_laws_szActivityS := by kernel_rfl
theorem K_laws_szActivityS : SigOk Tryz.prog 70 T_laws_szActivityS := (congrArg (SigOk Tryz.prog 70) E_laws_szActivityS).mp (fnOf_ok rfl tysOk ⟨K_laws_szActivity, trivial⟩ Tryz.func70 (by decide) rfl (fun _ h => by cases h) (nilEq_of (by kernel_rfl)))
def laws_szLinkS (x : ((List D_Link) × (Int × Unit))) (c : Unit) : (Option (Int × Unit)) :=
  (if (ltZ (subZ .i64 x.2.1 (lenI x.1)) 0) = true then (some ((-1), ())) else (some ((subZ .i64 x.2.1 (lenI x.1)), ())))
def H_laws_szLinkS : Hd := ⟨[.sl 194 (.st [.int .i64, .int .i64, .bool, .int .i64]), .int .i64], [], none, .p, .int .i64, .p, []⟩
def T_laws_szLinkS : FSig := ⟨H_laws_szLinkS.ps, H_laws_szLinkS.cs, H_laws_szLinkS.io, H_laws_szLinkS.im, H_laws_szLinkS.R, H_laws_szLinkS.m, laws_szLinkS⟩
theorem E_laws_szLinkS : fnOf tys [] Tryz.f71 H_laws_szLinkS = T_laws_szLinkS := by kernel_rfl
theorem K_laws_szLinkS : SigOk Tryz.prog 71 T_laws_szLinkS := (congrArg (SigOk Tryz.prog 71) E_laws_szLinkS).mp (fnOf_ok rfl tysOk trivial Tryz.func71 (by decide) rfl (fun _ h => by cases h) (nilEq_of (by kernel_rfl)))
def laws_szIntSS_L0 : (Int × ((List (List Int)) × (Int × Unit))) → Option (Out (Int × ((List (List Int)) × (Int × Unit))) ((Bool × (Int × ((List (List Int)) × (Int × Unit)))) ⊕ Empty) (Int × Unit)) :=
  (fun v0 => (if (ltZ v0.1 (lenI v0.2.1)) = true then (Option.bind (getI v0.2.1 v0.1) fun v1 => (Option.bind ((Option.bind (laws_szIntS (v1, (v0.2.2.1, ())) ()) fun v2 => (some v2.1)) : (Option Int)) fun v3 => (if (ltZ v3 0) = true then (some (Out.ret ((-1), ()))) else (some (Out.norm ((addZ .i64 v0.1 1), (v0.2.1, (v3, ())))))))) else (some (Out.exit (Sum.inl ((ltZ v0.1 (lenI v0.2.1)), (v0.1, (v0.2.1, (v0.2.2.1, ())))))))))
def laws_szIntSS (x : ((List (List Int)) × (Int × Unit))) (c : Unit) : (Option (Int × Unit)) :=
  (if (ltZ (subZ .i64 x.2.1 (lenI x.1)) 0) = true then (some ((-1), ())) else (Option.bind (loopN (A := (Int × ((List (List Int)) × (Int × Unit)))) big laws_szIntSS_L0 (0, (x.1, ((subZ .i64 x.2.1 (lenI x.1)), ())))) fun v4 => (match v4 with | Out.norm v5 => none | Out.exit v6 => (match ((match v6 with | Sum.inl v9 => (Sum.inl (v9.2.2.2.1, ())) | Sum.inr v10 => (Empty.elim v10)) : ((Int × Unit) ⊕ Empty)) with | Sum.inl v7 => (some (v7.1, ())) | Sum.inr v8 => none) | Out.ret v11 => (some v11))))
def H_laws_szIntSS : Hd := ⟨[.sl 25 (.sl 3 (.int .i64)), .int .i64], [], none, .p, .int .i64, .p, []⟩
def T_laws_szIntSS : FSig := ⟨H_laws_szIntSS.ps, H_laws_szIntSS.cs, H_laws_szIntSS.io, H_laws_szIntSS.im, H_laws_szIntSS.R, H_laws_szIntSS.m, laws_szIntSS⟩
theorem E_laws_szIntSS : fnOf tys [(73, T_laws_szIntS)] Tryz.f98 H_laws_szIntSS = T_laws_szIntSS := by kernel_rfl
theorem K_laws_szIntSS : SigOk Tryz.prog 98 T_laws_szIntSS := (congrArg (SigOk Tryz.prog 98) E_laws_szIntSS).mp (fnOf_ok rfl tysOk ⟨K_laws_szIntS, trivial⟩ Tryz.func98 (by decide) rfl (fun _ h => by cases h) (nilEq_of (by kernel_rfl)))
def laws_szStepS (x : ((List D_Step) × (Int × Unit))) (c : Unit) : (Option (Int × Unit)) :=
  (if (ltZ (subZ .i64 x.2.1 (lenI x.1)) 0) = true then (some ((-1), ())) else (some ((subZ .i64 x.2.1 (lenI x.1)), ())))
def H_laws_szStepS : Hd := ⟨[.sl 272 (.st [.int .i64, .int .i64]), .int .i64], [], none, .p, .int .i64, .p, []⟩
def T_laws_szStepS : FSig := ⟨H_laws_szStepS.ps, H_laws_szStepS.cs, H_laws_szStepS.io, H_laws_szStepS.im, H_laws_szStepS.R, H_laws_szStepS.m, laws_szStepS⟩
theorem E_laws_szStepS : fnOf tys [] Tryz.f243 H_laws_szStepS = T_laws_szStepS := by kernel_rfl
theorem K_laws_szStepS : SigOk Tryz.prog 243 T_laws_szStepS := (congrArg (SigOk Tryz.prog 243) E_laws_szStepS).mp (fnOf_ok rfl tysOk trivial Tryz.func243 (by decide) rfl (fun _ h => by cases h) (nilEq_of (by kernel_rfl)))
def laws_szResource (x : (D_Resource × (Int × Unit))) (c : Unit) : (Option (Int × Unit)) :=
  (Option.bind ((Option.bind (laws_szStepS (x.1.1, (x.2.1, ())) ()) fun v0 => (some v0.1)) : (Option Int)) fun v1 => (if (ltZ v1 0) = true then (some ((-1), ())) else (Option.bind ((Option.bind (laws_szIntSS (x.1.2.1, (v1, ())) ()) fun v2 => (some v2.1)) : (Option Int)) fun v3 => (if (ltZ v3 0) = true then (some ((-1), ())) else (some (v3, ()))))))
def H_laws_szResource : Hd := ⟨[.st [.sl 272 (.st [.int .i64, .int .i64]), .sl 25 (.sl 3 (.int .i64))], .int .i64], [], none, .p, .int .i64, .p, []⟩
def T_laws_szResource : FSig := ⟨H_laws_szResource.ps, H_laws_szResource.cs, H_laws_szResource.io, H_laws_szResource.im, H_laws_szResource.R, H_laws_szResource.m, laws_szResource⟩
theorem E_laws_szResource : fnOf tys [(98, T_laws_szIntSS), (243, T_laws_szStepS)] Tryz.f152 H_laws_szResource = T_laws_szResource := by kernel_rfl
theorem K_laws_szResource : SigOk Tryz.prog 152 T_laws_szResource := (congrArg (SigOk Tryz.prog 152) E_laws_szResource).mp (fnOf_ok rfl tysOk ⟨K_laws_szIntSS, K_laws_szStepS, trivial⟩ Tryz.func152 (by decide) rfl (fun _ h => by cases h) (nilEq_of (by kernel_rfl)))
def laws_szResourceS_L0 : (Int × ((List D_Resource) × (Int × Unit))) → Option (Out (Int × ((List D_Resource) × (Int × Unit))) ((Bool × (Int × ((List D_Resource) × (Int × Unit)))) ⊕ Empty) (Int × Unit)) :=
  (fun v0 => (if (ltZ v0.1 (lenI v0.2.1)) = true then (Option.bind (getI v0.2.1 v0.1) fun v1 => (Option.bind ((Option.bind (laws_szResource (v1, (v0.2.2.1, ())) ()) fun v2 => (some v2.1)) : (Option Int)) fun v3 => (if (ltZ v3 0) = true then (some (Out.ret ((-1), ()))) else (some (Out.norm ((addZ .i64 v0.1 1), (v0.2.1, (v3, ())))))))) else (some (Out.exit (Sum.inl ((ltZ v0.1 (lenI v0.2.1)), (v0.1, (v0.2.1, (v0.2.2.1, ())))))))))
def laws_szResourceS (x : ((List D_Resource) × (Int × Unit))) (c : Unit) : (Option (Int × Unit)) :=
  (if (ltZ (subZ .i64 x.2.1 (lenI x.1)) 0) = true then (some ((-1), ())) else (Option.bind (loopN (A := (Int × ((List D_Resource) × (Int × Unit)))) big laws_szResourceS_L0 (0, (x.1, ((subZ .i64 x.2.1 (lenI x.1)), ())))) fun v4 => (match v4 with | Out.norm v5 => none | Out.exit v6 => (match ((match v6 with | Sum.inl v9 => (Sum.inl (v9.2.2.2.1, ())) | Sum.inr v10 => (Empty.elim v10)) : ((Int × Unit) ⊕ Empty)) with | Sum.inl v7 => (some (v7.1, ())) | Sum.inr v8 => none) | Out.ret v11 => (some v11))))
def H_laws_szResourceS : Hd := ⟨[.sl 182 (.st [.sl 272 (.st [.int .i64, .int .i64]), .sl 25 (.sl 3 (.int .i64))]), .int .i64], [], none, .p, .int .i64, .p, []⟩
def T_laws_szResourceS : FSig := ⟨H_laws_szResourceS.ps, H_laws_szResourceS.cs, H_laws_szResourceS.io, H_laws_szResourceS.im, H_laws_szResourceS.R, H_laws_szResourceS.m, laws_szResourceS⟩
theorem E_laws_szResourceS : fnOf tys [(152, T_laws_szResource)] Tryz.f72 H_laws_szResourceS = T_laws_szResourceS := by kernel_rfl
theorem K_laws_szResourceS : SigOk Tryz.prog 72 T_laws_szResourceS := (congrArg (SigOk Tryz.prog 72) E_laws_szResourceS).mp (fnOf_ok rfl tysOk ⟨K_laws_szResource, trivial⟩ Tryz.func72 (by decide) rfl (fun _ h => by cases h) (nilEq_of (by kernel_rfl)))
def laws_szProject (x : (D_Project × (Int × Unit))) (c : Unit) : (Option (Int × Unit)) :=
  (Option.bind ((Option.bind (laws_szActivityS (x.1.2.1, (x.2.1, ())) ()) fun v0 => (some v0.1)) : (Option Int)) fun v1 => (if (ltZ v1 0) = true then (some ((-1), ())) else (Option.bind ((Option.bind (laws_szLinkS (x.1.2.2.1, (v1, ())) ()) fun v2 => (some v2.1)) : (Option Int)) fun v3 => (if (ltZ v3 0) = true then (some ((-1), ())) else (Option.bind ((Option.bind (laws_szResourceS (x.1.2.2.2.1, (v3, ())) ()) fun v4 => (some v4.1)) : (Option Int)) fun v5 => (if (ltZ v5 0) = true then (some ((-1), ())) else (Option.bind ((Option.bind (laws_szIntS (x.1.2.2.2.2.1, (v5, ())) ()) fun v6 => (some v6.1)) : (Option Int)) fun v7 => (if (ltZ v7 0) = true then (some ((-1), ())) else (some (v7, ()))))))))))
def H_laws_szProject : Hd := ⟨[.st [.int .i64, .sl 178 (.st [.str, .int .i64, .sl 269 (.st [.int .i64, .sl 3 (.int .i64), .sl 3 (.int .i64)])]), .sl 194 (.st [.int .i64, .int .i64, .bool, .int .i64]), .sl 182 (.st [.sl 272 (.st [.int .i64, .int .i64]), .sl 25 (.sl 3 (.int .i64))]), .sl 3 (.int .i64)], .int .i64], [], none, .p, .int .i64, .p, []⟩
def T_laws_szProject : FSig := ⟨H_laws_szProject.ps, H_laws_szProject.cs, H_laws_szProject.io, H_laws_szProject.im, H_laws_szProject.R, H_laws_szProject.m, laws_szProject⟩
theorem E_laws_szProject : fnOf tys [(70, T_laws_szActivityS), (71, T_laws_szLinkS), (72, T_laws_szResourceS), (73, T_laws_szIntS)] Tryz.f14 H_laws_szProject = T_laws_szProject := by kernel_rfl
theorem K_laws_szProject : SigOk Tryz.prog 14 T_laws_szProject := (congrArg (SigOk Tryz.prog 14) E_laws_szProject).mp (fnOf_ok rfl tysOk ⟨K_laws_szActivityS, K_laws_szLinkS, K_laws_szResourceS, K_laws_szIntS, trivial⟩ Tryz.func14 (by decide) rfl (fun _ h => by cases h) (nilEq_of (by kernel_rfl)))
def laws_szLiteralS (x : ((List D_Literal) × (Int × Unit))) (c : Unit) : (Option (Int × Unit)) :=
  (if (ltZ (subZ .i64 x.2.1 (lenI x.1)) 0) = true then (some ((-1), ())) else (some ((subZ .i64 x.2.1 (lenI x.1)), ())))
def H_laws_szLiteralS : Hd := ⟨[.sl 122 (.st [.int .i64, .int .i64, .int .i64]), .int .i64], [], none, .p, .int .i64, .p, []⟩
def T_laws_szLiteralS : FSig := ⟨H_laws_szLiteralS.ps, H_laws_szLiteralS.cs, H_laws_szLiteralS.io, H_laws_szLiteralS.im, H_laws_szLiteralS.R, H_laws_szLiteralS.m, laws_szLiteralS⟩
theorem E_laws_szLiteralS : fnOf tys [] Tryz.f15 H_laws_szLiteralS = T_laws_szLiteralS := by kernel_rfl
theorem K_laws_szLiteralS : SigOk Tryz.prog 15 T_laws_szLiteralS := (congrArg (SigOk Tryz.prog 15) E_laws_szLiteralS).mp (fnOf_ok rfl tysOk trivial Tryz.func15 (by decide) rfl (fun _ h => by cases h) (nilEq_of (by kernel_rfl)))
def spec_l01In (x : D_Literal) (c : Unit) : (Option (Bool × Unit)) :=
  (Option.bind ((if (leZ x.2.1 x.1) = true then (some ((leZ x.1 x.2.2.1), ())) else (some (false, ()))) : (Option (Bool × Unit))) fun v0 => (some (v0.1, ())))
def H_spec_l01In : Hd := ⟨[.int .i64, .int .i64, .int .i64], [], none, .p, .bool, .p, []⟩
def T_spec_l01In : FSig := ⟨H_spec_l01In.ps, H_spec_l01In.cs, H_spec_l01In.io, H_spec_l01In.im, H_spec_l01In.R, H_spec_l01In.m, spec_l01In⟩
theorem E_spec_l01In : fnOf tys [] Tryz.f110 H_spec_l01In = T_spec_l01In := by kernel_rfl
theorem K_spec_l01In : SigOk Tryz.prog 110 T_spec_l01In := (congrArg (SigOk Tryz.prog 110) E_spec_l01In).mp (fnOf_ok rfl tysOk trivial Tryz.func110 (by decide) rfl (fun _ h => by cases h) (nilEq_of (by kernel_rfl)))
def spec_l04Nums_L0 : (Int × (Int × ((List Int) × ((List Int) × (Int × Unit))))) → Option (Out (Int × (Int × ((List Int) × ((List Int) × (Int × Unit))))) ((Bool × (Int × (Int × ((List Int) × ((List Int) × (Int × Unit)))))) ⊕ Empty) (Bool × Unit)) :=
  (fun v0 => (if (ltZ v0.1 v0.2.1) = true then (Option.bind (getI v0.2.2.1 v0.1) fun v1 => (Option.bind ((Option.bind (spec_l01In (v1, (0, (20, ()))) ()) fun v2 => (some v2.1)) : (Option Bool)) fun v3 => (if (notB v3) = true then (some (Out.ret (false, ()))) else (some (Out.norm ((addZ .i64 v0.1 1), (v0.2.1, (v0.2.2.1, (v0.2.2.2.1, (v0.2.2.2.2.1, ())))))))))) else (some (Out.exit (Sum.inl ((ltZ v0.1 v0.2.1), (v0.1, (v0.2.1, (v0.2.2.1, (v0.2.2.2.1, (v0.2.2.2.2.1, ())))))))))))
def spec_l04Nums (x : ((List Int) × (Int × Unit))) (c : Unit) : (Option (Bool × Unit)) :=
  (Option.bind (loopN (A := (Int × (Int × ((List Int) × ((List Int) × (Int × Unit)))))) big spec_l04Nums_L0 (0, ((lenI x.1), (x.1, (x.1, (x.2.1, ())))))) fun v4 => (match v4 with | Out.norm v5 => none | Out.exit v6 => (match ((match v6 with | Sum.inl v9 => (Sum.inl (v9.2.2.2.2.1, (v9.2.2.2.2.2.1, ()))) | Sum.inr v10 => (Empty.elim v10)) : (((List Int) × (Int × Unit)) ⊕ Empty)) with | Sum.inl v7 => (some ((eqZ (lenI v7.1) v7.2.1), ())) | Sum.inr v8 => none) | Out.ret v11 => (some v11)))
def H_spec_l04Nums : Hd := ⟨[.sl 3 (.int .i64), .int .i64], [], none, .p, .bool, .p, []⟩
def T_spec_l04Nums : FSig := ⟨H_spec_l04Nums.ps, H_spec_l04Nums.cs, H_spec_l04Nums.io, H_spec_l04Nums.im, H_spec_l04Nums.R, H_spec_l04Nums.m, spec_l04Nums⟩
theorem E_spec_l04Nums : fnOf tys [(110, T_spec_l01In)] Tryz.f301 H_spec_l04Nums = T_spec_l04Nums := by kernel_rfl
theorem K_spec_l04Nums : SigOk Tryz.prog 301 T_spec_l04Nums := (congrArg (SigOk Tryz.prog 301) E_spec_l04Nums).mp (fnOf_ok rfl tysOk ⟨K_spec_l01In, trivial⟩ Tryz.func301 (by decide) rfl (fun _ h => by cases h) (nilEq_of (by kernel_rfl)))
def spec_ModeOk (x : (D_Mode × D_Step)) (c : Unit) : (Option (Bool × Unit)) :=
  (Option.bind ((Option.bind (spec_l01In (x.1.1, (1, (12, ()))) ()) fun v0 => (some v0.1)) : (Option Bool)) fun v1 => (Option.bind ((if v1 = true then (Option.bind ((Option.bind (spec_l04Nums (x.1.2.1, (x.2.1, ())) ()) fun v2 => (some v2.1)) : (Option Bool)) fun v3 => (Option.bind ((if v3 = true then (Option.bind ((Option.bind (spec_l04Nums (x.1.2.2.1, (x.2.2.1, ())) ()) fun v4 => (some v4.1)) : (Option Bool)) fun v5 => (some (v5, ()))) else (some (false, ()))) : (Option (Bool × Unit))) fun v6 => (some (v6.1, ())))) else (some (false, ()))) : (Option (Bool × Unit))) fun v7 => (some (v7.1, ()))))
def H_spec_ModeOk : Hd := ⟨[.st [.int .i64, .sl 3 (.int .i64), .sl 3 (.int .i64)], .int .i64, .int .i64], [], none, .p, .bool, .p, []⟩
def T_spec_ModeOk : FSig := ⟨H_spec_ModeOk.ps, H_spec_ModeOk.cs, H_spec_ModeOk.io, H_spec_ModeOk.im, H_spec_ModeOk.R, H_spec_ModeOk.m, spec_ModeOk⟩
theorem E_spec_ModeOk : fnOf tys [(110, T_spec_l01In), (301, T_spec_l04Nums)] Tryz.f244 H_spec_ModeOk = T_spec_ModeOk := by kernel_rfl
theorem K_spec_ModeOk : SigOk Tryz.prog 244 T_spec_ModeOk := (congrArg (SigOk Tryz.prog 244) E_spec_ModeOk).mp (fnOf_ok rfl tysOk ⟨K_spec_l01In, K_spec_l04Nums, trivial⟩ Tryz.func244 (by decide) rfl (fun _ h => by cases h) (nilEq_of (by kernel_rfl)))
def spec_IsName_L0 : (Int × ((List UInt8) × Unit)) → Option (Out (Int × ((List UInt8) × Unit)) ((Bool × (Int × ((List UInt8) × Unit))) ⊕ Empty) (Bool × Unit)) :=
  (fun v0 => (if (ltZ v0.1 (lenI v0.2.1)) = true then (Option.bind (byteAt v0.2.1 v0.1) fun v1 => (Option.bind ((if (leZ 97 v1) = true then (Option.bind (byteAt v0.2.1 v0.1) fun v2 => (some ((leZ v2 122), (v0.1, (v0.2.1, ()))))) else (some (false, (v0.1, (v0.2.1, ()))))) : (Option (Bool × (Int × ((List UInt8) × Unit))))) fun v3 => (Option.bind ((if (notB v3.1) = true then (Option.bind ((if (eqZ v3.2.1 0) = true then (some (true, (v3.2.1, (v3.2.2.1, ())))) else (Option.bind (byteAt v3.2.2.1 v3.2.1) fun v4 => (Option.bind ((if (ltZ v4 48) = true then (some (true, (v3.2.1, (v3.2.2.1, ())))) else (Option.bind (byteAt v3.2.2.1 v3.2.1) fun v5 => (some ((ltZ 57 v5), (v3.2.1, (v3.2.2.1, ())))))) : (Option (Bool × (Int × ((List UInt8) × Unit))))) fun v6 => (some (v6.1, (v6.2.1, (v6.2.2.1, ()))))))) : (Option (Bool × (Int × ((List UInt8) × Unit))))) fun v7 => (some (v7.1, (v7.2.1, (v7.2.2.1, ()))))) else (some (false, (v3.2.1, (v3.2.2.1, ()))))) : (Option (Bool × (Int × ((List UInt8) × Unit))))) fun v8 => (if v8.1 = true then (some (Out.ret (false, ()))) else (some (Out.norm ((addZ .i64 v8.2.1 1), (v8.2.2.1, ())))))))) else (some (Out.exit (Sum.inl ((ltZ v0.1 (lenI v0.2.1)), (v0.1, (v0.2.1, ()))))))))
def spec_IsName (x : ((List UInt8) × Unit)) (c : Unit) : (Option (Bool × Unit)) :=
  (Option.bind (loopN (A := (Int × ((List UInt8) × Unit))) big spec_IsName_L0 (0, (x.1, ()))) fun v9 => (match v9 with | Out.norm v10 => none | Out.exit v11 => (match ((match v11 with | Sum.inl v16 => (Sum.inl (v16.2.2.1, ())) | Sum.inr v17 => (Empty.elim v17)) : (((List UInt8) × Unit) ⊕ Empty)) with | Sum.inl v12 => (Option.bind ((Option.bind (spec_l01In ((lenI v12.1), (1, (8, ()))) ()) fun v13 => (some v13.1)) : (Option Bool)) fun v14 => (some (v14, ()))) | Sum.inr v15 => none) | Out.ret v18 => (some v18)))
def H_spec_IsName : Hd := ⟨[.str], [], none, .p, .bool, .p, []⟩
def T_spec_IsName : FSig := ⟨H_spec_IsName.ps, H_spec_IsName.cs, H_spec_IsName.io, H_spec_IsName.im, H_spec_IsName.R, H_spec_IsName.m, spec_IsName⟩
theorem E_spec_IsName : fnOf tys [(110, T_spec_l01In)] Tryz.f245 H_spec_IsName = T_spec_IsName := by kernel_rfl
theorem K_spec_IsName : SigOk Tryz.prog 245 T_spec_IsName := (congrArg (SigOk Tryz.prog 245) E_spec_IsName).mp (fnOf_ok rfl tysOk ⟨K_spec_l01In, trivial⟩ Tryz.func245 (by decide) rfl (fun _ h => by cases h) (nilEq_of (by kernel_rfl)))
def spec_ActivityOk_L0 : (Int × (Int × ((List D_Mode) × (Int × (Int × (D_Activity × Unit)))))) → Option (Out (Int × (Int × ((List D_Mode) × (Int × (Int × (D_Activity × Unit)))))) ((Bool × (Int × (Int × ((List D_Mode) × (Int × (Int × (D_Activity × Unit))))))) ⊕ Empty) (Bool × Unit)) :=
  (fun v0 => (if (ltZ v0.1 v0.2.1) = true then (Option.bind (getI v0.2.2.1 v0.1) fun v1 => (Option.bind ((Option.bind (spec_ModeOk (v1, (v0.2.2.2.1, (v0.2.2.2.2.1, ()))) ()) fun v2 => (some v2.1)) : (Option Bool)) fun v3 => (if (notB v3) = true then (some (Out.ret (false, ()))) else (some (Out.norm ((addZ .i64 v0.1 1), (v0.2.1, (v0.2.2.1, (v0.2.2.2.1, (v0.2.2.2.2.1, (v0.2.2.2.2.2.1, ()))))))))))) else (some (Out.exit (Sum.inl ((ltZ v0.1 v0.2.1), (v0.1, (v0.2.1, (v0.2.2.1, (v0.2.2.2.1, (v0.2.2.2.2.1, (v0.2.2.2.2.2.1, ()))))))))))))
def spec_ActivityOk (x : (D_Activity × D_Step)) (c : Unit) : (Option (Bool × Unit)) :=
  (Option.bind (loopN (A := (Int × (Int × ((List D_Mode) × (Int × (Int × (D_Activity × Unit))))))) big spec_ActivityOk_L0 (0, ((lenI x.1.2.2.1), (x.1.2.2.1, (x.2.1, (x.2.2.1, (x.1, ()))))))) fun v4 => (match v4 with | Out.norm v5 => none | Out.exit v6 => (match ((match v6 with | Sum.inl v17 => (Sum.inl (v17.2.2.2.2.2.2.1, ())) | Sum.inr v18 => (Empty.elim v18)) : ((D_Activity × Unit) ⊕ Empty)) with | Sum.inl v7 => (Option.bind ((Option.bind (spec_IsName (v7.1.1, ()) ()) fun v8 => (some v8.1)) : (Option Bool)) fun v9 => (Option.bind ((if v9 = true then (Option.bind ((Option.bind (spec_l01In (v7.1.2.1, (0, (3, ()))) ()) fun v10 => (some v10.1)) : (Option Bool)) fun v11 => (Option.bind ((if v11 = true then (Option.bind ((Option.bind (spec_l01In ((lenI v7.1.2.2.1), (1, (3, ()))) ()) fun v12 => (some v12.1)) : (Option Bool)) fun v13 => (some (v13, ()))) else (some (false, ()))) : (Option (Bool × Unit))) fun v14 => (some (v14.1, ())))) else (some (false, ()))) : (Option (Bool × Unit))) fun v15 => (some (v15.1, ())))) | Sum.inr v16 => none) | Out.ret v19 => (some v19)))
def H_spec_ActivityOk : Hd := ⟨[.st [.str, .int .i64, .sl 167 (.st [.int .i64, .sl 3 (.int .i64), .sl 3 (.int .i64)])], .int .i64, .int .i64], [], none, .p, .bool, .p, []⟩
def T_spec_ActivityOk : FSig := ⟨H_spec_ActivityOk.ps, H_spec_ActivityOk.cs, H_spec_ActivityOk.io, H_spec_ActivityOk.im, H_spec_ActivityOk.R, H_spec_ActivityOk.m, spec_ActivityOk⟩
theorem E_spec_ActivityOk : fnOf tys [(110, T_spec_l01In), (244, T_spec_ModeOk), (245, T_spec_IsName)] Tryz.f153 H_spec_ActivityOk = T_spec_ActivityOk := by kernel_rfl
theorem K_spec_ActivityOk : SigOk Tryz.prog 153 T_spec_ActivityOk := (congrArg (SigOk Tryz.prog 153) E_spec_ActivityOk).mp (fnOf_ok rfl tysOk ⟨K_spec_l01In, K_spec_ModeOk, K_spec_IsName, trivial⟩ Tryz.func153 (by decide) rfl (fun _ h => by cases h) (nilEq_of (by kernel_rfl)))
def spec_ActivityIndex_L0 : (Int × (Int × ((List D_Activity) × ((List UInt8) × Unit)))) → Option (Out (Int × (Int × ((List D_Activity) × ((List UInt8) × Unit)))) ((Bool × (Int × (Int × ((List D_Activity) × ((List UInt8) × Unit))))) ⊕ Empty) (Int × Unit)) :=
  (fun v0 => (if (ltZ v0.1 v0.2.1) = true then (Option.bind (getI v0.2.2.1 v0.1) fun v1 => (if (eqS v1.1 v0.2.2.2.1) = true then (some (Out.ret (v0.1, ()))) else (some (Out.norm ((addZ .i64 v0.1 1), (v0.2.1, (v0.2.2.1, (v0.2.2.2.1, ())))))))) else (some (Out.exit (Sum.inl ((ltZ v0.1 v0.2.1), (v0.1, (v0.2.1, (v0.2.2.1, (v0.2.2.2.1, ()))))))))))
def spec_ActivityIndex (x : (D_Project × ((List UInt8) × Unit))) (c : Unit) : (Option (Int × Unit)) :=
  (Option.bind (loopN (A := (Int × (Int × ((List D_Activity) × ((List UInt8) × Unit))))) big spec_ActivityIndex_L0 (0, ((lenI x.1.2.1), (x.1.2.1, (x.2.1, ()))))) fun v2 => (match v2 with | Out.norm v3 => none | Out.exit v4 => (match ((match v4 with | Sum.inl v7 => (Sum.inl ()) | Sum.inr v8 => (Empty.elim v8)) : (Unit ⊕ Empty)) with | Sum.inl v5 => (some ((-1), ())) | Sum.inr v6 => none) | Out.ret v9 => (some v9)))
def H_spec_ActivityIndex : Hd := ⟨[.st [.int .i64, .sl 165 (.st [.str, .int .i64, .sl 167 (.st [.int .i64, .sl 3 (.int .i64), .sl 3 (.int .i64)])]), .sl 190 (.st [.int .i64, .int .i64, .bool, .int .i64]), .sl 187 (.st [.sl 210 (.st [.int .i64, .int .i64]), .sl 25 (.sl 3 (.int .i64))]), .sl 3 (.int .i64)], .str], [], none, .p, .int .i64, .p, []⟩
def T_spec_ActivityIndex : FSig := ⟨H_spec_ActivityIndex.ps, H_spec_ActivityIndex.cs, H_spec_ActivityIndex.io, H_spec_ActivityIndex.im, H_spec_ActivityIndex.R, H_spec_ActivityIndex.m, spec_ActivityIndex⟩
theorem E_spec_ActivityIndex : fnOf tys [] Tryz.f154 H_spec_ActivityIndex = T_spec_ActivityIndex := by kernel_rfl
theorem K_spec_ActivityIndex : SigOk Tryz.prog 154 T_spec_ActivityIndex := (congrArg (SigOk Tryz.prog 154) E_spec_ActivityIndex).mp (fnOf_ok rfl tysOk trivial Tryz.func154 (by decide) rfl (fun _ h => by cases h) (nilEq_of (by kernel_rfl)))
def spec_StepsOk_L0 : (Int × (Int × ((List D_Step) × ((List D_Step) × Unit)))) → Option (Out (Int × (Int × ((List D_Step) × ((List D_Step) × Unit)))) ((Bool × (Int × (Int × ((List D_Step) × ((List D_Step) × Unit))))) ⊕ Empty) (Bool × Unit)) :=
  (fun v0 => (if (ltZ v0.1 v0.2.1) = true then (Option.bind (getI v0.2.2.1 v0.1) fun v1 => (Option.bind ((Option.bind (spec_l01In (v1.1, (0, (60, ()))) ()) fun v2 => (some v2.1)) : (Option Bool)) fun v3 => (Option.bind ((if (notB v3) = true then (some (true, (v0.1, (v0.2.1, (v0.2.2.1, (v0.2.2.2.1, ())))))) else (Option.bind ((Option.bind (spec_l01In (v1.2.1, (0, (20, ()))) ()) fun v4 => (some v4.1)) : (Option Bool)) fun v5 => (Option.bind ((if (notB v5) = true then (some (true, (v0.1, (v0.2.1, (v0.2.2.1, (v0.2.2.2.1, ())))))) else (Option.bind ((if (ltZ 0 v0.1) = true then (Option.bind (getI v0.2.2.2.1 (subZ .i64 v0.1 1)) fun v6 => (some ((leZ v1.1 v6.1), (v0.1, (v0.2.1, (v0.2.2.1, (v0.2.2.2.1, ()))))))) else (some (false, (v0.1, (v0.2.1, (v0.2.2.1, (v0.2.2.2.1, ()))))))) : (Option (Bool × (Int × (Int × ((List D_Step) × ((List D_Step) × Unit))))))) fun v7 => (some (v7.1, (v7.2.1, (v7.2.2.1, (v7.2.2.2.1, (v7.2.2.2.2.1, ())))))))) : (Option (Bool × (Int × (Int × ((List D_Step) × ((List D_Step) × Unit))))))) fun v8 => (some (v8.1, (v8.2.1, (v8.2.2.1, (v8.2.2.2.1, (v8.2.2.2.2.1, ()))))))))) : (Option (Bool × (Int × (Int × ((List D_Step) × ((List D_Step) × Unit))))))) fun v9 => (if v9.1 = true then (some (Out.ret (false, ()))) else (some (Out.norm ((addZ .i64 v9.2.1 1), (v9.2.2.1, (v9.2.2.2.1, (v9.2.2.2.2.1, ())))))))))) else (some (Out.exit (Sum.inl ((ltZ v0.1 v0.2.1), (v0.1, (v0.2.1, (v0.2.2.1, (v0.2.2.2.1, ()))))))))))
def spec_StepsOk (x : ((List D_Step) × Unit)) (c : Unit) : (Option (Bool × Unit)) :=
  (Option.bind (loopN (A := (Int × (Int × ((List D_Step) × ((List D_Step) × Unit))))) big spec_StepsOk_L0 (0, ((lenI x.1), (x.1, (x.1, ()))))) fun v10 => (match v10 with | Out.norm v11 => none | Out.exit v12 => (match ((match v12 with | Sum.inl v19 => (Sum.inl (v19.2.2.2.2.1, ())) | Sum.inr v20 => (Empty.elim v20)) : (((List D_Step) × Unit) ⊕ Empty)) with | Sum.inl v13 => (Option.bind ((Option.bind (spec_l01In ((lenI v13.1), (1, (8, ()))) ()) fun v14 => (some v14.1)) : (Option Bool)) fun v15 => (Option.bind ((if v15 = true then (Option.bind (getI v13.1 0) fun v16 => (some ((eqZ v16.1 0), ()))) else (some (false, ()))) : (Option (Bool × Unit))) fun v17 => (some (v17.1, ())))) | Sum.inr v18 => none) | Out.ret v21 => (some v21)))
def H_spec_StepsOk : Hd := ⟨[.sl 210 (.st [.int .i64, .int .i64])], [], none, .p, .bool, .p, []⟩
def T_spec_StepsOk : FSig := ⟨H_spec_StepsOk.ps, H_spec_StepsOk.cs, H_spec_StepsOk.io, H_spec_StepsOk.im, H_spec_StepsOk.R, H_spec_StepsOk.m, spec_StepsOk⟩
theorem E_spec_StepsOk : fnOf tys [(110, T_spec_l01In)] Tryz.f246 H_spec_StepsOk = T_spec_StepsOk := by kernel_rfl
theorem K_spec_StepsOk : SigOk Tryz.prog 246 T_spec_StepsOk := (congrArg (SigOk Tryz.prog 246) E_spec_StepsOk).mp (fnOf_ok rfl tysOk ⟨K_spec_l01In, trivial⟩ Tryz.func246 (by decide) rfl (fun _ h => by cases h) (nilEq_of (by kernel_rfl)))
def spec_ResourceOk_L0 : (Int × (Int × ((List Int) × (Int × (Int × ((List (List Int)) × (D_Resource × Unit))))))) → Option (Out (Int × (Int × ((List Int) × (Int × (Int × ((List (List Int)) × (D_Resource × Unit))))))) ((Bool × (Int × (Int × ((List Int) × (Int × (Int × ((List (List Int)) × (D_Resource × Unit)))))))) ⊕ Empty) (Bool × Unit)) :=
  (fun v2 => (if (ltZ v2.1 v2.2.1) = true then (Option.bind (getI v2.2.2.1 v2.1) fun v3 => (Option.bind ((Option.bind (spec_l01In (v3, (0, (12, ()))) ()) fun v4 => (some v4.1)) : (Option Bool)) fun v5 => (if (notB v5) = true then (some (Out.ret (false, ()))) else (some (Out.norm ((addZ .i64 v2.1 1), (v2.2.1, (v2.2.2.1, (v2.2.2.2.1, (v2.2.2.2.2.1, (v2.2.2.2.2.2.1, (v2.2.2.2.2.2.2.1, ())))))))))))) else (some (Out.exit (Sum.inl ((ltZ v2.1 v2.2.1), (v2.1, (v2.2.1, (v2.2.2.1, (v2.2.2.2.1, (v2.2.2.2.2.1, (v2.2.2.2.2.2.1, (v2.2.2.2.2.2.2.1, ())))))))))))))
def spec_ResourceOk_L1 : (Int × (Int × ((List (List Int)) × (D_Resource × Unit)))) → Option (Out (Int × (Int × ((List (List Int)) × (D_Resource × Unit)))) ((Bool × (Int × (Int × ((List (List Int)) × (D_Resource × Unit))))) ⊕ Empty) (Bool × Unit)) :=
  (fun v0 => (if (ltZ v0.1 v0.2.1) = true then (Option.bind (getI v0.2.2.1 v0.1) fun v1 => (if (notB (eqZ (lenI v1) 4)) = true then (some (Out.ret (false, ()))) else (Option.bind (loopN (A := (Int × (Int × ((List Int) × (Int × (Int × ((List (List Int)) × (D_Resource × Unit)))))))) big spec_ResourceOk_L0 (0, ((lenI v1), (v1, (v0.1, (v0.2.1, (v0.2.2.1, (v0.2.2.2.1, ())))))))) fun v6 => (match v6 with | Out.norm v7 => none | Out.exit v8 => (match ((match v8 with | Sum.inl v13 => (Sum.inl (v13.2.2.2.2.1, (v13.2.2.2.2.2.1, (v13.2.2.2.2.2.2.1, (v13.2.2.2.2.2.2.2.1, ()))))) | Sum.inr v14 => (Empty.elim v14)) : ((Int × (Int × ((List (List Int)) × (D_Resource × Unit)))) ⊕ Empty)) with | Sum.inl v9 => (some (Out.norm ((addZ .i64 v9.1 1), (v9.2.1, (v9.2.2.1, (v9.2.2.2.1, ())))))) | Sum.inr v10 => (match ((Empty.elim v10) : ((Int × (Int × ((List (List Int)) × (D_Resource × Unit)))) ⊕ Empty)) with | Sum.inl v11 => (some (Out.norm ((addZ .i64 v11.1 1), (v11.2.1, (v11.2.2.1, (v11.2.2.2.1, ())))))) | Sum.inr v12 => (some (Out.exit (Sum.inr (Empty.elim v12)))))) | Out.ret v15 => (some (Out.ret v15)))))) else (some (Out.exit (Sum.inl ((ltZ v0.1 v0.2.1), (v0.1, (v0.2.1, (v0.2.2.1, (v0.2.2.2.1, ()))))))))))
def spec_ResourceOk (x : (D_Resource × Unit)) (c : Unit) : (Option (Bool × Unit)) :=
  (Option.bind (loopN (A := (Int × (Int × ((List (List Int)) × (D_Resource × Unit))))) big spec_ResourceOk_L1 (0, ((lenI x.1.2.1), (x.1.2.1, (x.1, ()))))) fun v16 => (match v16 with | Out.norm v17 => none | Out.exit v18 => (match ((match v18 with | Sum.inl v25 => (Sum.inl (v25.2.2.2.2.1, ())) | Sum.inr v26 => (Empty.elim v26)) : ((D_Resource × Unit) ⊕ Empty)) with | Sum.inl v19 => (Option.bind ((Option.bind (spec_StepsOk (v19.1.1, ()) ()) fun v20 => (some v20.1)) : (Option Bool)) fun v21 => (Option.bind ((if v21 = true then (Option.bind ((if (eqZ (lenI v19.1.2.1) 0) = true then (some (true, ())) else (some ((eqZ (lenI v19.1.2.1) 4), ()))) : (Option (Bool × Unit))) fun v22 => (some (v22.1, ()))) else (some (false, ()))) : (Option (Bool × Unit))) fun v23 => (some (v23.1, ())))) | Sum.inr v24 => none) | Out.ret v27 => (some v27)))
def H_spec_ResourceOk : Hd := ⟨[.st [.sl 210 (.st [.int .i64, .int .i64]), .sl 25 (.sl 3 (.int .i64))]], [], none, .p, .bool, .p, []⟩
def T_spec_ResourceOk : FSig := ⟨H_spec_ResourceOk.ps, H_spec_ResourceOk.cs, H_spec_ResourceOk.io, H_spec_ResourceOk.im, H_spec_ResourceOk.R, H_spec_ResourceOk.m, spec_ResourceOk⟩
theorem E_spec_ResourceOk : fnOf tys [(110, T_spec_l01In), (246, T_spec_StepsOk)] Tryz.f155 H_spec_ResourceOk = T_spec_ResourceOk := by kernel_rfl
theorem K_spec_ResourceOk : SigOk Tryz.prog 155 T_spec_ResourceOk := (congrArg (SigOk Tryz.prog 155) E_spec_ResourceOk).mp (fnOf_ok rfl tysOk ⟨K_spec_l01In, K_spec_StepsOk, trivial⟩ Tryz.func155 (by decide) rfl (fun _ h => by cases h) (nilEq_of (by kernel_rfl)))
def spec_ProjectOk_L0 : (Int × (Int × ((List D_Activity) × (D_Project × (Int × Unit))))) → Option (Out (Int × (Int × ((List D_Activity) × (D_Project × (Int × Unit))))) ((Bool × (Int × (Int × ((List D_Activity) × (D_Project × (Int × Unit)))))) ⊕ Empty) (Bool × Unit)) :=
  (fun v8 => (if (ltZ v8.1 v8.2.1) = true then (Option.bind (getI v8.2.2.1 v8.1) fun v9 => (Option.bind ((Option.bind (spec_ActivityOk (v9, ((lenI v8.2.2.2.1.2.2.2.1), ((lenI v8.2.2.2.1.2.2.2.2.1), ()))) ()) fun v10 => (some v10.1)) : (Option Bool)) fun v11 => (Option.bind ((if (notB v11) = true then (some (true, (v8.1, (v8.2.1, (v8.2.2.1, (v8.2.2.2.1, (v8.2.2.2.2.1, ()))))))) else (Option.bind ((Option.bind (spec_ActivityIndex (v8.2.2.2.1, (v9.1, ())) ()) fun v12 => (some v12.1)) : (Option Int)) fun v13 => (some ((notB (eqZ v13 v8.1)), (v8.1, (v8.2.1, (v8.2.2.1, (v8.2.2.2.1, (v8.2.2.2.2.1, ()))))))))) : (Option (Bool × (Int × (Int × ((List D_Activity) × (D_Project × (Int × Unit)))))))) fun v14 => (if v14.1 = true then (some (Out.ret (false, ()))) else (some (Out.norm ((addZ .i64 v14.2.1 1), (v14.2.2.1, (v14.2.2.2.1, (v14.2.2.2.2.1, (v14.2.2.2.2.2.1, ()))))))))))) else (some (Out.exit (Sum.inl ((ltZ v8.1 v8.2.1), (v8.1, (v8.2.1, (v8.2.2.1, (v8.2.2.2.1, (v8.2.2.2.2.1, ())))))))))))
def spec_ProjectOk_L1 : (Int × (Int × ((List D_Resource) × (D_Project × (Int × Unit))))) → Option (Out (Int × (Int × ((List D_Resource) × (D_Project × (Int × Unit))))) ((Bool × (Int × (Int × ((List D_Resource) × (D_Project × (Int × Unit)))))) ⊕ Empty) (Bool × Unit)) :=
  (fun v19 => (if (ltZ v19.1 v19.2.1) = true then (Option.bind (getI v19.2.2.1 v19.1) fun v20 => (Option.bind ((Option.bind (spec_ResourceOk (v20, ()) ()) fun v21 => (some v21.1)) : (Option Bool)) fun v22 => (if (notB v22) = true then (some (Out.ret (false, ()))) else (some (Out.norm ((addZ .i64 v19.1 1), (v19.2.1, (v19.2.2.1, (v19.2.2.2.1, (v19.2.2.2.2.1, ())))))))))) else (some (Out.exit (Sum.inl ((ltZ v19.1 v19.2.1), (v19.1, (v19.2.1, (v19.2.2.1, (v19.2.2.2.1, (v19.2.2.2.2.1, ())))))))))))
def spec_ProjectOk_L2 : (Int × (Int × ((List Int) × (D_Project × (Int × Unit))))) → Option (Out (Int × (Int × ((List Int) × (D_Project × (Int × Unit))))) ((Bool × (Int × (Int × ((List Int) × (D_Project × (Int × Unit)))))) ⊕ Empty) (Bool × Unit)) :=
  (fun v27 => (if (ltZ v27.1 v27.2.1) = true then (Option.bind (getI v27.2.2.1 v27.1) fun v28 => (Option.bind ((Option.bind (spec_l01In (v28, (0, (100, ()))) ()) fun v29 => (some v29.1)) : (Option Bool)) fun v30 => (if (notB v30) = true then (some (Out.ret (false, ()))) else (some (Out.norm ((addZ .i64 v27.1 1), (v27.2.1, (v27.2.2.1, (v27.2.2.2.1, (v27.2.2.2.2.1, ())))))))))) else (some (Out.exit (Sum.inl ((ltZ v27.1 v27.2.1), (v27.1, (v27.2.1, (v27.2.2.1, (v27.2.2.2.1, (v27.2.2.2.2.1, ())))))))))))
def spec_ProjectOk_L3 : (Int × (Int × ((List D_Link) × (Int × Unit)))) → Option (Out (Int × (Int × ((List D_Link) × (Int × Unit)))) ((Bool × (Int × (Int × ((List D_Link) × (Int × Unit))))) ⊕ Empty) (Bool × Unit)) :=
  (fun v35 => (if (ltZ v35.1 v35.2.1) = true then (Option.bind (getI v35.2.2.1 v35.1) fun v36 => (Option.bind ((Option.bind (spec_l01In (v36.1, (0, ((subZ .i64 v35.2.2.2.1 1), ()))) ()) fun v37 => (some v37.1)) : (Option Bool)) fun v38 => (Option.bind ((if (notB v38) = true then (some (true, (v35.1, (v35.2.1, (v35.2.2.1, (v35.2.2.2.1, ())))))) else (Option.bind ((Option.bind (spec_l01In (v36.2.1, (0, ((subZ .i64 v35.2.2.2.1 1), ()))) ()) fun v39 => (some v39.1)) : (Option Bool)) fun v40 => (Option.bind ((if (notB v40) = true then (some (true, (v35.1, (v35.2.1, (v35.2.2.1, (v35.2.2.2.1, ())))))) else (Option.bind ((if (eqZ v36.1 v36.2.1) = true then (some (true, (v35.1, (v35.2.1, (v35.2.2.1, (v35.2.2.2.1, ())))))) else (Option.bind ((Option.bind (spec_l01In (v36.2.2.2.1, ((-60), (60, ()))) ()) fun v41 => (some v41.1)) : (Option Bool)) fun v42 => (some ((notB v42), (v35.1, (v35.2.1, (v35.2.2.1, (v35.2.2.2.1, ())))))))) : (Option (Bool × (Int × (Int × ((List D_Link) × (Int × Unit))))))) fun v43 => (some (v43.1, (v43.2.1, (v43.2.2.1, (v43.2.2.2.1, (v43.2.2.2.2.1, ())))))))) : (Option (Bool × (Int × (Int × ((List D_Link) × (Int × Unit))))))) fun v44 => (some (v44.1, (v44.2.1, (v44.2.2.1, (v44.2.2.2.1, (v44.2.2.2.2.1, ()))))))))) : (Option (Bool × (Int × (Int × ((List D_Link) × (Int × Unit))))))) fun v45 => (if v45.1 = true then (some (Out.ret (false, ()))) else (some (Out.norm ((addZ .i64 v45.2.1 1), (v45.2.2.1, (v45.2.2.2.1, (v45.2.2.2.2.1, ())))))))))) else (some (Out.exit (Sum.inl ((ltZ v35.1 v35.2.1), (v35.1, (v35.2.1, (v35.2.2.1, (v35.2.2.2.1, ()))))))))))
def spec_ProjectOk (x : (D_Project × Unit)) (c : Unit) : (Option (Bool × Unit)) :=
  (Option.bind ((Option.bind (spec_l01In (x.1.1, (1, (60, ()))) ()) fun v0 => (some v0.1)) : (Option Bool)) fun v1 => (Option.bind ((if (notB v1) = true then (some (true, (x.1, ((lenI x.1.2.1), ())))) else (Option.bind ((Option.bind (spec_l01In ((lenI x.1.2.1), (1, (6, ()))) ()) fun v2 => (some v2.1)) : (Option Bool)) fun v3 => (Option.bind ((if (notB v3) = true then (some (true, (x.1, ((lenI x.1.2.1), ())))) else (Option.bind ((if (ltZ 3 (lenI x.1.2.2.2.1)) = true then (some (true, (x.1, ((lenI x.1.2.1), ())))) else (Option.bind ((if (ltZ 2 (lenI x.1.2.2.2.2.1)) = true then (some (true, (x.1, ((lenI x.1.2.1), ())))) else (some ((ltZ 12 (lenI x.1.2.2.1)), (x.1, ((lenI x.1.2.1), ()))))) : (Option (Bool × (D_Project × (Int × Unit))))) fun v4 => (some (v4.1, (v4.2.1, (v4.2.2.1, ())))))) : (Option (Bool × (D_Project × (Int × Unit))))) fun v5 => (some (v5.1, (v5.2.1, (v5.2.2.1, ())))))) : (Option (Bool × (D_Project × (Int × Unit))))) fun v6 => (some (v6.1, (v6.2.1, (v6.2.2.1, ()))))))) : (Option (Bool × (D_Project × (Int × Unit))))) fun v7 => (if v7.1 = true then (some (false, ())) else (Option.bind (loopN (A := (Int × (Int × ((List D_Activity) × (D_Project × (Int × Unit)))))) big spec_ProjectOk_L0 (0, ((lenI v7.2.1.2.1), (v7.2.1.2.1, (v7.2.1, (v7.2.2.1, ())))))) fun v15 => (match v15 with | Out.norm v16 => none | Out.exit v17 => (match ((match v17 with | Sum.inl v63 => (Sum.inl (v63.2.2.2.2.1, (v63.2.2.2.2.2.1, ()))) | Sum.inr v64 => (Empty.elim v64)) : ((D_Project × (Int × Unit)) ⊕ Empty)) with | Sum.inl v18 => (Option.bind (loopN (A := (Int × (Int × ((List D_Resource) × (D_Project × (Int × Unit)))))) big spec_ProjectOk_L1 (0, ((lenI v18.1.2.2.2.1), (v18.1.2.2.2.1, (v18.1, (v18.2.1, ())))))) fun v23 => (match v23 with | Out.norm v24 => none | Out.exit v25 => (match ((match v25 with | Sum.inl v59 => (Sum.inl (v59.2.2.2.2.1, (v59.2.2.2.2.2.1, ()))) | Sum.inr v60 => (Empty.elim v60)) : ((D_Project × (Int × Unit)) ⊕ Empty)) with | Sum.inl v26 => (Option.bind (loopN (A := (Int × (Int × ((List Int) × (D_Project × (Int × Unit)))))) big spec_ProjectOk_L2 (0, ((lenI v26.1.2.2.2.2.1), (v26.1.2.2.2.2.1, (v26.1, (v26.2.1, ())))))) fun v31 => (match v31 with | Out.norm v32 => none | Out.exit v33 => (match ((match v33 with | Sum.inl v55 => (Sum.inl (v55.2.2.2.2.1, (v55.2.2.2.2.2.1, ()))) | Sum.inr v56 => (Empty.elim v56)) : ((D_Project × (Int × Unit)) ⊕ Empty)) with | Sum.inl v34 => (Option.bind (loopN (A := (Int × (Int × ((List D_Link) × (Int × Unit))))) big spec_ProjectOk_L3 (0, ((lenI v34.1.2.2.1), (v34.1.2.2.1, (v34.2.1, ()))))) fun v46 => (match v46 with | Out.norm v47 => none | Out.exit v48 => (match ((match v48 with | Sum.inl v51 => (Sum.inl ()) | Sum.inr v52 => (Empty.elim v52)) : (Unit ⊕ Empty)) with | Sum.inl v49 => (some (true, ())) | Sum.inr v50 => none) | Out.ret v53 => (some v53))) | Sum.inr v54 => none) | Out.ret v57 => (some v57))) | Sum.inr v58 => none) | Out.ret v61 => (some v61))) | Sum.inr v62 => none) | Out.ret v65 => (some v65))))))
def H_spec_ProjectOk : Hd := ⟨[.st [.int .i64, .sl 165 (.st [.str, .int .i64, .sl 167 (.st [.int .i64, .sl 3 (.int .i64), .sl 3 (.int .i64)])]), .sl 190 (.st [.int .i64, .int .i64, .bool, .int .i64]), .sl 187 (.st [.sl 210 (.st [.int .i64, .int .i64]), .sl 25 (.sl 3 (.int .i64))]), .sl 3 (.int .i64)]], [], none, .p, .bool, .p, []⟩
def T_spec_ProjectOk : FSig := ⟨H_spec_ProjectOk.ps, H_spec_ProjectOk.cs, H_spec_ProjectOk.io, H_spec_ProjectOk.im, H_spec_ProjectOk.R, H_spec_ProjectOk.m, spec_ProjectOk⟩
theorem E_spec_ProjectOk : fnOf tys [(110, T_spec_l01In), (153, T_spec_ActivityOk), (154, T_spec_ActivityIndex), (155, T_spec_ResourceOk)] Tryz.f74 H_spec_ProjectOk = T_spec_ProjectOk := by kernel_rfl
theorem K_spec_ProjectOk : SigOk Tryz.prog 74 T_spec_ProjectOk := (congrArg (SigOk Tryz.prog 74) E_spec_ProjectOk).mp (fnOf_ok rfl tysOk ⟨K_spec_l01In, K_spec_ActivityOk, K_spec_ActivityIndex, K_spec_ResourceOk, trivial⟩ Tryz.func74 (by decide) rfl (fun _ h => by cases h) (nilEq_of (by kernel_rfl)))
def spec_l12Copy_L0 : (Int × (Int × ((List (List Int)) × (D_Domain × (D_Domain × Unit))))) → Option (Out (Int × (Int × ((List (List Int)) × (D_Domain × (D_Domain × Unit))))) ((Bool × (Int × (Int × ((List (List Int)) × (D_Domain × (D_Domain × Unit)))))) ⊕ Empty) (D_Domain × Unit)) :=
  (fun v2 => (if (ltZ v2.1 v2.2.1) = true then (Option.bind (getI v2.2.2.1 v2.1) fun v3 => (Option.bind (addI [] v3) fun v4 => (Option.bind (addI v2.2.2.2.1.2.2.1 (v4 :: [])) fun v5 => (some (Out.norm ((addZ .i64 v2.1 1), (v2.2.1, (v2.2.2.1, ((v2.2.2.2.1.1, (v2.2.2.2.1.2.1, (v5, v2.2.2.2.1.2.2.2))), (v2.2.2.2.2.1, ())))))))))) else (some (Out.exit (Sum.inl ((ltZ v2.1 v2.2.1), (v2.1, (v2.2.1, (v2.2.2.1, (v2.2.2.2.1, (v2.2.2.2.2.1, ())))))))))))
def spec_l12Copy (x : (D_Domain × Unit)) (c : Unit) : (Option (D_Domain × Unit)) :=
  (Option.bind (addI [] x.1.1) fun v0 => (Option.bind (addI [] x.1.2.1) fun v1 => (Option.bind (loopN (A := (Int × (Int × ((List (List Int)) × (D_Domain × (D_Domain × Unit)))))) big spec_l12Copy_L0 (0, ((lenI x.1.2.2.1), (x.1.2.2.1, ((v0, (v1, ([], ()))), (([], ([], ([], ()))), ())))))) fun v6 => (match v6 with | Out.norm v7 => none | Out.exit v8 => (match ((match v8 with | Sum.inl v11 => (Sum.inl (v11.2.2.2.2.1, (v11.2.2.2.2.2.1, ()))) | Sum.inr v12 => (Empty.elim v12)) : ((D_Domain × (D_Domain × Unit)) ⊕ Empty)) with | Sum.inl v9 => (some (v9.1, ())) | Sum.inr v10 => none) | Out.ret v13 => (some v13)))))
def H_spec_l12Copy : Hd := ⟨[.st [.sl 3 (.int .i64), .sl 3 (.int .i64), .sl 25 (.sl 3 (.int .i64))]], [], none, .p, .st [.sl 3 (.int .i64), .sl 3 (.int .i64), .sl 25 (.sl 3 (.int .i64))], (Ty.all (.st [.sl 3 (.int .i64), .sl 3 (.int .i64), .sl 25 (.sl 3 (.int .i64))])), []⟩
def T_spec_l12Copy : FSig := ⟨H_spec_l12Copy.ps, H_spec_l12Copy.cs, H_spec_l12Copy.io, H_spec_l12Copy.im, H_spec_l12Copy.R, H_spec_l12Copy.m, spec_l12Copy⟩
theorem E_spec_l12Copy : fnOf tys [] Tryz.f123 H_spec_l12Copy = T_spec_l12Copy := by kernel_rfl
theorem K_spec_l12Copy : SigOk Tryz.prog 123 T_spec_l12Copy := (congrArg (SigOk Tryz.prog 123) E_spec_l12Copy).mp (fnOf_ok rfl tysOk trivial Tryz.func123 (by decide) rfl (fun _ h => by cases h) (nilEq_of (by kernel_rfl)))
def spec_l02Max (x : D_Step) (c : Unit) : (Option (Int × Unit)) :=
  (if (ltZ x.2.1 x.1) = true then (some (x.1, ())) else (some (x.2.1, ())))
def H_spec_l02Max : Hd := ⟨[.int .i64, .int .i64], [], none, .p, .int .i64, .p, []⟩
def T_spec_l02Max : FSig := ⟨H_spec_l02Max.ps, H_spec_l02Max.cs, H_spec_l02Max.io, H_spec_l02Max.im, H_spec_l02Max.R, H_spec_l02Max.m, spec_l02Max⟩
theorem E_spec_l02Max : fnOf tys [] Tryz.f144 H_spec_l02Max = T_spec_l02Max := by kernel_rfl
theorem K_spec_l02Max : SigOk Tryz.prog 144 T_spec_l02Max := (congrArg (SigOk Tryz.prog 144) E_spec_l02Max).mp (fnOf_ok rfl tysOk trivial Tryz.func144 (by decide) rfl (fun _ h => by cases h) (nilEq_of (by kernel_rfl)))
def spec_l12There (x : (D_Domain × (Int × Unit))) (c : Unit) : (Option (Bool × Unit)) :=
  (Option.bind ((Option.bind (spec_l01In (x.2.1, (0, ((subZ .i64 (lenI x.1.1) 1), ()))) ()) fun v0 => (some v0.1)) : (Option Bool)) fun v1 => (Option.bind ((if v1 = true then (Option.bind ((Option.bind (spec_l01In (x.2.1, (0, ((subZ .i64 (lenI x.1.2.1) 1), ()))) ()) fun v2 => (some v2.1)) : (Option Bool)) fun v3 => (Option.bind ((if v3 = true then (Option.bind ((Option.bind (spec_l01In (x.2.1, (0, ((subZ .i64 (lenI x.1.2.2.1) 1), ()))) ()) fun v4 => (some v4.1)) : (Option Bool)) fun v5 => (some (v5, ()))) else (some (false, ()))) : (Option (Bool × Unit))) fun v6 => (some (v6.1, ())))) else (some (false, ()))) : (Option (Bool × Unit))) fun v7 => (some (v7.1, ()))))
def H_spec_l12There : Hd := ⟨[.st [.sl 3 (.int .i64), .sl 3 (.int .i64), .sl 25 (.sl 3 (.int .i64))], .int .i64], [], none, .p, .bool, .p, []⟩
def T_spec_l12There : FSig := ⟨H_spec_l12There.ps, H_spec_l12There.cs, H_spec_l12There.io, H_spec_l12There.im, H_spec_l12There.R, H_spec_l12There.m, spec_l12There⟩
theorem E_spec_l12There : fnOf tys [(110, T_spec_l01In)] Tryz.f198 H_spec_l12There = T_spec_l12There := by kernel_rfl
theorem K_spec_l12There : SigOk Tryz.prog 198 T_spec_l12There := (congrArg (SigOk Tryz.prog 198) E_spec_l12There).mp (fnOf_ok rfl tysOk ⟨K_spec_l01In, trivial⟩ Tryz.func198 (by decide) rfl (fun _ h => by cases h) (nilEq_of (by kernel_rfl)))
def spec_l02Min (x : D_Step) (c : Unit) : (Option (Int × Unit)) :=
  (if (ltZ x.1 x.2.1) = true then (some (x.1, ())) else (some (x.2.1, ())))
def H_spec_l02Min : Hd := ⟨[.int .i64, .int .i64], [], none, .p, .int .i64, .p, []⟩
def T_spec_l02Min : FSig := ⟨H_spec_l02Min.ps, H_spec_l02Min.cs, H_spec_l02Min.io, H_spec_l02Min.im, H_spec_l02Min.R, H_spec_l02Min.m, spec_l02Min⟩
theorem E_spec_l02Min : fnOf tys [] Tryz.f200 H_spec_l02Min = T_spec_l02Min := by kernel_rfl
theorem K_spec_l02Min : SigOk Tryz.prog 200 T_spec_l02Min := (congrArg (SigOk Tryz.prog 200) E_spec_l02Min).mp (fnOf_ok rfl tysOk trivial Tryz.func200 (by decide) rfl (fun _ h => by cases h) (nilEq_of (by kernel_rfl)))
def spec_l12Brought (x : (Int × Unit)) (c : Unit) : (Option (Int × Unit)) :=
  (Option.bind ((Option.bind (spec_l02Min (62, (x.1, ())) ()) fun v0 => (some v0.1)) : (Option Int)) fun v1 => (Option.bind ((Option.bind (spec_l02Max ((-2), (v1, ())) ()) fun v2 => (some v2.1)) : (Option Int)) fun v3 => (some (v3, ()))))
def H_spec_l12Brought : Hd := ⟨[.int .i64], [], none, .p, .int .i64, .p, []⟩
def T_spec_l12Brought : FSig := ⟨H_spec_l12Brought.ps, H_spec_l12Brought.cs, H_spec_l12Brought.io, H_spec_l12Brought.im, H_spec_l12Brought.R, H_spec_l12Brought.m, spec_l12Brought⟩
theorem E_spec_l12Brought : fnOf tys [(144, T_spec_l02Max), (200, T_spec_l02Min)] Tryz.f199 H_spec_l12Brought = T_spec_l12Brought := by kernel_rfl
theorem K_spec_l12Brought : SigOk Tryz.prog 199 T_spec_l12Brought := (congrArg (SigOk Tryz.prog 199) E_spec_l12Brought).mp (fnOf_ok rfl tysOk ⟨K_spec_l02Max, K_spec_l02Min, trivial⟩ Tryz.func199 (by decide) rfl (fun _ h => by cases h) (nilEq_of (by kernel_rfl)))
def spec_SetHas_L0 : (Int × (Int × ((List Int) × (Int × Unit)))) → Option (Out (Int × (Int × ((List Int) × (Int × Unit)))) ((Bool × (Int × (Int × ((List Int) × (Int × Unit))))) ⊕ Empty) (Bool × Unit)) :=
  (fun v0 => (if (ltZ v0.1 v0.2.1) = true then (Option.bind (getI v0.2.2.1 v0.1) fun v1 => (if (eqZ v1 v0.2.2.2.1) = true then (some (Out.ret (true, ()))) else (some (Out.norm ((addZ .i64 v0.1 1), (v0.2.1, (v0.2.2.1, (v0.2.2.2.1, ())))))))) else (some (Out.exit (Sum.inl ((ltZ v0.1 v0.2.1), (v0.1, (v0.2.1, (v0.2.2.1, (v0.2.2.2.1, ()))))))))))
def spec_SetHas (x : ((List Int) × (Int × Unit))) (c : Unit) : (Option (Bool × Unit)) :=
  (Option.bind (loopN (A := (Int × (Int × ((List Int) × (Int × Unit))))) big spec_SetHas_L0 (0, ((lenI x.1), (x.1, (x.2.1, ()))))) fun v2 => (match v2 with | Out.norm v3 => none | Out.exit v4 => (match ((match v4 with | Sum.inl v7 => (Sum.inl ()) | Sum.inr v8 => (Empty.elim v8)) : (Unit ⊕ Empty)) with | Sum.inl v5 => (some (false, ())) | Sum.inr v6 => none) | Out.ret v9 => (some v9)))
def H_spec_SetHas : Hd := ⟨[.sl 3 (.int .i64), .int .i64], [], none, .p, .bool, .p, []⟩
def T_spec_SetHas : FSig := ⟨H_spec_SetHas.ps, H_spec_SetHas.cs, H_spec_SetHas.io, H_spec_SetHas.im, H_spec_SetHas.R, H_spec_SetHas.m, spec_SetHas⟩
theorem E_spec_SetHas : fnOf tys [] Tryz.f173 H_spec_SetHas = T_spec_SetHas := by kernel_rfl
theorem K_spec_SetHas : SigOk Tryz.prog 173 T_spec_SetHas := (congrArg (SigOk Tryz.prog 173) E_spec_SetHas).mp (fnOf_ok rfl tysOk trivial Tryz.func173 (by decide) rfl (fun _ h => by cases h) (nilEq_of (by kernel_rfl)))
def spec_l02Put_L0 : (Int × ((List Int) × (Int × Unit))) → Option (Out (Int × ((List Int) × (Int × Unit))) ((Bool × (Int × ((List Int) × (Int × Unit)))) ⊕ Empty) ((List Int) × Unit)) :=
  (fun v2 => (Option.bind ((if (ltZ v2.2.2.1 (lenI v2.2.1)) = true then (Option.bind (getI v2.2.1 v2.2.2.1) fun v3 => (some ((ltZ v3 v2.1), (v2.1, (v2.2.1, (v2.2.2.1, ())))))) else (some (false, (v2.1, (v2.2.1, (v2.2.2.1, ())))))) : (Option (Bool × (Int × ((List Int) × (Int × Unit)))))) fun v4 => (if v4.1 = true then (some (Out.norm (v4.2.1, (v4.2.2.1, ((addZ .i64 v4.2.2.2.1 1), ()))))) else (some (Out.exit (Sum.inl v4))))))
def spec_l02Put (x : ((List Int) × (Int × Unit))) (c : Unit) : (Option ((List Int) × Unit)) :=
  (Option.bind ((Option.bind (spec_SetHas (x.1, (x.2.1, ())) ()) fun v0 => (some v0.1)) : (Option Bool)) fun v1 => (if v1 = true then (some (x.1, ())) else (Option.bind (loopN (A := (Int × ((List Int) × (Int × Unit)))) big spec_l02Put_L0 (x.2.1, (x.1, (0, ())))) fun v5 => (match v5 with | Out.norm v6 => none | Out.exit v7 => (match ((match v7 with | Sum.inl v15 => (Sum.inl (v15.2.1, (v15.2.2.1, (v15.2.2.2.1, ())))) | Sum.inr v16 => (Empty.elim v16)) : ((Int × ((List Int) × (Int × Unit))) ⊕ Empty)) with | Sum.inl v8 => (Option.bind (cutI v8.2.1 0 v8.2.2.1) fun v9 => (Option.bind (addI [] v9) fun v10 => (Option.bind (addI v10 (v8.1 :: [])) fun v11 => (Option.bind (cutI v8.2.1 v8.2.2.1 (lenI v8.2.1)) fun v12 => (Option.bind (addI v11 v12) fun v13 => (some (v13, ()))))))) | Sum.inr v14 => none) | Out.ret v17 => (some v17)))))
def H_spec_l02Put : Hd := ⟨[.sl 3 (.int .i64), .int .i64], [], none, .p, .sl 3 (.int .i64), .p, []⟩
def T_spec_l02Put : FSig := ⟨H_spec_l02Put.ps, H_spec_l02Put.cs, H_spec_l02Put.io, H_spec_l02Put.im, H_spec_l02Put.R, H_spec_l02Put.m, spec_l02Put⟩
theorem E_spec_l02Put : fnOf tys [(173, T_spec_SetHas)] Tryz.f240 H_spec_l02Put = T_spec_l02Put := by kernel_rfl
theorem K_spec_l02Put : SigOk Tryz.prog 240 T_spec_l02Put := (congrArg (SigOk Tryz.prog 240) E_spec_l02Put).mp (fnOf_ok rfl tysOk ⟨K_spec_SetHas, trivial⟩ Tryz.func240 (by decide) rfl (fun _ h => by cases h) (nilEq_of (by kernel_rfl)))
def spec_SetOf_L0 : (Int × D_Mode) → Option (Out (Int × D_Mode) ((Bool × (Int × D_Mode)) ⊕ Empty) ((List Int) × Unit)) :=
  (fun v0 => (if (ltZ v0.1 v0.2.1) = true then (Option.bind (getI v0.2.2.1 v0.1) fun v1 => (Option.bind ((Option.bind (spec_l02Put (v0.2.2.2.1, (v1, ())) ()) fun v2 => (some v2.1)) : (Option (List Int))) fun v3 => (some (Out.norm ((addZ .i64 v0.1 1), (v0.2.1, (v0.2.2.1, (v3, ())))))))) else (some (Out.exit (Sum.inl ((ltZ v0.1 v0.2.1), (v0.1, (v0.2.1, (v0.2.2.1, (v0.2.2.2.1, ()))))))))))
def spec_SetOf (x : ((List Int) × Unit)) (c : Unit) : (Option ((List Int) × Unit)) :=
  (Option.bind (loopN (A := (Int × D_Mode)) big spec_SetOf_L0 (0, ((lenI x.1), (x.1, ([], ()))))) fun v4 => (match v4 with | Out.norm v5 => none | Out.exit v6 => (match ((match v6 with | Sum.inl v9 => (Sum.inl (v9.2.2.2.2.1, ())) | Sum.inr v10 => (Empty.elim v10)) : (((List Int) × Unit) ⊕ Empty)) with | Sum.inl v7 => (some (v7.1, ())) | Sum.inr v8 => none) | Out.ret v11 => (some v11)))
def H_spec_SetOf : Hd := ⟨[.sl 3 (.int .i64)], [], none, .p, .sl 3 (.int .i64), .p, [(1, .p), (2, .p), (3, .p)]⟩
def T_spec_SetOf : FSig := ⟨H_spec_SetOf.ps, H_spec_SetOf.cs, H_spec_SetOf.io, H_spec_SetOf.im, H_spec_SetOf.R, H_spec_SetOf.m, spec_SetOf⟩
theorem E_spec_SetOf : fnOf tys [(240, T_spec_l02Put)] Tryz.f241 H_spec_SetOf = T_spec_SetOf := by kernel_rfl
theorem K_spec_SetOf : SigOk Tryz.prog 241 T_spec_SetOf := (congrArg (SigOk Tryz.prog 241) E_spec_SetOf).mp (fnOf_ok rfl tysOk ⟨K_spec_l02Put, trivial⟩ Tryz.func241 (by decide) rfl (fun _ h => by cases h) (nilEq_of (by kernel_rfl)))
def spec_SetIntersection_L0 : (Int × (Int × ((List Int) × ((List Int) × ((List Int) × Unit))))) → Option (Out (Int × (Int × ((List Int) × ((List Int) × ((List Int) × Unit))))) ((Bool × (Int × (Int × ((List Int) × ((List Int) × ((List Int) × Unit)))))) ⊕ Empty) ((List Int) × Unit)) :=
  (fun v0 => (if (ltZ v0.1 v0.2.1) = true then (Option.bind (getI v0.2.2.1 v0.1) fun v1 => (Option.bind ((Option.bind (spec_SetHas (v0.2.2.2.1, (v1, ())) ()) fun v2 => (some v2.1)) : (Option Bool)) fun v3 => (Option.bind ((if v3 = true then (Option.bind (addI v0.2.2.2.2.1 (v1 :: [])) fun v4 => (some (Out.norm (v0.1, (v0.2.1, (v0.2.2.1, (v0.2.2.2.1, (v4, ())))))))) else (some (Out.norm (v0.1, (v0.2.1, (v0.2.2.1, (v0.2.2.2.1, (v0.2.2.2.2.1, ())))))))) : (Option (Out (Int × (Int × ((List Int) × ((List Int) × ((List Int) × Unit))))) Empty ((List Int) × Unit)))) fun v5 => (match ((match ((match v5 with | Out.norm v14 => (Out.norm v14) | Out.exit v15 => (Out.exit v15) | Out.ret v16 => (Out.ret v16)) : (Out (Int × (Int × ((List Int) × ((List Int) × ((List Int) × Unit))))) Empty ((List Int) × Unit))) with | Out.norm v11 => (Out.norm v11) | Out.exit v12 => (Out.exit v12) | Out.ret v13 => (Out.ret v13)) : (Out (Int × (Int × ((List Int) × ((List Int) × ((List Int) × Unit))))) Empty ((List Int) × Unit))) with | Out.norm v6 => (some (Out.norm ((addZ .i64 v6.1 1), (v6.2.1, (v6.2.2.1, (v6.2.2.2.1, (v6.2.2.2.2.1, ()))))))) | Out.exit v7 => (match ((Empty.elim v7) : ((Int × (Int × ((List Int) × ((List Int) × ((List Int) × Unit))))) ⊕ Empty)) with | Sum.inl v8 => (some (Out.norm ((addZ .i64 v8.1 1), (v8.2.1, (v8.2.2.1, (v8.2.2.2.1, (v8.2.2.2.2.1, ()))))))) | Sum.inr v9 => (some (Out.exit (Sum.inr (Empty.elim v9))))) | Out.ret v10 => (some (Out.ret v10)))))) else (some (Out.exit (Sum.inl ((ltZ v0.1 v0.2.1), (v0.1, (v0.2.1, (v0.2.2.1, (v0.2.2.2.1, (v0.2.2.2.2.1, ())))))))))))
def spec_SetIntersection (x : ((List Int) × ((List Int) × Unit))) (c : Unit) : (Option ((List Int) × Unit)) :=
  (Option.bind (loopN (A := (Int × (Int × ((List Int) × ((List Int) × ((List Int) × Unit)))))) big spec_SetIntersection_L0 (0, ((lenI x.1), (x.1, (x.2.1, ([], ())))))) fun v17 => (match v17 with | Out.norm v18 => none | Out.exit v19 => (match ((match v19 with | Sum.inl v24 => (Sum.inl (v24.2.2.2.2.2.1, ())) | Sum.inr v25 => (Empty.elim v25)) : (((List Int) × Unit) ⊕ Empty)) with | Sum.inl v20 => (Option.bind ((Option.bind (spec_SetOf (v20.1, ()) ()) fun v21 => (some v21.1)) : (Option (List Int))) fun v22 => (some (v22, ()))) | Sum.inr v23 => none) | Out.ret v26 => (some v26)))
def H_spec_SetIntersection : Hd := ⟨[.sl 3 (.int .i64), .sl 3 (.int .i64)], [], none, .p, .sl 3 (.int .i64), .p, [(999999, .p), (900005, .p)]⟩
def T_spec_SetIntersection : FSig := ⟨H_spec_SetIntersection.ps, H_spec_SetIntersection.cs, H_spec_SetIntersection.io, H_spec_SetIntersection.im, H_spec_SetIntersection.R, H_spec_SetIntersection.m, spec_SetIntersection⟩
theorem E_spec_SetIntersection : fnOf tys [(173, T_spec_SetHas), (241, T_spec_SetOf)] Tryz.f201 H_spec_SetIntersection = T_spec_SetIntersection := by kernel_rfl
theorem K_spec_SetIntersection : SigOk Tryz.prog 201 T_spec_SetIntersection := (congrArg (SigOk Tryz.prog 201) E_spec_SetIntersection).mp (fnOf_ok rfl tysOk ⟨K_spec_SetHas, K_spec_SetOf, trivial⟩ Tryz.func201 (by decide) rfl (fun _ h => by cases h) (nilEq_of (by kernel_rfl)))
def spec_SetRemove_L0 : (Int × (Int × ((List Int) × (Int × ((List Int) × Unit))))) → Option (Out (Int × (Int × ((List Int) × (Int × ((List Int) × Unit))))) ((Bool × (Int × (Int × ((List Int) × (Int × ((List Int) × Unit)))))) ⊕ Empty) ((List Int) × Unit)) :=
  (fun v0 => (if (ltZ v0.1 v0.2.1) = true then (Option.bind (getI v0.2.2.1 v0.1) fun v1 => (Option.bind ((if (notB (eqZ v1 v0.2.2.2.1)) = true then (Option.bind (addI v0.2.2.2.2.1 (v1 :: [])) fun v2 => (some (Out.norm (v0.1, (v0.2.1, (v0.2.2.1, (v0.2.2.2.1, (v2, ())))))))) else (some (Out.norm (v0.1, (v0.2.1, (v0.2.2.1, (v0.2.2.2.1, (v0.2.2.2.2.1, ())))))))) : (Option (Out (Int × (Int × ((List Int) × (Int × ((List Int) × Unit))))) Empty ((List Int) × Unit)))) fun v3 => (match ((match ((match v3 with | Out.norm v12 => (Out.norm v12) | Out.exit v13 => (Out.exit v13) | Out.ret v14 => (Out.ret v14)) : (Out (Int × (Int × ((List Int) × (Int × ((List Int) × Unit))))) Empty ((List Int) × Unit))) with | Out.norm v9 => (Out.norm v9) | Out.exit v10 => (Out.exit v10) | Out.ret v11 => (Out.ret v11)) : (Out (Int × (Int × ((List Int) × (Int × ((List Int) × Unit))))) Empty ((List Int) × Unit))) with | Out.norm v4 => (some (Out.norm ((addZ .i64 v4.1 1), (v4.2.1, (v4.2.2.1, (v4.2.2.2.1, (v4.2.2.2.2.1, ()))))))) | Out.exit v5 => (match ((Empty.elim v5) : ((Int × (Int × ((List Int) × (Int × ((List Int) × Unit))))) ⊕ Empty)) with | Sum.inl v6 => (some (Out.norm ((addZ .i64 v6.1 1), (v6.2.1, (v6.2.2.1, (v6.2.2.2.1, (v6.2.2.2.2.1, ()))))))) | Sum.inr v7 => (some (Out.exit (Sum.inr (Empty.elim v7))))) | Out.ret v8 => (some (Out.ret v8))))) else (some (Out.exit (Sum.inl ((ltZ v0.1 v0.2.1), (v0.1, (v0.2.1, (v0.2.2.1, (v0.2.2.2.1, (v0.2.2.2.2.1, ())))))))))))
def spec_SetRemove (x : ((List Int) × (Int × Unit))) (c : Unit) : (Option ((List Int) × Unit)) :=
  (Option.bind (loopN (A := (Int × (Int × ((List Int) × (Int × ((List Int) × Unit)))))) big spec_SetRemove_L0 (0, ((lenI x.1), (x.1, (x.2.1, ([], ())))))) fun v15 => (match v15 with | Out.norm v16 => none | Out.exit v17 => (match ((match v17 with | Sum.inl v20 => (Sum.inl (v20.2.2.2.2.2.1, ())) | Sum.inr v21 => (Empty.elim v21)) : (((List Int) × Unit) ⊕ Empty)) with | Sum.inl v18 => (some (v18.1, ())) | Sum.inr v19 => none) | Out.ret v22 => (some v22)))
def H_spec_SetRemove : Hd := ⟨[.sl 3 (.int .i64), .int .i64], [], none, .p, .sl 3 (.int .i64), (Ty.all (.sl 3 (.int .i64))), []⟩
def T_spec_SetRemove : FSig := ⟨H_spec_SetRemove.ps, H_spec_SetRemove.cs, H_spec_SetRemove.io, H_spec_SetRemove.im, H_spec_SetRemove.R, H_spec_SetRemove.m, spec_SetRemove⟩
theorem E_spec_SetRemove : fnOf tys [] Tryz.f202 H_spec_SetRemove = T_spec_SetRemove := by kernel_rfl
theorem K_spec_SetRemove : SigOk Tryz.prog 202 T_spec_SetRemove := (congrArg (SigOk Tryz.prog 202) E_spec_SetRemove).mp (fnOf_ok rfl tysOk trivial Tryz.func202 (by decide) rfl (fun _ h => by cases h) (nilEq_of (by kernel_rfl)))
def spec_Restrict (x : (D_Domain × (D_Literal × Unit))) (c : Unit) : (Option (D_Domain × Unit)) :=
  (Option.bind ((Option.bind (spec_l12Copy (x.1, ()) ()) fun v0 => (some v0.1)) : (Option D_Domain)) fun v1 => (Option.bind ((Option.bind (spec_l12There (x.1, (x.2.1.2.1, ())) ()) fun v2 => (some v2.1)) : (Option Bool)) fun v3 => (if (notB v3) = true then (some (v1, ())) else (Option.bind ((Option.bind (spec_l12Brought (x.2.1.2.2.1, ()) ()) fun v4 => (some v4.1)) : (Option Int)) fun v5 => (Option.bind ((if (eqZ x.2.1.1 1) = true then (Option.bind (getI x.1.1 x.2.1.2.1) fun v6 => (Option.bind ((Option.bind (spec_l02Max (v6, (v5, ())) ()) fun v7 => (some v7.1)) : (Option Int)) fun v8 => (Option.bind ((Option.bind (getI v1.1 x.2.1.2.1) fun v9 => (some ())) : (Option Unit)) fun v10 => (Option.bind ((Option.bind ((Option.bind (getI v1.1 x.2.1.2.1) fun v11 => (some v11)) : (Option Int)) fun v12 => (some v8)) : (Option Int)) fun v13 => (some (Out.norm (((setI v1.1 x.2.1.2.1 (fun v14 => v13)), v1.2), (([], ([], ([], ()))), ())))))))) else (Option.bind ((if (eqZ x.2.1.1 2) = true then (Option.bind (getI x.1.2.1 x.2.1.2.1) fun v15 => (Option.bind ((Option.bind (spec_l02Min (v15, (v5, ())) ()) fun v16 => (some v16.1)) : (Option Int)) fun v17 => (Option.bind ((Option.bind (getI v1.2.1 x.2.1.2.1) fun v18 => (some ())) : (Option Unit)) fun v19 => (Option.bind ((Option.bind ((Option.bind (getI v1.2.1 x.2.1.2.1) fun v20 => (some v20)) : (Option Int)) fun v21 => (some v17)) : (Option Int)) fun v22 => (some (Out.norm ((v1.1, ((setI v1.2.1 x.2.1.2.1 (fun v23 => v22)), v1.2.2)), (([], ([], ([], ()))), ())))))))) else (Option.bind ((if (eqZ x.2.1.1 3) = true then (Option.bind (getI x.1.2.2.1 x.2.1.2.1) fun v24 => (Option.bind ((Option.bind (spec_SetIntersection ((v5 :: []), (v24, ())) ()) fun v25 => (some v25.1)) : (Option (List Int))) fun v26 => (Option.bind ((Option.bind (getI v1.2.2.1 x.2.1.2.1) fun v27 => (some ())) : (Option Unit)) fun v28 => (Option.bind ((Option.bind ((Option.bind (getI v1.2.2.1 x.2.1.2.1) fun v29 => (some v29)) : (Option (List Int))) fun v30 => (some v26)) : (Option (List Int))) fun v31 => (some (Out.norm ((v1.1, (v1.2.1, ((setI v1.2.2.1 x.2.1.2.1 (fun v32 => v31)), v1.2.2.2))), (([], ([], ([], ()))), ())))))))) else (Option.bind ((if (eqZ x.2.1.1 4) = true then (Option.bind (getI x.1.2.2.1 x.2.1.2.1) fun v33 => (Option.bind ((Option.bind (spec_SetRemove (v33, (v5, ())) ()) fun v34 => (some v34.1)) : (Option (List Int))) fun v35 => (Option.bind ((Option.bind (getI v1.2.2.1 x.2.1.2.1) fun v36 => (some ())) : (Option Unit)) fun v37 => (Option.bind ((Option.bind ((Option.bind (getI v1.2.2.1 x.2.1.2.1) fun v38 => (some v38)) : (Option (List Int))) fun v39 => (some v35)) : (Option (List Int))) fun v40 => (some (Out.norm ((v1.1, (v1.2.1, ((setI v1.2.2.1 x.2.1.2.1 (fun v41 => v40)), v1.2.2.2))), (([], ([], ([], ()))), ())))))))) else (some (Out.norm (v1, (([], ([], ([], ()))), ()))))) : (Option (Out (D_Domain × (D_Domain × Unit)) Empty (D_Domain × Unit)))) fun v42 => (match ((match v42 with | Out.norm v46 => (Out.norm v46) | Out.exit v47 => (Out.exit v47) | Out.ret v48 => (Out.ret v48)) : (Out (D_Domain × (D_Domain × Unit)) Empty (D_Domain × Unit))) with | Out.norm v43 => (some (Out.norm (v43.1, (v43.2.1, ())))) | Out.exit v44 => (some (Out.exit v44)) | Out.ret v45 => (some (Out.ret v45))))) : (Option (Out (D_Domain × (D_Domain × Unit)) Empty (D_Domain × Unit)))) fun v49 => (match ((match v49 with | Out.norm v53 => (Out.norm v53) | Out.exit v54 => (Out.exit v54) | Out.ret v55 => (Out.ret v55)) : (Out (D_Domain × (D_Domain × Unit)) Empty (D_Domain × Unit))) with | Out.norm v50 => (some (Out.norm (v50.1, (v50.2.1, ())))) | Out.exit v51 => (some (Out.exit v51)) | Out.ret v52 => (some (Out.ret v52))))) : (Option (Out (D_Domain × (D_Domain × Unit)) Empty (D_Domain × Unit)))) fun v56 => (match ((match v56 with | Out.norm v60 => (Out.norm v60) | Out.exit v61 => (Out.exit v61) | Out.ret v62 => (Out.ret v62)) : (Out (D_Domain × (D_Domain × Unit)) Empty (D_Domain × Unit))) with | Out.norm v57 => (some (Out.norm (v57.1, (v57.2.1, ())))) | Out.exit v58 => (some (Out.exit v58)) | Out.ret v59 => (some (Out.ret v59))))) : (Option (Out (D_Domain × (D_Domain × Unit)) Empty (D_Domain × Unit)))) fun v63 => (match ((match v63 with | Out.norm v69 => (Out.norm v69) | Out.exit v70 => (Out.exit v70) | Out.ret v71 => (Out.ret v71)) : (Out (D_Domain × (D_Domain × Unit)) Empty (D_Domain × Unit))) with | Out.norm v64 => (some (v64.1, ())) | Out.exit v65 => (match ((Empty.elim v65) : ((D_Domain × (D_Domain × Unit)) ⊕ Empty)) with | Sum.inl v66 => (some (v66.1, ())) | Sum.inr v67 => none) | Out.ret v68 => (some v68)))))))
def H_spec_Restrict : Hd := ⟨[.st [.sl 3 (.int .i64), .sl 3 (.int .i64), .sl 25 (.sl 3 (.int .i64))], .st [.int .i64, .int .i64, .int .i64]], [], none, .p, .st [.sl 3 (.int .i64), .sl 3 (.int .i64), .sl 25 (.sl 3 (.int .i64))], .p, [(1000000057, .p), (1299999, .p), (1200005, .u (.s (.u .p) (.s (.u .p) (.s (.u .p) .p))))]⟩
def T_spec_Restrict : FSig := ⟨H_spec_Restrict.ps, H_spec_Restrict.cs, H_spec_Restrict.io, H_spec_Restrict.im, H_spec_Restrict.R, H_spec_Restrict.m, spec_Restrict⟩
theorem E_spec_Restrict : fnOf tys [(123, T_spec_l12Copy), (144, T_spec_l02Max), (198, T_spec_l12There), (199, T_spec_l12Brought), (200, T_spec_l02Min), (201, T_spec_SetIntersection), (202, T_spec_SetRemove)] Tryz.f127 H_spec_Restrict = T_spec_Restrict := by kernel_rfl
theorem K_spec_Restrict : SigOk Tryz.prog 127 T_spec_Restrict := (congrArg (SigOk Tryz.prog 127) E_spec_Restrict).mp (fnOf_ok rfl tysOk ⟨K_spec_l12Copy, K_spec_l02Max, K_spec_l12There, K_spec_l12Brought, K_spec_l02Min, K_spec_SetIntersection, K_spec_SetRemove, trivial⟩ Tryz.func127 (by decide) rfl (fun _ h => by cases h) (nilEq_of (by kernel_rfl)))
def spec_Negate (x : (D_Literal × Unit)) (c : Unit) : (Option (D_Literal × Unit)) :=
  (Option.bind ((Option.bind (spec_l01In (x.1.2.2.1, ((-100000), (100000, ()))) ()) fun v0 => (some v0.1)) : (Option Bool)) fun v1 => (if (notB v1) = true then (some ((0, (0, (0, ()))), ())) else (if (eqZ x.1.1 1) = true then (some ((2, (x.1.2.1, ((subZ .i64 x.1.2.2.1 1), ()))), ())) else (if (eqZ x.1.1 2) = true then (some ((1, (x.1.2.1, ((addZ .i64 x.1.2.2.1 1), ()))), ())) else (if (eqZ x.1.1 3) = true then (some ((4, (x.1.2.1, (x.1.2.2.1, ()))), ())) else (if (eqZ x.1.1 4) = true then (some ((3, (x.1.2.1, (x.1.2.2.1, ()))), ())) else (some ((0, (0, (0, ()))), ()))))))))
def H_spec_Negate : Hd := ⟨[.st [.int .i64, .int .i64, .int .i64]], [], none, .p, .st [.int .i64, .int .i64, .int .i64], .p, []⟩
def T_spec_Negate : FSig := ⟨H_spec_Negate.ps, H_spec_Negate.cs, H_spec_Negate.io, H_spec_Negate.im, H_spec_Negate.R, H_spec_Negate.m, spec_Negate⟩
theorem E_spec_Negate : fnOf tys [(110, T_spec_l01In)] Tryz.f156 H_spec_Negate = T_spec_Negate := by kernel_rfl
theorem K_spec_Negate : SigOk Tryz.prog 156 T_spec_Negate := (congrArg (SigOk Tryz.prog 156) E_spec_Negate).mp (fnOf_ok rfl tysOk ⟨K_spec_l01In, trivial⟩ Tryz.func156 (by decide) rfl (fun _ h => by cases h) (nilEq_of (by kernel_rfl)))
def spec_l13Against_L0 : (Int × (Int × ((List D_Literal) × (D_Domain × (D_Domain × Unit))))) → Option (Out (Int × (Int × ((List D_Literal) × (D_Domain × (D_Domain × Unit))))) ((Bool × (Int × (Int × ((List D_Literal) × (D_Domain × (D_Domain × Unit)))))) ⊕ Empty) (D_Domain × Unit)) :=
  (fun v2 => (if (ltZ v2.1 v2.2.1) = true then (Option.bind (getI v2.2.2.1 v2.1) fun v3 => (Option.bind ((Option.bind (spec_Negate (v3, ()) ()) fun v4 => (some v4.1)) : (Option D_Literal)) fun v5 => (Option.bind ((Option.bind (spec_Restrict (v2.2.2.2.1, (v5, ())) ()) fun v6 => (some v6.1)) : (Option D_Domain)) fun v7 => (some (Out.norm ((addZ .i64 v2.1 1), (v2.2.1, (v2.2.2.1, (v7, (v2.2.2.2.2.1, ())))))))))) else (some (Out.exit (Sum.inl ((ltZ v2.1 v2.2.1), (v2.1, (v2.2.1, (v2.2.2.1, (v2.2.2.2.1, (v2.2.2.2.2.1, ())))))))))))
def spec_l13Against (x : (D_Domain × ((List D_Literal) × Unit))) (c : Unit) : (Option (D_Domain × Unit)) :=
  (Option.bind ((Option.bind (spec_l12Copy (x.1, ()) ()) fun v0 => (some v0.1)) : (Option D_Domain)) fun v1 => (Option.bind (loopN (A := (Int × (Int × ((List D_Literal) × (D_Domain × (D_Domain × Unit)))))) big spec_l13Against_L0 (0, ((lenI x.2.1), (x.2.1, (v1, (([], ([], ([], ()))), ())))))) fun v8 => (match v8 with | Out.norm v9 => none | Out.exit v10 => (match ((match v10 with | Sum.inl v13 => (Sum.inl (v13.2.2.2.2.1, (v13.2.2.2.2.2.1, ()))) | Sum.inr v14 => (Empty.elim v14)) : ((D_Domain × (D_Domain × Unit)) ⊕ Empty)) with | Sum.inl v11 => (some (v11.1, ())) | Sum.inr v12 => none) | Out.ret v15 => (some v15))))
def H_spec_l13Against : Hd := ⟨[.st [.sl 3 (.int .i64), .sl 3 (.int .i64), .sl 25 (.sl 3 (.int .i64))], .sl 120 (.st [.int .i64, .int .i64, .int .i64])], [], none, .p, .st [.sl 3 (.int .i64), .sl 3 (.int .i64), .sl 25 (.sl 3 (.int .i64))], .p, [(5, .u .p)]⟩
def T_spec_l13Against : FSig := ⟨H_spec_l13Against.ps, H_spec_l13Against.cs, H_spec_l13Against.io, H_spec_l13Against.im, H_spec_l13Against.R, H_spec_l13Against.m, spec_l13Against⟩
theorem E_spec_l13Against : fnOf tys [(123, T_spec_l12Copy), (127, T_spec_Restrict), (156, T_spec_Negate)] Tryz.f75 H_spec_l13Against = T_spec_l13Against := by kernel_rfl
theorem K_spec_l13Against : SigOk Tryz.prog 75 T_spec_l13Against := (congrArg (SigOk Tryz.prog 75) E_spec_l13Against).mp (fnOf_ok rfl tysOk ⟨K_spec_l12Copy, K_spec_Restrict, K_spec_Negate, trivial⟩ Tryz.func75 (by decide) rfl (fun _ h => by cases h) (nilEq_of (by kernel_rfl)))
def spec_IntRange_L0 : (Int × (Int × ((List Int) × Unit))) → Option (Out (Int × (Int × ((List Int) × Unit))) ((Bool × (Int × (Int × ((List Int) × Unit)))) ⊕ Empty) ((List Int) × Unit)) :=
  (fun v2 => (if (ltZ v2.1 v2.2.1) = true then (Option.bind (addI v2.2.2.1 (v2.1 :: [])) fun v3 => (some (Out.norm ((addZ .i64 v2.1 1), (v2.2.1, (v3, ())))))) else (some (Out.exit (Sum.inl ((ltZ v2.1 v2.2.1), (v2.1, (v2.2.1, (v2.2.2.1, ())))))))))
def spec_IntRange (x : (Int × Unit)) (c : Unit) : (Option ((List Int) × Unit)) :=
  (Option.bind ((Option.bind (spec_l01In (x.1, (0, (200, ()))) ()) fun v0 => (some v0.1)) : (Option Bool)) fun v1 => (if (notB v1) = true then (some ([], ())) else (Option.bind (loopN (A := (Int × (Int × ((List Int) × Unit)))) big spec_IntRange_L0 (0, (x.1, ([], ())))) fun v4 => (match v4 with | Out.norm v5 => none | Out.exit v6 => (match ((match v6 with | Sum.inl v9 => (Sum.inl (v9.2.2.2.1, ())) | Sum.inr v10 => (Empty.elim v10)) : (((List Int) × Unit) ⊕ Empty)) with | Sum.inl v7 => (some (v7.1, ())) | Sum.inr v8 => none) | Out.ret v11 => (some v11)))))
def H_spec_IntRange : Hd := ⟨[.int .i64], [], none, .p, .sl 3 (.int .i64), (Ty.all (.sl 3 (.int .i64))), []⟩
def T_spec_IntRange : FSig := ⟨H_spec_IntRange.ps, H_spec_IntRange.cs, H_spec_IntRange.io, H_spec_IntRange.im, H_spec_IntRange.R, H_spec_IntRange.m, spec_IntRange⟩
theorem E_spec_IntRange : fnOf tys [(110, T_spec_l01In)] Tryz.f247 H_spec_IntRange = T_spec_IntRange := by kernel_rfl
theorem K_spec_IntRange : SigOk Tryz.prog 247 T_spec_IntRange := (congrArg (SigOk Tryz.prog 247) E_spec_IntRange).mp (fnOf_ok rfl tysOk ⟨K_spec_l01In, trivial⟩ Tryz.func247 (by decide) rfl (fun _ h => by cases h) (nilEq_of (by kernel_rfl)))
def spec_ModeIndexes (x : (D_Activity × Unit)) (c : Unit) : (Option ((List Int) × Unit)) :=
  (Option.bind ((Option.bind (spec_IntRange ((lenI x.1.2.2.1), ()) ()) fun v0 => (some v0.1)) : (Option (List Int))) fun v1 => (some (v1, ())))
def H_spec_ModeIndexes : Hd := ⟨[.st [.str, .int .i64, .sl 167 (.st [.int .i64, .sl 3 (.int .i64), .sl 3 (.int .i64)])]], [], none, .p, .sl 3 (.int .i64), (Ty.all (.sl 3 (.int .i64))), []⟩
def T_spec_ModeIndexes : FSig := ⟨H_spec_ModeIndexes.ps, H_spec_ModeIndexes.cs, H_spec_ModeIndexes.io, H_spec_ModeIndexes.im, H_spec_ModeIndexes.R, H_spec_ModeIndexes.m, spec_ModeIndexes⟩
theorem E_spec_ModeIndexes : fnOf tys [(247, T_spec_IntRange)] Tryz.f157 H_spec_ModeIndexes = T_spec_ModeIndexes := by kernel_rfl
theorem K_spec_ModeIndexes : SigOk Tryz.prog 157 T_spec_ModeIndexes := (congrArg (SigOk Tryz.prog 157) E_spec_ModeIndexes).mp (fnOf_ok rfl tysOk ⟨K_spec_IntRange, trivial⟩ Tryz.func157 (by decide) rfl (fun _ h => by cases h) (nilEq_of (by kernel_rfl)))
def spec_l12Of_L0 : (Int × (Int × ((List D_Activity) × (D_Project × (D_Domain × (D_Domain × Unit)))))) → Option (Out (Int × (Int × ((List D_Activity) × (D_Project × (D_Domain × (D_Domain × Unit)))))) ((Bool × (Int × (Int × ((List D_Activity) × (D_Project × (D_Domain × (D_Domain × Unit))))))) ⊕ Empty) (D_Domain × Unit)) :=
  (fun v0 => (if (ltZ v0.1 v0.2.1) = true then (Option.bind (getI v0.2.2.1 v0.1) fun v1 => (Option.bind (addI v0.2.2.2.2.1.1 (0 :: [])) fun v2 => (Option.bind (addI v0.2.2.2.2.1.2.1 ((subZ .i64 v0.2.2.2.1.1 1) :: [])) fun v3 => (Option.bind ((Option.bind (spec_ModeIndexes (v1, ()) ()) fun v4 => (some v4.1)) : (Option (List Int))) fun v5 => (Option.bind (addI v0.2.2.2.2.1.2.2.1 (v5 :: [])) fun v6 => (some (Out.norm ((addZ .i64 v0.1 1), (v0.2.1, (v0.2.2.1, (v0.2.2.2.1, ((v2, (v3, (v6, v0.2.2.2.2.1.2.2.2))), (v0.2.2.2.2.2.1, ()))))))))))))) else (some (Out.exit (Sum.inl ((ltZ v0.1 v0.2.1), (v0.1, (v0.2.1, (v0.2.2.1, (v0.2.2.2.1, (v0.2.2.2.2.1, (v0.2.2.2.2.2.1, ()))))))))))))
def spec_l12Of (x : (D_Project × Unit)) (c : Unit) : (Option (D_Domain × Unit)) :=
  (Option.bind (loopN (A := (Int × (Int × ((List D_Activity) × (D_Project × (D_Domain × (D_Domain × Unit))))))) big spec_l12Of_L0 (0, ((lenI x.1.2.1), (x.1.2.1, (x.1, (([], ([], ([], ()))), (([], ([], ([], ()))), ()))))))) fun v7 => (match v7 with | Out.norm v8 => none | Out.exit v9 => (match ((match v9 with | Sum.inl v12 => (Sum.inl (v12.2.2.2.2.2.1, (v12.2.2.2.2.2.2.1, ()))) | Sum.inr v13 => (Empty.elim v13)) : ((D_Domain × (D_Domain × Unit)) ⊕ Empty)) with | Sum.inl v10 => (some (v10.1, ())) | Sum.inr v11 => none) | Out.ret v14 => (some v14)))
def H_spec_l12Of : Hd := ⟨[.st [.int .i64, .sl 165 (.st [.str, .int .i64, .sl 167 (.st [.int .i64, .sl 3 (.int .i64), .sl 3 (.int .i64)])]), .sl 190 (.st [.int .i64, .int .i64, .bool, .int .i64]), .sl 187 (.st [.sl 210 (.st [.int .i64, .int .i64]), .sl 25 (.sl 3 (.int .i64))]), .sl 3 (.int .i64)]], [], none, .p, .st [.sl 3 (.int .i64), .sl 3 (.int .i64), .sl 25 (.sl 3 (.int .i64))], (Ty.all (.st [.sl 3 (.int .i64), .sl 3 (.int .i64), .sl 25 (.sl 3 (.int .i64))])), []⟩
def T_spec_l12Of : FSig := ⟨H_spec_l12Of.ps, H_spec_l12Of.cs, H_spec_l12Of.io, H_spec_l12Of.im, H_spec_l12Of.R, H_spec_l12Of.m, spec_l12Of⟩
theorem E_spec_l12Of : fnOf tys [(157, T_spec_ModeIndexes)] Tryz.f76 H_spec_l12Of = T_spec_l12Of := by kernel_rfl
theorem K_spec_l12Of : SigOk Tryz.prog 76 T_spec_l12Of := (congrArg (SigOk Tryz.prog 76) E_spec_l12Of).mp (fnOf_ok rfl tysOk ⟨K_spec_ModeIndexes, trivial⟩ Tryz.func76 (by decide) rfl (fun _ h => by cases h) (nilEq_of (by kernel_rfl)))
def spec_NegatedDomain (x : (D_Project × ((List D_Literal) × Unit))) (c : Unit) : (Option (D_Domain × Unit)) :=
  (Option.bind ((Option.bind (spec_ProjectOk (x.1, ()) ()) fun v0 => (some v0.1)) : (Option Bool)) fun v1 => (if (notB v1) = true then (some (([], ([], ([], ()))), ())) else (Option.bind ((Option.bind (spec_l12Of (x.1, ()) ()) fun v2 => (some v2.1)) : (Option D_Domain)) fun v3 => (Option.bind ((Option.bind (spec_l13Against (v3, (x.2.1, ())) ()) fun v4 => (some v4.1)) : (Option D_Domain)) fun v5 => (some (v5, ()))))))
def H_spec_NegatedDomain : Hd := ⟨[.st [.int .i64, .sl 165 (.st [.str, .int .i64, .sl 167 (.st [.int .i64, .sl 3 (.int .i64), .sl 3 (.int .i64)])]), .sl 190 (.st [.int .i64, .int .i64, .bool, .int .i64]), .sl 187 (.st [.sl 210 (.st [.int .i64, .int .i64]), .sl 25 (.sl 3 (.int .i64))]), .sl 3 (.int .i64)], .sl 120 (.st [.int .i64, .int .i64, .int .i64])], [], none, .p, .st [.sl 3 (.int .i64), .sl 3 (.int .i64), .sl 25 (.sl 3 (.int .i64))], .p, [(1000000010, .p)]⟩
def T_spec_NegatedDomain : FSig := ⟨H_spec_NegatedDomain.ps, H_spec_NegatedDomain.cs, H_spec_NegatedDomain.io, H_spec_NegatedDomain.im, H_spec_NegatedDomain.R, H_spec_NegatedDomain.m, spec_NegatedDomain⟩
theorem E_spec_NegatedDomain : fnOf tys [(74, T_spec_ProjectOk), (75, T_spec_l13Against), (76, T_spec_l12Of)] Tryz.f16 H_spec_NegatedDomain = T_spec_NegatedDomain := by kernel_rfl
theorem K_spec_NegatedDomain : SigOk Tryz.prog 16 T_spec_NegatedDomain := (congrArg (SigOk Tryz.prog 16) E_spec_NegatedDomain).mp (fnOf_ok rfl tysOk ⟨K_spec_ProjectOk, K_spec_l13Against, K_spec_l12Of, trivial⟩ Tryz.func16 (by decide) rfl (fun _ h => by cases h) (nilEq_of (by kernel_rfl)))
end Go.Proofs.YtnkgcbeklohakaaGreat