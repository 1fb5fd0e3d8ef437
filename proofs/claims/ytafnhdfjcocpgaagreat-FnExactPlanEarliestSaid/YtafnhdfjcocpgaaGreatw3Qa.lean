/-
  The functions of this seat as plain Lean functions, and that the program computes them. No condition.
-/
import Derived.Test.YtafnhdfjcocpgaaGreatN36
import Derived.Test.YtafnhdfjcocpgaaGreatProg
import Derived.KernelRfl
namespace Go.Proofs.YtafnhdfjcocpgaaGreat
open Go.Abs
set_option linter.unusedVariables false
set_option maxRecDepth 100000
abbrev D_Mode : Type := (Int × ((List Int) × ((List Int) × Unit)))
abbrev D_Activity : Type := ((List UInt8) × (Int × ((List D_Mode) × Unit)))
abbrev D_Link : Type := (Int × (Int × (Bool × (Int × Unit))))
abbrev D_Step : Type := (Int × (Int × Unit))
abbrev D_Resource : Type := ((List D_Step) × ((List (List Int)) × Unit))
abbrev D_Project : Type := (Int × ((List D_Activity) × ((List D_Link) × ((List D_Resource) × ((List Int) × Unit)))))
abbrev D_Schedule : Type := ((List Int) × ((List Int) × Unit))
abbrev D_Plan : Type := (D_Schedule × ((List Int) × Unit))
abbrev D_Rule : Type := (Int × (Int × D_Step))
theorem tn3 : TnOk Tryz.prog 3 (.int .i64) := ⟨Tryz.underlying3, fun _ h => (by cases h), Tryz.t3, rfl, rfl, fun _ _ => rfl⟩
theorem tn4 : TnOk Tryz.prog 4 (.bool) := ⟨Tryz.underlying4, fun _ h => (by cases h), Tryz.t4, rfl, rfl, fun _ _ => rfl⟩
theorem tn5 : TnOk Tryz.prog 5 (.int .u8) := ⟨Tryz.underlying5, fun _ h => (by cases h), Tryz.t5, rfl, rfl, fun _ _ => rfl⟩
theorem tn9 : TnOk Tryz.prog 9 (.str) := ⟨Tryz.underlying9, fun _ h => (by cases h), Tryz.t9, rfl, rfl, fun _ _ => rfl⟩
theorem tn22 : TnOk Tryz.prog 22 (.sl 150 (.st [.str, .int .i64, .sl 242 (.st [.int .i64, .sl 3 (.int .i64), .sl 3 (.int .i64)])])) := ⟨⟨Tryz.underlying22, Tryz.t150, _, rfl, rfl, rfl, rfl, by decide, by decide, fun _ _ => rfl, fun k h => by cases h⟩, fun _ h => (by cases h), Tryz.t22, rfl, rfl, fun _ _ => rfl⟩
theorem tn23 : TnOk Tryz.prog 23 (.sl 166 (.st [.int .i64, .int .i64, .bool, .int .i64])) := ⟨⟨Tryz.underlying23, Tryz.t166, _, rfl, rfl, rfl, rfl, by decide, by decide, fun _ _ => rfl, fun k h => by cases h⟩, fun _ h => (by cases h), Tryz.t23, rfl, rfl, fun _ _ => rfl⟩
theorem tn24 : TnOk Tryz.prog 24 (.sl 154 (.st [.sl 247 (.st [.int .i64, .int .i64]), .sl 25 (.sl 3 (.int .i64))])) := ⟨⟨Tryz.underlying24, Tryz.t154, _, rfl, rfl, rfl, rfl, by decide, by decide, fun _ _ => rfl, fun k h => by cases h⟩, fun _ h => (by cases h), Tryz.t24, rfl, rfl, fun _ _ => rfl⟩
theorem tn25 : TnOk Tryz.prog 25 (.sl 3 (.int .i64)) := ⟨⟨Tryz.underlying25, Tryz.t3, _, rfl, rfl, rfl, rfl, by decide, by decide, fun _ _ => rfl, fun k h => by cases h; exact Tryz.underlying3⟩, fun _ h => (by cases h), Tryz.t25, rfl, rfl, fun _ _ => rfl⟩
theorem tn26 : TnOk Tryz.prog 26 (.st [.int .i64, .sl 150 (.st [.str, .int .i64, .sl 242 (.st [.int .i64, .sl 3 (.int .i64), .sl 3 (.int .i64)])]), .sl 166 (.st [.int .i64, .int .i64, .bool, .int .i64]), .sl 154 (.st [.sl 247 (.st [.int .i64, .int .i64]), .sl 25 (.sl 3 (.int .i64))]), .sl 3 (.int .i64)]) := ⟨⟨_, Tryz.underlying26, Tryz.eqGuardType26, Tryz.stoodInHeld26, rfl, fun j τ h => by
    cases j with
    | zero => cases h; exact ⟨_, _, rfl, rfl, by decide, by decide, Tryz.underlying3, rfl, fun us h => by cases h⟩
    | succ j =>
     cases j with
     | zero => cases h; exact ⟨_, _, rfl, rfl, by decide, by decide, Tryz.underlying22, rfl, fun us h => by cases h⟩
     | succ j =>
      cases j with
      | zero => cases h; exact ⟨_, _, rfl, rfl, by decide, by decide, Tryz.underlying23, rfl, fun us h => by cases h⟩
      | succ j =>
       cases j with
       | zero => cases h; exact ⟨_, _, rfl, rfl, by decide, by decide, Tryz.underlying24, rfl, fun us h => by cases h⟩
       | succ j =>
        cases j with
        | zero => cases h; exact ⟨_, _, rfl, rfl, by decide, by decide, Tryz.underlying25, rfl, fun us h => by cases h⟩
        | succ j =>
         cases h⟩, (fun us hus fs hfs j τ h f hf => by
    cases hus
    rw [Tryz.underlying26] at hfs
    cases hfs
    cases j with
    | zero => cases h; cases hf; exact ⟨fun k e => by cases e; exact Tryz.underlying3, fun e => (by cases e), fun e => (by cases e)⟩
    | succ j =>
     cases j with
     | zero => cases h; cases hf; exact ⟨fun k e => (by cases e), fun e => (by cases e), fun e => (by cases e)⟩
     | succ j =>
      cases j with
      | zero => cases h; cases hf; exact ⟨fun k e => (by cases e), fun e => (by cases e), fun e => (by cases e)⟩
      | succ j =>
       cases j with
       | zero => cases h; cases hf; exact ⟨fun k e => (by cases e), fun e => (by cases e), fun e => (by cases e)⟩
       | succ j =>
        cases j with
        | zero => cases h; cases hf; exact ⟨fun k e => (by cases e), fun e => (by cases e), fun e => (by cases e)⟩
        | succ j =>
         cases h), Tryz.t26, rfl, rfl, fun _ _ => rfl⟩
theorem tn27 : TnOk Tryz.prog 27 (.st [.int .i64, .sl 150 (.st [.str, .int .i64, .sl 242 (.st [.int .i64, .sl 3 (.int .i64), .sl 3 (.int .i64)])]), .sl 166 (.st [.int .i64, .int .i64, .bool, .int .i64]), .sl 154 (.st [.sl 247 (.st [.int .i64, .int .i64]), .sl 25 (.sl 3 (.int .i64))]), .sl 3 (.int .i64)]) := ⟨⟨_, Tryz.underlying27, Tryz.eqGuardType27, Tryz.stoodInHeld27, rfl, fun j τ h => by
    cases j with
    | zero => cases h; exact ⟨_, _, rfl, rfl, by decide, by decide, Tryz.underlying3, rfl, fun us h => by cases h⟩
    | succ j =>
     cases j with
     | zero => cases h; exact ⟨_, _, rfl, rfl, by decide, by decide, Tryz.underlying22, rfl, fun us h => by cases h⟩
     | succ j =>
      cases j with
      | zero => cases h; exact ⟨_, _, rfl, rfl, by decide, by decide, Tryz.underlying23, rfl, fun us h => by cases h⟩
      | succ j =>
       cases j with
       | zero => cases h; exact ⟨_, _, rfl, rfl, by decide, by decide, Tryz.underlying24, rfl, fun us h => by cases h⟩
       | succ j =>
        cases j with
        | zero => cases h; exact ⟨_, _, rfl, rfl, by decide, by decide, Tryz.underlying25, rfl, fun us h => by cases h⟩
        | succ j =>
         cases h⟩, (fun us hus fs hfs j τ h f hf => by
    cases hus
    rw [Tryz.underlying27] at hfs
    cases hfs
    cases j with
    | zero => cases h; cases hf; exact ⟨fun k e => by cases e; exact Tryz.underlying3, fun e => (by cases e), fun e => (by cases e)⟩
    | succ j =>
     cases j with
     | zero => cases h; cases hf; exact ⟨fun k e => (by cases e), fun e => (by cases e), fun e => (by cases e)⟩
     | succ j =>
      cases j with
      | zero => cases h; cases hf; exact ⟨fun k e => (by cases e), fun e => (by cases e), fun e => (by cases e)⟩
      | succ j =>
       cases j with
       | zero => cases h; cases hf; exact ⟨fun k e => (by cases e), fun e => (by cases e), fun e => (by cases e)⟩
       | succ j =>
        cases j with
        | zero => cases h; cases hf; exact ⟨fun k e => (by cases e), fun e => (by cases e), fun e => (by cases e)⟩
        | succ j =>
         cases h), Tryz.t27, rfl, rfl, fun _ _ => rfl⟩
theorem tn28 : TnOk Tryz.prog 28 (.st [.sl 3 (.int .i64), .sl 3 (.int .i64)]) := ⟨⟨_, Tryz.underlying28, Tryz.eqGuardType28, Tryz.stoodInHeld28, rfl, fun j τ h => by
    cases j with
    | zero => cases h; exact ⟨_, _, rfl, rfl, by decide, by decide, Tryz.underlying25, rfl, fun us h => by cases h⟩
    | succ j =>
     cases j with
     | zero => cases h; exact ⟨_, _, rfl, rfl, by decide, by decide, Tryz.underlying25, rfl, fun us h => by cases h⟩
     | succ j =>
      cases h⟩, (fun us hus fs hfs j τ h f hf => by
    cases hus
    rw [Tryz.underlying28] at hfs
    cases hfs
    cases j with
    | zero => cases h; cases hf; exact ⟨fun k e => (by cases e), fun e => (by cases e), fun e => (by cases e)⟩
    | succ j =>
     cases j with
     | zero => cases h; cases hf; exact ⟨fun k e => (by cases e), fun e => (by cases e), fun e => (by cases e)⟩
     | succ j =>
      cases h), Tryz.t28, rfl, rfl, fun _ _ => rfl⟩
theorem tn29 : TnOk Tryz.prog 29 (.st [.sl 3 (.int .i64), .sl 3 (.int .i64)]) := ⟨⟨_, Tryz.underlying29, Tryz.eqGuardType29, Tryz.stoodInHeld29, rfl, fun j τ h => by
    cases j with
    | zero => cases h; exact ⟨_, _, rfl, rfl, by decide, by decide, Tryz.underlying25, rfl, fun us h => by cases h⟩
    | succ j =>
     cases j with
     | zero => cases h; exact ⟨_, _, rfl, rfl, by decide, by decide, Tryz.underlying25, rfl, fun us h => by cases h⟩
     | succ j =>
      cases h⟩, (fun us hus fs hfs j τ h f hf => by
    cases hus
    rw [Tryz.underlying29] at hfs
    cases hfs
    cases j with
    | zero => cases h; cases hf; exact ⟨fun k e => (by cases e), fun e => (by cases e), fun e => (by cases e)⟩
    | succ j =>
     cases j with
     | zero => cases h; cases hf; exact ⟨fun k e => (by cases e), fun e => (by cases e), fun e => (by cases e)⟩
     | succ j =>
      cases h), Tryz.t29, rfl, rfl, fun _ _ => rfl⟩
theorem tn30 : TnOk Tryz.prog 30 (.st [.st [.sl 3 (.int .i64), .sl 3 (.int .i64)], .sl 3 (.int .i64)]) := ⟨⟨_, Tryz.underlying30, Tryz.eqGuardType30, Tryz.stoodInHeld30, rfl, fun j τ h => by
    cases j with
    | zero => cases h; exact ⟨_, _, rfl, rfl, by decide, by decide, Tryz.underlying29, rfl, ⟨_, rfl⟩⟩
    | succ j =>
     cases j with
     | zero => cases h; exact ⟨_, _, rfl, rfl, by decide, by decide, Tryz.underlying25, rfl, fun us h => by cases h⟩
     | succ j =>
      cases h⟩, (fun us hus fs hfs j τ h f hf => by
    cases hus
    rw [Tryz.underlying30] at hfs
    cases hfs
    cases j with
    | zero => cases h; cases hf; exact ⟨fun k e => (by cases e), fun e => (by cases e), fun e => (by cases e)⟩
    | succ j =>
     cases j with
     | zero => cases h; cases hf; exact ⟨fun k e => (by cases e), fun e => (by cases e), fun e => (by cases e)⟩
     | succ j =>
      cases h), Tryz.t30, rfl, rfl, fun _ _ => rfl⟩
theorem tn31 : TnOk Tryz.prog 31 (.st [.st [.sl 3 (.int .i64), .sl 3 (.int .i64)], .sl 3 (.int .i64)]) := ⟨⟨_, Tryz.underlying31, Tryz.eqGuardType31, Tryz.stoodInHeld31, rfl, fun j τ h => by
    cases j with
    | zero => cases h; exact ⟨_, _, rfl, rfl, by decide, by decide, Tryz.underlying29, rfl, ⟨_, rfl⟩⟩
    | succ j =>
     cases j with
     | zero => cases h; exact ⟨_, _, rfl, rfl, by decide, by decide, Tryz.underlying25, rfl, fun us h => by cases h⟩
     | succ j =>
      cases h⟩, (fun us hus fs hfs j τ h f hf => by
    cases hus
    rw [Tryz.underlying31] at hfs
    cases hfs
    cases j with
    | zero => cases h; cases hf; exact ⟨fun k e => (by cases e), fun e => (by cases e), fun e => (by cases e)⟩
    | succ j =>
     cases j with
     | zero => cases h; cases hf; exact ⟨fun k e => (by cases e), fun e => (by cases e), fun e => (by cases e)⟩
     | succ j =>
      cases h), Tryz.t31, rfl, rfl, fun _ _ => rfl⟩
theorem tn32 : TnOk Tryz.prog 32 (.fn [.st [.int .i64, .sl 150 (.st [.str, .int .i64, .sl 242 (.st [.int .i64, .sl 3 (.int .i64), .sl 3 (.int .i64)])]), .sl 166 (.st [.int .i64, .int .i64, .bool, .int .i64]), .sl 154 (.st [.sl 247 (.st [.int .i64, .int .i64]), .sl 25 (.sl 3 (.int .i64))]), .sl 3 (.int .i64)], .int .i64] (.int .i64)) := ⟨⟨_, _, _, Tryz.underlying32⟩, fun _ h => (by cases h), Tryz.t32, rfl, rfl, fun _ h => by cases h⟩
theorem tn33 : TnOk Tryz.prog 33 (.fn [.st [.st [.sl 3 (.int .i64), .sl 3 (.int .i64)], .sl 3 (.int .i64)], .int .i64] (.int .i64)) := ⟨⟨_, _, _, Tryz.underlying33⟩, fun _ h => (by cases h), Tryz.t33, rfl, rfl, fun _ h => by cases h⟩
theorem tn35 : TnOk Tryz.prog 35 (.fn [.st [.int .i64, .sl 159 (.st [.str, .int .i64, .sl 172 (.st [.int .i64, .sl 3 (.int .i64), .sl 3 (.int .i64)])]), .sl 164 (.st [.int .i64, .int .i64, .bool, .int .i64]), .sl 169 (.st [.sl 228 (.st [.int .i64, .int .i64]), .sl 25 (.sl 3 (.int .i64))]), .sl 3 (.int .i64)], .st [.st [.sl 3 (.int .i64), .sl 3 (.int .i64)], .sl 3 (.int .i64)], .int .i64, .int .i64, .int .i64] (.tup [.int .i64, .bool])) := ⟨⟨_, _, _, Tryz.underlying35⟩, fun _ h => (by cases h), Tryz.t35, rfl, rfl, fun _ h => by cases h⟩
theorem tn36 : TnOk Tryz.prog 36 (.sl 159 (.st [.str, .int .i64, .sl 172 (.st [.int .i64, .sl 3 (.int .i64), .sl 3 (.int .i64)])])) := ⟨⟨Tryz.underlying36, Tryz.t159, _, rfl, rfl, rfl, rfl, by decide, by decide, fun _ _ => rfl, fun k h => by cases h⟩, fun _ h => (by cases h), Tryz.t36, rfl, rfl, fun _ _ => rfl⟩
theorem tn37 : TnOk Tryz.prog 37 (.sl 164 (.st [.int .i64, .int .i64, .bool, .int .i64])) := ⟨⟨Tryz.underlying37, Tryz.t164, _, rfl, rfl, rfl, rfl, by decide, by decide, fun _ _ => rfl, fun k h => by cases h⟩, fun _ h => (by cases h), Tryz.t37, rfl, rfl, fun _ _ => rfl⟩
theorem tn38 : TnOk Tryz.prog 38 (.sl 169 (.st [.sl 228 (.st [.int .i64, .int .i64]), .sl 25 (.sl 3 (.int .i64))])) := ⟨⟨Tryz.underlying38, Tryz.t169, _, rfl, rfl, rfl, rfl, by decide, by decide, fun _ _ => rfl, fun k h => by cases h⟩, fun _ h => (by cases h), Tryz.t38, rfl, rfl, fun _ _ => rfl⟩
theorem tn39 : TnOk Tryz.prog 39 (.st [.int .i64, .sl 159 (.st [.str, .int .i64, .sl 172 (.st [.int .i64, .sl 3 (.int .i64), .sl 3 (.int .i64)])]), .sl 164 (.st [.int .i64, .int .i64, .bool, .int .i64]), .sl 169 (.st [.sl 228 (.st [.int .i64, .int .i64]), .sl 25 (.sl 3 (.int .i64))]), .sl 3 (.int .i64)]) := ⟨⟨_, Tryz.underlying39, Tryz.eqGuardType39, Tryz.stoodInHeld39, rfl, fun j τ h => by
    cases j with
    | zero => cases h; exact ⟨_, _, rfl, rfl, by decide, by decide, Tryz.underlying3, rfl, fun us h => by cases h⟩
    | succ j =>
     cases j with
     | zero => cases h; exact ⟨_, _, rfl, rfl, by decide, by decide, Tryz.underlying36, rfl, fun us h => by cases h⟩
     | succ j =>
      cases j with
      | zero => cases h; exact ⟨_, _, rfl, rfl, by decide, by decide, Tryz.underlying37, rfl, fun us h => by cases h⟩
      | succ j =>
       cases j with
       | zero => cases h; exact ⟨_, _, rfl, rfl, by decide, by decide, Tryz.underlying38, rfl, fun us h => by cases h⟩
       | succ j =>
        cases j with
        | zero => cases h; exact ⟨_, _, rfl, rfl, by decide, by decide, Tryz.underlying25, rfl, fun us h => by cases h⟩
        | succ j =>
         cases h⟩, (fun us hus fs hfs j τ h f hf => by
    cases hus
    rw [Tryz.underlying39] at hfs
    cases hfs
    cases j with
    | zero => cases h; cases hf; exact ⟨fun k e => by cases e; exact Tryz.underlying3, fun e => (by cases e), fun e => (by cases e)⟩
    | succ j =>
     cases j with
     | zero => cases h; cases hf; exact ⟨fun k e => (by cases e), fun e => (by cases e), fun e => (by cases e)⟩
     | succ j =>
      cases j with
      | zero => cases h; cases hf; exact ⟨fun k e => (by cases e), fun e => (by cases e), fun e => (by cases e)⟩
      | succ j =>
       cases j with
       | zero => cases h; cases hf; exact ⟨fun k e => (by cases e), fun e => (by cases e), fun e => (by cases e)⟩
       | succ j =>
        cases j with
        | zero => cases h; cases hf; exact ⟨fun k e => (by cases e), fun e => (by cases e), fun e => (by cases e)⟩
        | succ j =>
         cases h), Tryz.t39, rfl, rfl, fun _ _ => rfl⟩
theorem tn40 : TnOk Tryz.prog 40 (.st [.int .i64, .sl 159 (.st [.str, .int .i64, .sl 172 (.st [.int .i64, .sl 3 (.int .i64), .sl 3 (.int .i64)])]), .sl 164 (.st [.int .i64, .int .i64, .bool, .int .i64]), .sl 169 (.st [.sl 228 (.st [.int .i64, .int .i64]), .sl 25 (.sl 3 (.int .i64))]), .sl 3 (.int .i64)]) := ⟨⟨_, Tryz.underlying40, Tryz.eqGuardType40, Tryz.stoodInHeld40, rfl, fun j τ h => by
    cases j with
    | zero => cases h; exact ⟨_, _, rfl, rfl, by decide, by decide, Tryz.underlying3, rfl, fun us h => by cases h⟩
    | succ j =>
     cases j with
     | zero => cases h; exact ⟨_, _, rfl, rfl, by decide, by decide, Tryz.underlying36, rfl, fun us h => by cases h⟩
     | succ j =>
      cases j with
      | zero => cases h; exact ⟨_, _, rfl, rfl, by decide, by decide, Tryz.underlying37, rfl, fun us h => by cases h⟩
      | succ j =>
       cases j with
       | zero => cases h; exact ⟨_, _, rfl, rfl, by decide, by decide, Tryz.underlying38, rfl, fun us h => by cases h⟩
       | succ j =>
        cases j with
        | zero => cases h; exact ⟨_, _, rfl, rfl, by decide, by decide, Tryz.underlying25, rfl, fun us h => by cases h⟩
        | succ j =>
         cases h⟩, (fun us hus fs hfs j τ h f hf => by
    cases hus
    rw [Tryz.underlying40] at hfs
    cases hfs
    cases j with
    | zero => cases h; cases hf; exact ⟨fun k e => by cases e; exact Tryz.underlying3, fun e => (by cases e), fun e => (by cases e)⟩
    | succ j =>
     cases j with
     | zero => cases h; cases hf; exact ⟨fun k e => (by cases e), fun e => (by cases e), fun e => (by cases e)⟩
     | succ j =>
      cases j with
      | zero => cases h; cases hf; exact ⟨fun k e => (by cases e), fun e => (by cases e), fun e => (by cases e)⟩
      | succ j =>
       cases j with
       | zero => cases h; cases hf; exact ⟨fun k e => (by cases e), fun e => (by cases e), fun e => (by cases e)⟩
       | succ j =>
        cases j with
        | zero => cases h; cases hf; exact ⟨fun k e => (by cases e), fun e => (by cases e), fun e => (by cases e)⟩
        | succ j =>
         cases h), Tryz.t40, rfl, rfl, fun _ _ => rfl⟩
theorem tn41 : TnOk Tryz.prog 41 (.fn [.st [.int .i64, .sl 150 (.st [.str, .int .i64, .sl 242 (.st [.int .i64, .sl 3 (.int .i64), .sl 3 (.int .i64)])]), .sl 166 (.st [.int .i64, .int .i64, .bool, .int .i64]), .sl 154 (.st [.sl 247 (.st [.int .i64, .int .i64]), .sl 25 (.sl 3 (.int .i64))]), .sl 3 (.int .i64)]] (.st [.int .i64, .sl 159 (.st [.str, .int .i64, .sl 172 (.st [.int .i64, .sl 3 (.int .i64), .sl 3 (.int .i64)])]), .sl 164 (.st [.int .i64, .int .i64, .bool, .int .i64]), .sl 169 (.st [.sl 228 (.st [.int .i64, .int .i64]), .sl 25 (.sl 3 (.int .i64))]), .sl 3 (.int .i64)])) := ⟨⟨_, _, _, Tryz.underlying41⟩, fun _ h => (by cases h), Tryz.t41, rfl, rfl, fun _ h => by cases h⟩
theorem tn42 : TnOk Tryz.prog 42 (.st [.sl 3 (.int .i64), .sl 3 (.int .i64)]) := ⟨⟨_, Tryz.underlying42, Tryz.eqGuardType42, Tryz.stoodInHeld42, rfl, fun j τ h => by
    cases j with
    | zero => cases h; exact ⟨_, _, rfl, rfl, by decide, by decide, Tryz.underlying25, rfl, fun us h => by cases h⟩
    | succ j =>
     cases j with
     | zero => cases h; exact ⟨_, _, rfl, rfl, by decide, by decide, Tryz.underlying25, rfl, fun us h => by cases h⟩
     | succ j =>
      cases h⟩, (fun us hus fs hfs j τ h f hf => by
    cases hus
    rw [Tryz.underlying42] at hfs
    cases hfs
    cases j with
    | zero => cases h; cases hf; exact ⟨fun k e => (by cases e), fun e => (by cases e), fun e => (by cases e)⟩
    | succ j =>
     cases j with
     | zero => cases h; cases hf; exact ⟨fun k e => (by cases e), fun e => (by cases e), fun e => (by cases e)⟩
     | succ j =>
      cases h), Tryz.t42, rfl, rfl, fun _ _ => rfl⟩
theorem tn43 : TnOk Tryz.prog 43 (.st [.st [.sl 3 (.int .i64), .sl 3 (.int .i64)], .sl 3 (.int .i64)]) := ⟨⟨_, Tryz.underlying43, Tryz.eqGuardType43, Tryz.stoodInHeld43, rfl, fun j τ h => by
    cases j with
    | zero => cases h; exact ⟨_, _, rfl, rfl, by decide, by decide, Tryz.underlying42, rfl, ⟨_, rfl⟩⟩
    | succ j =>
     cases j with
     | zero => cases h; exact ⟨_, _, rfl, rfl, by decide, by decide, Tryz.underlying25, rfl, fun us h => by cases h⟩
     | succ j =>
      cases h⟩, (fun us hus fs hfs j τ h f hf => by
    cases hus
    rw [Tryz.underlying43] at hfs
    cases hfs
    cases j with
    | zero => cases h; cases hf; exact ⟨fun k e => (by cases e), fun e => (by cases e), fun e => (by cases e)⟩
    | succ j =>
     cases j with
     | zero => cases h; cases hf; exact ⟨fun k e => (by cases e), fun e => (by cases e), fun e => (by cases e)⟩
     | succ j =>
      cases h), Tryz.t43, rfl, rfl, fun _ _ => rfl⟩
theorem tn44 : TnOk Tryz.prog 44 (.st [.st [.sl 3 (.int .i64), .sl 3 (.int .i64)], .sl 3 (.int .i64)]) := ⟨⟨_, Tryz.underlying44, Tryz.eqGuardType44, Tryz.stoodInHeld44, rfl, fun j τ h => by
    cases j with
    | zero => cases h; exact ⟨_, _, rfl, rfl, by decide, by decide, Tryz.underlying42, rfl, ⟨_, rfl⟩⟩
    | succ j =>
     cases j with
     | zero => cases h; exact ⟨_, _, rfl, rfl, by decide, by decide, Tryz.underlying25, rfl, fun us h => by cases h⟩
     | succ j =>
      cases h⟩, (fun us hus fs hfs j τ h f hf => by
    cases hus
    rw [Tryz.underlying44] at hfs
    cases hfs
    cases j with
    | zero => cases h; cases hf; exact ⟨fun k e => (by cases e), fun e => (by cases e), fun e => (by cases e)⟩
    | succ j =>
     cases j with
     | zero => cases h; cases hf; exact ⟨fun k e => (by cases e), fun e => (by cases e), fun e => (by cases e)⟩
     | succ j =>
      cases h), Tryz.t44, rfl, rfl, fun _ _ => rfl⟩
theorem tn45 : TnOk Tryz.prog 45 (.fn [.st [.st [.sl 3 (.int .i64), .sl 3 (.int .i64)], .sl 3 (.int .i64)]] (.st [.st [.sl 3 (.int .i64), .sl 3 (.int .i64)], .sl 3 (.int .i64)])) := ⟨⟨_, _, _, Tryz.underlying45⟩, fun _ h => (by cases h), Tryz.t45, rfl, rfl, fun _ h => by cases h⟩
theorem tn46 : TnOk Tryz.prog 46 (.fn [.st [.int .i64, .sl 159 (.st [.str, .int .i64, .sl 172 (.st [.int .i64, .sl 3 (.int .i64), .sl 3 (.int .i64)])]), .sl 164 (.st [.int .i64, .int .i64, .bool, .int .i64]), .sl 169 (.st [.sl 228 (.st [.int .i64, .int .i64]), .sl 25 (.sl 3 (.int .i64))]), .sl 3 (.int .i64)], .st [.int .i64, .sl 159 (.st [.str, .int .i64, .sl 172 (.st [.int .i64, .sl 3 (.int .i64), .sl 3 (.int .i64)])]), .sl 164 (.st [.int .i64, .int .i64, .bool, .int .i64]), .sl 169 (.st [.sl 228 (.st [.int .i64, .int .i64]), .sl 25 (.sl 3 (.int .i64))]), .sl 3 (.int .i64)]] (.bool)) := ⟨⟨_, _, _, Tryz.underlying46⟩, fun _ h => (by cases h), Tryz.t46, rfl, rfl, fun _ h => by cases h⟩
theorem tn47 : TnOk Tryz.prog 47 (.fn [.st [.st [.sl 3 (.int .i64), .sl 3 (.int .i64)], .sl 3 (.int .i64)], .st [.st [.sl 3 (.int .i64), .sl 3 (.int .i64)], .sl 3 (.int .i64)]] (.bool)) := ⟨⟨_, _, _, Tryz.underlying47⟩, fun _ h => (by cases h), Tryz.t47, rfl, rfl, fun _ h => by cases h⟩
theorem tn48 : TnOk Tryz.prog 48 (.fn [.st [.int .i64, .sl 150 (.st [.str, .int .i64, .sl 242 (.st [.int .i64, .sl 3 (.int .i64), .sl 3 (.int .i64)])]), .sl 166 (.st [.int .i64, .int .i64, .bool, .int .i64]), .sl 154 (.st [.sl 247 (.st [.int .i64, .int .i64]), .sl 25 (.sl 3 (.int .i64))]), .sl 3 (.int .i64)], .st [.st [.sl 3 (.int .i64), .sl 3 (.int .i64)], .sl 3 (.int .i64)], .int .i64, .int .i64, .int .i64] (.bool)) := ⟨⟨_, _, _, Tryz.underlying48⟩, fun _ h => (by cases h), Tryz.t48, rfl, rfl, fun _ h => by cases h⟩
theorem tn49 : TnOk Tryz.prog 49 (.st [.int .i64, .int .i64, .int .i64, .int .i64]) := ⟨⟨_, Tryz.underlying49, Tryz.eqGuardType49, Tryz.stoodInHeld49, rfl, fun j τ h => by
    cases j with
    | zero => cases h; exact ⟨_, _, rfl, rfl, by decide, by decide, Tryz.underlying3, rfl, fun us h => by cases h⟩
    | succ j =>
     cases j with
     | zero => cases h; exact ⟨_, _, rfl, rfl, by decide, by decide, Tryz.underlying3, rfl, fun us h => by cases h⟩
     | succ j =>
      cases j with
      | zero => cases h; exact ⟨_, _, rfl, rfl, by decide, by decide, Tryz.underlying3, rfl, fun us h => by cases h⟩
      | succ j =>
       cases j with
       | zero => cases h; exact ⟨_, _, rfl, rfl, by decide, by decide, Tryz.underlying3, rfl, fun us h => by cases h⟩
       | succ j =>
        cases h⟩, (fun us hus fs hfs j τ h f hf => by
    cases hus
    rw [Tryz.underlying49] at hfs
    cases hfs
    cases j with
    | zero => cases h; cases hf; exact ⟨fun k e => by cases e; exact Tryz.underlying3, fun e => (by cases e), fun e => (by cases e)⟩
    | succ j =>
     cases j with
     | zero => cases h; cases hf; exact ⟨fun k e => by cases e; exact Tryz.underlying3, fun e => (by cases e), fun e => (by cases e)⟩
     | succ j =>
      cases j with
      | zero => cases h; cases hf; exact ⟨fun k e => by cases e; exact Tryz.underlying3, fun e => (by cases e), fun e => (by cases e)⟩
      | succ j =>
       cases j with
       | zero => cases h; cases hf; exact ⟨fun k e => by cases e; exact Tryz.underlying3, fun e => (by cases e), fun e => (by cases e)⟩
       | succ j =>
        cases h), Tryz.t49, rfl, rfl, fun _ _ => rfl⟩
theorem tn54 : TnOk Tryz.prog 54 (.st [.int .i64, .int .i64, .int .i64, .int .i64]) := ⟨⟨_, Tryz.underlying54, Tryz.eqGuardType54, Tryz.stoodInHeld54, rfl, fun j τ h => by
    cases j with
    | zero => cases h; exact ⟨_, _, rfl, rfl, by decide, by decide, Tryz.underlying3, rfl, fun us h => by cases h⟩
    | succ j =>
     cases j with
     | zero => cases h; exact ⟨_, _, rfl, rfl, by decide, by decide, Tryz.underlying3, rfl, fun us h => by cases h⟩
     | succ j =>
      cases j with
      | zero => cases h; exact ⟨_, _, rfl, rfl, by decide, by decide, Tryz.underlying3, rfl, fun us h => by cases h⟩
      | succ j =>
       cases j with
       | zero => cases h; exact ⟨_, _, rfl, rfl, by decide, by decide, Tryz.underlying3, rfl, fun us h => by cases h⟩
       | succ j =>
        cases h⟩, (fun us hus fs hfs j τ h f hf => by
    cases hus
    rw [Tryz.underlying54] at hfs
    cases hfs
    cases j with
    | zero => cases h; cases hf; exact ⟨fun k e => by cases e; exact Tryz.underlying3, fun e => (by cases e), fun e => (by cases e)⟩
    | succ j =>
     cases j with
     | zero => cases h; cases hf; exact ⟨fun k e => by cases e; exact Tryz.underlying3, fun e => (by cases e), fun e => (by cases e)⟩
     | succ j =>
      cases j with
      | zero => cases h; cases hf; exact ⟨fun k e => by cases e; exact Tryz.underlying3, fun e => (by cases e), fun e => (by cases e)⟩
      | succ j =>
       cases j with
       | zero => cases h; cases hf; exact ⟨fun k e => by cases e; exact Tryz.underlying3, fun e => (by cases e), fun e => (by cases e)⟩
       | succ j =>
        cases h), Tryz.t54, rfl, rfl, fun _ _ => rfl⟩
theorem tn64 : TnOk Tryz.prog 64 (.fn [.st [.sl 3 (.int .i64), .sl 3 (.int .i64)], .int .i64] (.int .i64)) := ⟨⟨_, _, _, Tryz.underlying64⟩, fun _ h => (by cases h), Tryz.t64, rfl, rfl, fun _ h => by cases h⟩
theorem tn67 : TnOk Tryz.prog 67 (.fn [.st [.sl 3 (.int .i64), .sl 3 (.int .i64)]] (.st [.sl 3 (.int .i64), .sl 3 (.int .i64)])) := ⟨⟨_, _, _, Tryz.underlying67⟩, fun _ h => (by cases h), Tryz.t67, rfl, rfl, fun _ h => by cases h⟩
theorem tn68 : TnOk Tryz.prog 68 (.fn [.st [.sl 3 (.int .i64), .sl 3 (.int .i64)], .st [.sl 3 (.int .i64), .sl 3 (.int .i64)]] (.bool)) := ⟨⟨_, _, _, Tryz.underlying68⟩, fun _ h => (by cases h), Tryz.t68, rfl, rfl, fun _ h => by cases h⟩
theorem tn69 : TnOk Tryz.prog 69 (.fn [.st [.sl 3 (.int .i64), .sl 3 (.int .i64)], .int .i64] (.int .i64)) := ⟨⟨_, _, _, Tryz.underlying69⟩, fun _ h => (by cases h), Tryz.t69, rfl, rfl, fun _ h => by cases h⟩
theorem tn74 : TnOk Tryz.prog 74 (.sl 25 (.sl 3 (.int .i64))) := ⟨⟨Tryz.underlying74, Tryz.t25, _, rfl, rfl, rfl, rfl, by decide, by decide, fun _ _ => rfl, fun k h => by cases h⟩, fun _ h => (by cases h), Tryz.t74, rfl, rfl, fun _ _ => rfl⟩
theorem tn92 : TnOk Tryz.prog 92 (.fn [.sl 150 (.st [.str, .int .i64, .sl 242 (.st [.int .i64, .sl 3 (.int .i64), .sl 3 (.int .i64)])]), .int .i64] (.int .i64)) := ⟨⟨_, _, _, Tryz.underlying92⟩, fun _ h => (by cases h), Tryz.t92, rfl, rfl, fun _ h => by cases h⟩
theorem tn93 : TnOk Tryz.prog 93 (.fn [.sl 166 (.st [.int .i64, .int .i64, .bool, .int .i64]), .int .i64] (.int .i64)) := ⟨⟨_, _, _, Tryz.underlying93⟩, fun _ h => (by cases h), Tryz.t93, rfl, rfl, fun _ h => by cases h⟩
theorem tn94 : TnOk Tryz.prog 94 (.fn [.sl 154 (.st [.sl 247 (.st [.int .i64, .int .i64]), .sl 25 (.sl 3 (.int .i64))]), .int .i64] (.int .i64)) := ⟨⟨_, _, _, Tryz.underlying94⟩, fun _ h => (by cases h), Tryz.t94, rfl, rfl, fun _ h => by cases h⟩
theorem tn95 : TnOk Tryz.prog 95 (.fn [.sl 3 (.int .i64), .int .i64] (.int .i64)) := ⟨⟨_, _, _, Tryz.underlying95⟩, fun _ h => (by cases h), Tryz.t95, rfl, rfl, fun _ h => by cases h⟩
theorem tn96 : TnOk Tryz.prog 96 (.fn [.st [.int .i64, .sl 159 (.st [.str, .int .i64, .sl 172 (.st [.int .i64, .sl 3 (.int .i64), .sl 3 (.int .i64)])]), .sl 164 (.st [.int .i64, .int .i64, .bool, .int .i64]), .sl 169 (.st [.sl 228 (.st [.int .i64, .int .i64]), .sl 25 (.sl 3 (.int .i64))]), .sl 3 (.int .i64)], .st [.st [.sl 3 (.int .i64), .sl 3 (.int .i64)], .sl 3 (.int .i64)], .int .i64, .int .i64] (.bool)) := ⟨⟨_, _, _, Tryz.underlying96⟩, fun _ h => (by cases h), Tryz.t96, rfl, rfl, fun _ h => by cases h⟩
theorem tn97 : TnOk Tryz.prog 97 (.fn [.int .i64, .int .i64] (.int .i64)) := ⟨⟨_, _, _, Tryz.underlying97⟩, fun _ h => (by cases h), Tryz.t97, rfl, rfl, fun _ h => by cases h⟩
theorem tn98 : TnOk Tryz.prog 98 (.fn [.st [.int .i64, .sl 159 (.st [.str, .int .i64, .sl 172 (.st [.int .i64, .sl 3 (.int .i64), .sl 3 (.int .i64)])]), .sl 164 (.st [.int .i64, .int .i64, .bool, .int .i64]), .sl 169 (.st [.sl 228 (.st [.int .i64, .int .i64]), .sl 25 (.sl 3 (.int .i64))]), .sl 3 (.int .i64)], .st [.st [.sl 3 (.int .i64), .sl 3 (.int .i64)], .sl 3 (.int .i64)], .int .i64, .int .i64, .int .i64] (.bool)) := ⟨⟨_, _, _, Tryz.underlying98⟩, fun _ h => (by cases h), Tryz.t98, rfl, rfl, fun _ h => by cases h⟩
theorem tn99 : TnOk Tryz.prog 99 (.fn [.sl 150 (.st [.str, .int .i64, .sl 242 (.st [.int .i64, .sl 3 (.int .i64), .sl 3 (.int .i64)])])] (.sl 159 (.st [.str, .int .i64, .sl 172 (.st [.int .i64, .sl 3 (.int .i64), .sl 3 (.int .i64)])]))) := ⟨⟨_, _, _, Tryz.underlying99⟩, fun _ h => (by cases h), Tryz.t99, rfl, rfl, fun _ h => by cases h⟩
theorem tn100 : TnOk Tryz.prog 100 (.fn [.sl 166 (.st [.int .i64, .int .i64, .bool, .int .i64])] (.sl 164 (.st [.int .i64, .int .i64, .bool, .int .i64]))) := ⟨⟨_, _, _, Tryz.underlying100⟩, fun _ h => (by cases h), Tryz.t100, rfl, rfl, fun _ h => by cases h⟩
theorem tn101 : TnOk Tryz.prog 101 (.fn [.sl 154 (.st [.sl 247 (.st [.int .i64, .int .i64]), .sl 25 (.sl 3 (.int .i64))])] (.sl 169 (.st [.sl 228 (.st [.int .i64, .int .i64]), .sl 25 (.sl 3 (.int .i64))]))) := ⟨⟨_, _, _, Tryz.underlying101⟩, fun _ h => (by cases h), Tryz.t101, rfl, rfl, fun _ h => by cases h⟩
theorem tn102 : TnOk Tryz.prog 102 (.fn [.sl 3 (.int .i64)] (.sl 3 (.int .i64))) := ⟨⟨_, _, _, Tryz.underlying102⟩, fun _ h => (by cases h), Tryz.t102, rfl, rfl, fun _ h => by cases h⟩
theorem tn103 : TnOk Tryz.prog 103 (.fn [.sl 159 (.st [.str, .int .i64, .sl 172 (.st [.int .i64, .sl 3 (.int .i64), .sl 3 (.int .i64)])]), .sl 159 (.st [.str, .int .i64, .sl 172 (.st [.int .i64, .sl 3 (.int .i64), .sl 3 (.int .i64)])])] (.bool)) := ⟨⟨_, _, _, Tryz.underlying103⟩, fun _ h => (by cases h), Tryz.t103, rfl, rfl, fun _ h => by cases h⟩
theorem tn104 : TnOk Tryz.prog 104 (.fn [.sl 164 (.st [.int .i64, .int .i64, .bool, .int .i64]), .sl 164 (.st [.int .i64, .int .i64, .bool, .int .i64])] (.bool)) := ⟨⟨_, _, _, Tryz.underlying104⟩, fun _ h => (by cases h), Tryz.t104, rfl, rfl, fun _ h => by cases h⟩
theorem tn105 : TnOk Tryz.prog 105 (.fn [.sl 169 (.st [.sl 228 (.st [.int .i64, .int .i64]), .sl 25 (.sl 3 (.int .i64))]), .sl 169 (.st [.sl 228 (.st [.int .i64, .int .i64]), .sl 25 (.sl 3 (.int .i64))])] (.bool)) := ⟨⟨_, _, _, Tryz.underlying105⟩, fun _ h => (by cases h), Tryz.t105, rfl, rfl, fun _ h => by cases h⟩
theorem tn106 : TnOk Tryz.prog 106 (.fn [.sl 3 (.int .i64), .sl 3 (.int .i64)] (.bool)) := ⟨⟨_, _, _, Tryz.underlying106⟩, fun _ h => (by cases h), Tryz.t106, rfl, rfl, fun _ h => by cases h⟩
theorem tn115 : TnOk Tryz.prog 115 (.fn [.st [.st [.sl 3 (.int .i64), .sl 3 (.int .i64)], .sl 3 (.int .i64)]] (.st [.st [.sl 3 (.int .i64), .sl 3 (.int .i64)], .sl 3 (.int .i64)])) := ⟨⟨_, _, _, Tryz.underlying115⟩, fun _ h => (by cases h), Tryz.t115, rfl, rfl, fun _ h => by cases h⟩
theorem tn116 : TnOk Tryz.prog 116 (.fn [.sl 3 (.int .i64), .int .i64] (.sl 3 (.int .i64))) := ⟨⟨_, _, _, Tryz.underlying116⟩, fun _ h => (by cases h), Tryz.t116, rfl, rfl, fun _ h => by cases h⟩
theorem tn117 : TnOk Tryz.prog 117 (.fn [.int .i64, .int .i64, .int .i64] (.st [.st [.sl 3 (.int .i64), .sl 3 (.int .i64)], .sl 3 (.int .i64)])) := ⟨⟨_, _, _, Tryz.underlying117⟩, fun _ h => (by cases h), Tryz.t117, rfl, rfl, fun _ h => by cases h⟩
theorem tn121 : TnOk Tryz.prog 121 (.fn [.st [.int .i64, .sl 159 (.st [.str, .int .i64, .sl 172 (.st [.int .i64, .sl 3 (.int .i64), .sl 3 (.int .i64)])]), .sl 164 (.st [.int .i64, .int .i64, .bool, .int .i64]), .sl 169 (.st [.sl 228 (.st [.int .i64, .int .i64]), .sl 25 (.sl 3 (.int .i64))]), .sl 3 (.int .i64)], .st [.sl 3 (.int .i64), .sl 3 (.int .i64)]] (.bool)) := ⟨⟨_, _, _, Tryz.underlying121⟩, fun _ h => (by cases h), Tryz.t121, rfl, rfl, fun _ h => by cases h⟩
theorem tn128 : TnOk Tryz.prog 128 (.fn [.sl 25 (.sl 3 (.int .i64)), .int .i64] (.int .i64)) := ⟨⟨_, _, _, Tryz.underlying128⟩, fun _ h => (by cases h), Tryz.t128, rfl, rfl, fun _ h => by cases h⟩
theorem tn135 : TnOk Tryz.prog 135 (.fn [.sl 25 (.sl 3 (.int .i64))] (.sl 25 (.sl 3 (.int .i64)))) := ⟨⟨_, _, _, Tryz.underlying135⟩, fun _ h => (by cases h), Tryz.t135, rfl, rfl, fun _ h => by cases h⟩
theorem tn140 : TnOk Tryz.prog 140 (.fn [.sl 25 (.sl 3 (.int .i64)), .sl 25 (.sl 3 (.int .i64))] (.bool)) := ⟨⟨_, _, _, Tryz.underlying140⟩, fun _ h => (by cases h), Tryz.t140, rfl, rfl, fun _ h => by cases h⟩
theorem tn142 : TnOk Tryz.prog 142 (.fn [.int .i64, .int .i64, .int .i64] (.bool)) := ⟨⟨_, _, _, Tryz.underlying142⟩, fun _ h => (by cases h), Tryz.t142, rfl, rfl, fun _ h => by cases h⟩
theorem tn143 : TnOk Tryz.prog 143 (.fn [.st [.sl 3 (.int .i64), .sl 3 (.int .i64)]] (.st [.sl 3 (.int .i64), .sl 3 (.int .i64)])) := ⟨⟨_, _, _, Tryz.underlying143⟩, fun _ h => (by cases h), Tryz.t143, rfl, rfl, fun _ h => by cases h⟩
theorem tn144 : TnOk Tryz.prog 144 (.fn [.int .i64] (.bool)) := ⟨⟨_, _, _, Tryz.underlying144⟩, fun _ h => (by cases h), Tryz.t144, rfl, rfl, fun _ h => by cases h⟩
theorem tn147 : TnOk Tryz.prog 147 (.fn [.st [.str, .int .i64, .sl 242 (.st [.int .i64, .sl 3 (.int .i64), .sl 3 (.int .i64)])], .int .i64] (.int .i64)) := ⟨⟨_, _, _, Tryz.underlying147⟩, fun _ h => (by cases h), Tryz.t147, rfl, rfl, fun _ h => by cases h⟩
theorem tn148 : TnOk Tryz.prog 148 (.sl 242 (.st [.int .i64, .sl 3 (.int .i64), .sl 3 (.int .i64)])) := ⟨⟨Tryz.underlying148, Tryz.t242, _, rfl, rfl, rfl, rfl, by decide, by decide, fun _ _ => rfl, fun k h => by cases h⟩, fun _ h => (by cases h), Tryz.t148, rfl, rfl, fun _ _ => rfl⟩
theorem tn149 : TnOk Tryz.prog 149 (.st [.str, .int .i64, .sl 242 (.st [.int .i64, .sl 3 (.int .i64), .sl 3 (.int .i64)])]) := ⟨⟨_, Tryz.underlying149, Tryz.eqGuardType149, Tryz.stoodInHeld149, rfl, fun j τ h => by
    cases j with
    | zero => cases h; exact ⟨_, _, rfl, rfl, by decide, by decide, Tryz.underlying9, rfl, fun us h => by cases h⟩
    | succ j =>
     cases j with
     | zero => cases h; exact ⟨_, _, rfl, rfl, by decide, by decide, Tryz.underlying3, rfl, fun us h => by cases h⟩
     | succ j =>
      cases j with
      | zero => cases h; exact ⟨_, _, rfl, rfl, by decide, by decide, Tryz.underlying148, rfl, fun us h => by cases h⟩
      | succ j =>
       cases h⟩, (fun us hus fs hfs j τ h f hf => by
    cases hus
    rw [Tryz.underlying149] at hfs
    cases hfs
    cases j with
    | zero => cases h; cases hf; exact ⟨fun k e => (by cases e), fun e => (by cases e), fun _ => Tryz.underlying9⟩
    | succ j =>
     cases j with
     | zero => cases h; cases hf; exact ⟨fun k e => by cases e; exact Tryz.underlying3, fun e => (by cases e), fun e => (by cases e)⟩
     | succ j =>
      cases j with
      | zero => cases h; cases hf; exact ⟨fun k e => (by cases e), fun e => (by cases e), fun e => (by cases e)⟩
      | succ j =>
       cases h), Tryz.t149, rfl, rfl, fun _ _ => rfl⟩
theorem tn150 : TnOk Tryz.prog 150 (.st [.str, .int .i64, .sl 242 (.st [.int .i64, .sl 3 (.int .i64), .sl 3 (.int .i64)])]) := ⟨⟨_, Tryz.underlying150, Tryz.eqGuardType150, Tryz.stoodInHeld150, rfl, fun j τ h => by
    cases j with
    | zero => cases h; exact ⟨_, _, rfl, rfl, by decide, by decide, Tryz.underlying9, rfl, fun us h => by cases h⟩
    | succ j =>
     cases j with
     | zero => cases h; exact ⟨_, _, rfl, rfl, by decide, by decide, Tryz.underlying3, rfl, fun us h => by cases h⟩
     | succ j =>
      cases j with
      | zero => cases h; exact ⟨_, _, rfl, rfl, by decide, by decide, Tryz.underlying148, rfl, fun us h => by cases h⟩
      | succ j =>
       cases h⟩, (fun us hus fs hfs j τ h f hf => by
    cases hus
    rw [Tryz.underlying150] at hfs
    cases hfs
    cases j with
    | zero => cases h; cases hf; exact ⟨fun k e => (by cases e), fun e => (by cases e), fun _ => Tryz.underlying9⟩
    | succ j =>
     cases j with
     | zero => cases h; cases hf; exact ⟨fun k e => by cases e; exact Tryz.underlying3, fun e => (by cases e), fun e => (by cases e)⟩
     | succ j =>
      cases j with
      | zero => cases h; cases hf; exact ⟨fun k e => (by cases e), fun e => (by cases e), fun e => (by cases e)⟩
      | succ j =>
       cases h), Tryz.t150, rfl, rfl, fun _ _ => rfl⟩
theorem tn151 : TnOk Tryz.prog 151 (.fn [.st [.sl 247 (.st [.int .i64, .int .i64]), .sl 25 (.sl 3 (.int .i64))], .int .i64] (.int .i64)) := ⟨⟨_, _, _, Tryz.underlying151⟩, fun _ h => (by cases h), Tryz.t151, rfl, rfl, fun _ h => by cases h⟩
theorem tn152 : TnOk Tryz.prog 152 (.sl 247 (.st [.int .i64, .int .i64])) := ⟨⟨Tryz.underlying152, Tryz.t247, _, rfl, rfl, rfl, rfl, by decide, by decide, fun _ _ => rfl, fun k h => by cases h⟩, fun _ h => (by cases h), Tryz.t152, rfl, rfl, fun _ _ => rfl⟩
theorem tn153 : TnOk Tryz.prog 153 (.st [.sl 247 (.st [.int .i64, .int .i64]), .sl 25 (.sl 3 (.int .i64))]) := ⟨⟨_, Tryz.underlying153, Tryz.eqGuardType153, Tryz.stoodInHeld153, rfl, fun j τ h => by
    cases j with
    | zero => cases h; exact ⟨_, _, rfl, rfl, by decide, by decide, Tryz.underlying152, rfl, fun us h => by cases h⟩
    | succ j =>
     cases j with
     | zero => cases h; exact ⟨_, _, rfl, rfl, by decide, by decide, Tryz.underlying74, rfl, fun us h => by cases h⟩
     | succ j =>
      cases h⟩, (fun us hus fs hfs j τ h f hf => by
    cases hus
    rw [Tryz.underlying153] at hfs
    cases hfs
    cases j with
    | zero => cases h; cases hf; exact ⟨fun k e => (by cases e), fun e => (by cases e), fun e => (by cases e)⟩
    | succ j =>
     cases j with
     | zero => cases h; cases hf; exact ⟨fun k e => (by cases e), fun e => (by cases e), fun e => (by cases e)⟩
     | succ j =>
      cases h), Tryz.t153, rfl, rfl, fun _ _ => rfl⟩
theorem tn154 : TnOk Tryz.prog 154 (.st [.sl 247 (.st [.int .i64, .int .i64]), .sl 25 (.sl 3 (.int .i64))]) := ⟨⟨_, Tryz.underlying154, Tryz.eqGuardType154, Tryz.stoodInHeld154, rfl, fun j τ h => by
    cases j with
    | zero => cases h; exact ⟨_, _, rfl, rfl, by decide, by decide, Tryz.underlying152, rfl, fun us h => by cases h⟩
    | succ j =>
     cases j with
     | zero => cases h; exact ⟨_, _, rfl, rfl, by decide, by decide, Tryz.underlying74, rfl, fun us h => by cases h⟩
     | succ j =>
      cases h⟩, (fun us hus fs hfs j τ h f hf => by
    cases hus
    rw [Tryz.underlying154] at hfs
    cases hfs
    cases j with
    | zero => cases h; cases hf; exact ⟨fun k e => (by cases e), fun e => (by cases e), fun e => (by cases e)⟩
    | succ j =>
     cases j with
     | zero => cases h; cases hf; exact ⟨fun k e => (by cases e), fun e => (by cases e), fun e => (by cases e)⟩
     | succ j =>
      cases h), Tryz.t154, rfl, rfl, fun _ _ => rfl⟩
theorem tn155 : TnOk Tryz.prog 155 (.fn [.st [.int .i64, .sl 159 (.st [.str, .int .i64, .sl 172 (.st [.int .i64, .sl 3 (.int .i64), .sl 3 (.int .i64)])]), .sl 164 (.st [.int .i64, .int .i64, .bool, .int .i64]), .sl 169 (.st [.sl 228 (.st [.int .i64, .int .i64]), .sl 25 (.sl 3 (.int .i64))]), .sl 3 (.int .i64)], .st [.st [.sl 3 (.int .i64), .sl 3 (.int .i64)], .sl 3 (.int .i64)]] (.bool)) := ⟨⟨_, _, _, Tryz.underlying155⟩, fun _ h => (by cases h), Tryz.t155, rfl, rfl, fun _ h => by cases h⟩
theorem tn156 : TnOk Tryz.prog 156 (.fn [.sl 3 (.int .i64), .int .i64] (.bool)) := ⟨⟨_, _, _, Tryz.underlying156⟩, fun _ h => (by cases h), Tryz.t156, rfl, rfl, fun _ h => by cases h⟩
theorem tn157 : TnOk Tryz.prog 157 (.sl 172 (.st [.int .i64, .sl 3 (.int .i64), .sl 3 (.int .i64)])) := ⟨⟨Tryz.underlying157, Tryz.t172, _, rfl, rfl, rfl, rfl, by decide, by decide, fun _ _ => rfl, fun k h => by cases h⟩, fun _ h => (by cases h), Tryz.t157, rfl, rfl, fun _ _ => rfl⟩
theorem tn158 : TnOk Tryz.prog 158 (.st [.str, .int .i64, .sl 172 (.st [.int .i64, .sl 3 (.int .i64), .sl 3 (.int .i64)])]) := ⟨⟨_, Tryz.underlying158, Tryz.eqGuardType158, Tryz.stoodInHeld158, rfl, fun j τ h => by
    cases j with
    | zero => cases h; exact ⟨_, _, rfl, rfl, by decide, by decide, Tryz.underlying9, rfl, fun us h => by cases h⟩
    | succ j =>
     cases j with
     | zero => cases h; exact ⟨_, _, rfl, rfl, by decide, by decide, Tryz.underlying3, rfl, fun us h => by cases h⟩
     | succ j =>
      cases j with
      | zero => cases h; exact ⟨_, _, rfl, rfl, by decide, by decide, Tryz.underlying157, rfl, fun us h => by cases h⟩
      | succ j =>
       cases h⟩, (fun us hus fs hfs j τ h f hf => by
    cases hus
    rw [Tryz.underlying158] at hfs
    cases hfs
    cases j with
    | zero => cases h; cases hf; exact ⟨fun k e => (by cases e), fun e => (by cases e), fun _ => Tryz.underlying9⟩
    | succ j =>
     cases j with
     | zero => cases h; cases hf; exact ⟨fun k e => by cases e; exact Tryz.underlying3, fun e => (by cases e), fun e => (by cases e)⟩
     | succ j =>
      cases j with
      | zero => cases h; cases hf; exact ⟨fun k e => (by cases e), fun e => (by cases e), fun e => (by cases e)⟩
      | succ j =>
       cases h), Tryz.t158, rfl, rfl, fun _ _ => rfl⟩
theorem tn159 : TnOk Tryz.prog 159 (.st [.str, .int .i64, .sl 172 (.st [.int .i64, .sl 3 (.int .i64), .sl 3 (.int .i64)])]) := ⟨⟨_, Tryz.underlying159, Tryz.eqGuardType159, Tryz.stoodInHeld159, rfl, fun j τ h => by
    cases j with
    | zero => cases h; exact ⟨_, _, rfl, rfl, by decide, by decide, Tryz.underlying9, rfl, fun us h => by cases h⟩
    | succ j =>
     cases j with
     | zero => cases h; exact ⟨_, _, rfl, rfl, by decide, by decide, Tryz.underlying3, rfl, fun us h => by cases h⟩
     | succ j =>
      cases j with
      | zero => cases h; exact ⟨_, _, rfl, rfl, by decide, by decide, Tryz.underlying157, rfl, fun us h => by cases h⟩
      | succ j =>
       cases h⟩, (fun us hus fs hfs j τ h f hf => by
    cases hus
    rw [Tryz.underlying159] at hfs
    cases hfs
    cases j with
    | zero => cases h; cases hf; exact ⟨fun k e => (by cases e), fun e => (by cases e), fun _ => Tryz.underlying9⟩
    | succ j =>
     cases j with
     | zero => cases h; cases hf; exact ⟨fun k e => by cases e; exact Tryz.underlying3, fun e => (by cases e), fun e => (by cases e)⟩
     | succ j =>
      cases j with
      | zero => cases h; cases hf; exact ⟨fun k e => (by cases e), fun e => (by cases e), fun e => (by cases e)⟩
      | succ j =>
       cases h), Tryz.t159, rfl, rfl, fun _ _ => rfl⟩
theorem tn160 : TnOk Tryz.prog 160 (.fn [.st [.int .i64, .sl 159 (.st [.str, .int .i64, .sl 172 (.st [.int .i64, .sl 3 (.int .i64), .sl 3 (.int .i64)])]), .sl 164 (.st [.int .i64, .int .i64, .bool, .int .i64]), .sl 169 (.st [.sl 228 (.st [.int .i64, .int .i64]), .sl 25 (.sl 3 (.int .i64))]), .sl 3 (.int .i64)], .st [.sl 3 (.int .i64), .sl 3 (.int .i64)], .int .i64] (.int .i64)) := ⟨⟨_, _, _, Tryz.underlying160⟩, fun _ h => (by cases h), Tryz.t160, rfl, rfl, fun _ h => by cases h⟩
theorem tn161 : TnOk Tryz.prog 161 (.fn [.st [.int .i64, .sl 159 (.st [.str, .int .i64, .sl 172 (.st [.int .i64, .sl 3 (.int .i64), .sl 3 (.int .i64)])]), .sl 164 (.st [.int .i64, .int .i64, .bool, .int .i64]), .sl 169 (.st [.sl 228 (.st [.int .i64, .int .i64]), .sl 25 (.sl 3 (.int .i64))]), .sl 3 (.int .i64)], .st [.st [.sl 3 (.int .i64), .sl 3 (.int .i64)], .sl 3 (.int .i64)], .int .i64] (.bool)) := ⟨⟨_, _, _, Tryz.underlying161⟩, fun _ h => (by cases h), Tryz.t161, rfl, rfl, fun _ h => by cases h⟩
theorem tn162 : TnOk Tryz.prog 162 (.fn [.st [.str, .int .i64, .sl 242 (.st [.int .i64, .sl 3 (.int .i64), .sl 3 (.int .i64)])]] (.st [.str, .int .i64, .sl 172 (.st [.int .i64, .sl 3 (.int .i64), .sl 3 (.int .i64)])])) := ⟨⟨_, _, _, Tryz.underlying162⟩, fun _ h => (by cases h), Tryz.t162, rfl, rfl, fun _ h => by cases h⟩
theorem tn163 : TnOk Tryz.prog 163 (.st [.int .i64, .int .i64, .bool, .int .i64]) := ⟨⟨_, Tryz.underlying163, Tryz.eqGuardType163, Tryz.stoodInHeld163, rfl, fun j τ h => by
    cases j with
    | zero => cases h; exact ⟨_, _, rfl, rfl, by decide, by decide, Tryz.underlying3, rfl, fun us h => by cases h⟩
    | succ j =>
     cases j with
     | zero => cases h; exact ⟨_, _, rfl, rfl, by decide, by decide, Tryz.underlying3, rfl, fun us h => by cases h⟩
     | succ j =>
      cases j with
      | zero => cases h; exact ⟨_, _, rfl, rfl, by decide, by decide, Tryz.underlying4, rfl, fun us h => by cases h⟩
      | succ j =>
       cases j with
       | zero => cases h; exact ⟨_, _, rfl, rfl, by decide, by decide, Tryz.underlying3, rfl, fun us h => by cases h⟩
       | succ j =>
        cases h⟩, (fun us hus fs hfs j τ h f hf => by
    cases hus
    rw [Tryz.underlying163] at hfs
    cases hfs
    cases j with
    | zero => cases h; cases hf; exact ⟨fun k e => by cases e; exact Tryz.underlying3, fun e => (by cases e), fun e => (by cases e)⟩
    | succ j =>
     cases j with
     | zero => cases h; cases hf; exact ⟨fun k e => by cases e; exact Tryz.underlying3, fun e => (by cases e), fun e => (by cases e)⟩
     | succ j =>
      cases j with
      | zero => cases h; cases hf; exact ⟨fun k e => (by cases e), fun _ => Tryz.underlying4, fun e => (by cases e)⟩
      | succ j =>
       cases j with
       | zero => cases h; cases hf; exact ⟨fun k e => by cases e; exact Tryz.underlying3, fun e => (by cases e), fun e => (by cases e)⟩
       | succ j =>
        cases h), Tryz.t163, rfl, rfl, fun _ _ => rfl⟩
theorem tn164 : TnOk Tryz.prog 164 (.st [.int .i64, .int .i64, .bool, .int .i64]) := ⟨⟨_, Tryz.underlying164, Tryz.eqGuardType164, Tryz.stoodInHeld164, rfl, fun j τ h => by
    cases j with
    | zero => cases h; exact ⟨_, _, rfl, rfl, by decide, by decide, Tryz.underlying3, rfl, fun us h => by cases h⟩
    | succ j =>
     cases j with
     | zero => cases h; exact ⟨_, _, rfl, rfl, by decide, by decide, Tryz.underlying3, rfl, fun us h => by cases h⟩
     | succ j =>
      cases j with
      | zero => cases h; exact ⟨_, _, rfl, rfl, by decide, by decide, Tryz.underlying4, rfl, fun us h => by cases h⟩
      | succ j =>
       cases j with
       | zero => cases h; exact ⟨_, _, rfl, rfl, by decide, by decide, Tryz.underlying3, rfl, fun us h => by cases h⟩
       | succ j =>
        cases h⟩, (fun us hus fs hfs j τ h f hf => by
    cases hus
    rw [Tryz.underlying164] at hfs
    cases hfs
    cases j with
    | zero => cases h; cases hf; exact ⟨fun k e => by cases e; exact Tryz.underlying3, fun e => (by cases e), fun e => (by cases e)⟩
    | succ j =>
     cases j with
     | zero => cases h; cases hf; exact ⟨fun k e => by cases e; exact Tryz.underlying3, fun e => (by cases e), fun e => (by cases e)⟩
     | succ j =>
      cases j with
      | zero => cases h; cases hf; exact ⟨fun k e => (by cases e), fun _ => Tryz.underlying4, fun e => (by cases e)⟩
      | succ j =>
       cases j with
       | zero => cases h; cases hf; exact ⟨fun k e => by cases e; exact Tryz.underlying3, fun e => (by cases e), fun e => (by cases e)⟩
       | succ j =>
        cases h), Tryz.t164, rfl, rfl, fun _ _ => rfl⟩
theorem tn165 : TnOk Tryz.prog 165 (.fn [.st [.int .i64, .int .i64, .bool, .int .i64]] (.st [.int .i64, .int .i64, .bool, .int .i64])) := ⟨⟨_, _, _, Tryz.underlying165⟩, fun _ h => (by cases h), Tryz.t165, rfl, rfl, fun _ h => by cases h⟩
theorem tn166 : TnOk Tryz.prog 166 (.st [.int .i64, .int .i64, .bool, .int .i64]) := ⟨⟨_, Tryz.underlying166, Tryz.eqGuardType166, Tryz.stoodInHeld166, rfl, fun j τ h => by
    cases j with
    | zero => cases h; exact ⟨_, _, rfl, rfl, by decide, by decide, Tryz.underlying3, rfl, fun us h => by cases h⟩
    | succ j =>
     cases j with
     | zero => cases h; exact ⟨_, _, rfl, rfl, by decide, by decide, Tryz.underlying3, rfl, fun us h => by cases h⟩
     | succ j =>
      cases j with
      | zero => cases h; exact ⟨_, _, rfl, rfl, by decide, by decide, Tryz.underlying4, rfl, fun us h => by cases h⟩
      | succ j =>
       cases j with
       | zero => cases h; exact ⟨_, _, rfl, rfl, by decide, by decide, Tryz.underlying3, rfl, fun us h => by cases h⟩
       | succ j =>
        cases h⟩, (fun us hus fs hfs j τ h f hf => by
    cases hus
    rw [Tryz.underlying166] at hfs
    cases hfs
    cases j with
    | zero => cases h; cases hf; exact ⟨fun k e => by cases e; exact Tryz.underlying3, fun e => (by cases e), fun e => (by cases e)⟩
    | succ j =>
     cases j with
     | zero => cases h; cases hf; exact ⟨fun k e => by cases e; exact Tryz.underlying3, fun e => (by cases e), fun e => (by cases e)⟩
     | succ j =>
      cases j with
      | zero => cases h; cases hf; exact ⟨fun k e => (by cases e), fun _ => Tryz.underlying4, fun e => (by cases e)⟩
      | succ j =>
       cases j with
       | zero => cases h; cases hf; exact ⟨fun k e => by cases e; exact Tryz.underlying3, fun e => (by cases e), fun e => (by cases e)⟩
       | succ j =>
        cases h), Tryz.t166, rfl, rfl, fun _ _ => rfl⟩
theorem tn167 : TnOk Tryz.prog 167 (.sl 228 (.st [.int .i64, .int .i64])) := ⟨⟨Tryz.underlying167, Tryz.t228, _, rfl, rfl, rfl, rfl, by decide, by decide, fun _ _ => rfl, fun k h => by cases h⟩, fun _ h => (by cases h), Tryz.t167, rfl, rfl, fun _ _ => rfl⟩
theorem tn168 : TnOk Tryz.prog 168 (.st [.sl 228 (.st [.int .i64, .int .i64]), .sl 25 (.sl 3 (.int .i64))]) := ⟨⟨_, Tryz.underlying168, Tryz.eqGuardType168, Tryz.stoodInHeld168, rfl, fun j τ h => by
    cases j with
    | zero => cases h; exact ⟨_, _, rfl, rfl, by decide, by decide, Tryz.underlying167, rfl, fun us h => by cases h⟩
    | succ j =>
     cases j with
     | zero => cases h; exact ⟨_, _, rfl, rfl, by decide, by decide, Tryz.underlying74, rfl, fun us h => by cases h⟩
     | succ j =>
      cases h⟩, (fun us hus fs hfs j τ h f hf => by
    cases hus
    rw [Tryz.underlying168] at hfs
    cases hfs
    cases j with
    | zero => cases h; cases hf; exact ⟨fun k e => (by cases e), fun e => (by cases e), fun e => (by cases e)⟩
    | succ j =>
     cases j with
     | zero => cases h; cases hf; exact ⟨fun k e => (by cases e), fun e => (by cases e), fun e => (by cases e)⟩
     | succ j =>
      cases h), Tryz.t168, rfl, rfl, fun _ _ => rfl⟩
theorem tn169 : TnOk Tryz.prog 169 (.st [.sl 228 (.st [.int .i64, .int .i64]), .sl 25 (.sl 3 (.int .i64))]) := ⟨⟨_, Tryz.underlying169, Tryz.eqGuardType169, Tryz.stoodInHeld169, rfl, fun j τ h => by
    cases j with
    | zero => cases h; exact ⟨_, _, rfl, rfl, by decide, by decide, Tryz.underlying167, rfl, fun us h => by cases h⟩
    | succ j =>
     cases j with
     | zero => cases h; exact ⟨_, _, rfl, rfl, by decide, by decide, Tryz.underlying74, rfl, fun us h => by cases h⟩
     | succ j =>
      cases h⟩, (fun us hus fs hfs j τ h f hf => by
    cases hus
    rw [Tryz.underlying169] at hfs
    cases hfs
    cases j with
    | zero => cases h; cases hf; exact ⟨fun k e => (by cases e), fun e => (by cases e), fun e => (by cases e)⟩
    | succ j =>
     cases j with
     | zero => cases h; cases hf; exact ⟨fun k e => (by cases e), fun e => (by cases e), fun e => (by cases e)⟩
     | succ j =>
      cases h), Tryz.t169, rfl, rfl, fun _ _ => rfl⟩
theorem tn170 : TnOk Tryz.prog 170 (.fn [.st [.sl 247 (.st [.int .i64, .int .i64]), .sl 25 (.sl 3 (.int .i64))]] (.st [.sl 228 (.st [.int .i64, .int .i64]), .sl 25 (.sl 3 (.int .i64))])) := ⟨⟨_, _, _, Tryz.underlying170⟩, fun _ h => (by cases h), Tryz.t170, rfl, rfl, fun _ h => by cases h⟩
theorem tn171 : TnOk Tryz.prog 171 (.st [.int .i64, .sl 3 (.int .i64), .sl 3 (.int .i64)]) := ⟨⟨_, Tryz.underlying171, Tryz.eqGuardType171, Tryz.stoodInHeld171, rfl, fun j τ h => by
    cases j with
    | zero => cases h; exact ⟨_, _, rfl, rfl, by decide, by decide, Tryz.underlying3, rfl, fun us h => by cases h⟩
    | succ j =>
     cases j with
     | zero => cases h; exact ⟨_, _, rfl, rfl, by decide, by decide, Tryz.underlying25, rfl, fun us h => by cases h⟩
     | succ j =>
      cases j with
      | zero => cases h; exact ⟨_, _, rfl, rfl, by decide, by decide, Tryz.underlying25, rfl, fun us h => by cases h⟩
      | succ j =>
       cases h⟩, (fun us hus fs hfs j τ h f hf => by
    cases hus
    rw [Tryz.underlying171] at hfs
    cases hfs
    cases j with
    | zero => cases h; cases hf; exact ⟨fun k e => by cases e; exact Tryz.underlying3, fun e => (by cases e), fun e => (by cases e)⟩
    | succ j =>
     cases j with
     | zero => cases h; cases hf; exact ⟨fun k e => (by cases e), fun e => (by cases e), fun e => (by cases e)⟩
     | succ j =>
      cases j with
      | zero => cases h; cases hf; exact ⟨fun k e => (by cases e), fun e => (by cases e), fun e => (by cases e)⟩
      | succ j =>
       cases h), Tryz.t171, rfl, rfl, fun _ _ => rfl⟩
theorem tn172 : TnOk Tryz.prog 172 (.st [.int .i64, .sl 3 (.int .i64), .sl 3 (.int .i64)]) := ⟨⟨_, Tryz.underlying172, Tryz.eqGuardType172, Tryz.stoodInHeld172, rfl, fun j τ h => by
    cases j with
    | zero => cases h; exact ⟨_, _, rfl, rfl, by decide, by decide, Tryz.underlying3, rfl, fun us h => by cases h⟩
    | succ j =>
     cases j with
     | zero => cases h; exact ⟨_, _, rfl, rfl, by decide, by decide, Tryz.underlying25, rfl, fun us h => by cases h⟩
     | succ j =>
      cases j with
      | zero => cases h; exact ⟨_, _, rfl, rfl, by decide, by decide, Tryz.underlying25, rfl, fun us h => by cases h⟩
      | succ j =>
       cases h⟩, (fun us hus fs hfs j τ h f hf => by
    cases hus
    rw [Tryz.underlying172] at hfs
    cases hfs
    cases j with
    | zero => cases h; cases hf; exact ⟨fun k e => by cases e; exact Tryz.underlying3, fun e => (by cases e), fun e => (by cases e)⟩
    | succ j =>
     cases j with
     | zero => cases h; cases hf; exact ⟨fun k e => (by cases e), fun e => (by cases e), fun e => (by cases e)⟩
     | succ j =>
      cases j with
      | zero => cases h; cases hf; exact ⟨fun k e => (by cases e), fun e => (by cases e), fun e => (by cases e)⟩
      | succ j =>
       cases h), Tryz.t172, rfl, rfl, fun _ _ => rfl⟩
theorem tn173 : TnOk Tryz.prog 173 (.fn [.st [.int .i64, .sl 159 (.st [.str, .int .i64, .sl 172 (.st [.int .i64, .sl 3 (.int .i64), .sl 3 (.int .i64)])]), .sl 164 (.st [.int .i64, .int .i64, .bool, .int .i64]), .sl 169 (.st [.sl 228 (.st [.int .i64, .int .i64]), .sl 25 (.sl 3 (.int .i64))]), .sl 3 (.int .i64)], .int .i64] (.bool)) := ⟨⟨_, _, _, Tryz.underlying173⟩, fun _ h => (by cases h), Tryz.t173, rfl, rfl, fun _ h => by cases h⟩
theorem tn174 : TnOk Tryz.prog 174 (.fn [.st [.str, .int .i64, .sl 172 (.st [.int .i64, .sl 3 (.int .i64), .sl 3 (.int .i64)])], .st [.str, .int .i64, .sl 172 (.st [.int .i64, .sl 3 (.int .i64), .sl 3 (.int .i64)])]] (.bool)) := ⟨⟨_, _, _, Tryz.underlying174⟩, fun _ h => (by cases h), Tryz.t174, rfl, rfl, fun _ h => by cases h⟩
theorem tn175 : TnOk Tryz.prog 175 (.fn [.st [.int .i64, .int .i64, .bool, .int .i64], .st [.int .i64, .int .i64, .bool, .int .i64]] (.bool)) := ⟨⟨_, _, _, Tryz.underlying175⟩, fun _ h => (by cases h), Tryz.t175, rfl, rfl, fun _ h => by cases h⟩
theorem tn176 : TnOk Tryz.prog 176 (.fn [.st [.sl 228 (.st [.int .i64, .int .i64]), .sl 25 (.sl 3 (.int .i64))], .st [.sl 228 (.st [.int .i64, .int .i64]), .sl 25 (.sl 3 (.int .i64))]] (.bool)) := ⟨⟨_, _, _, Tryz.underlying176⟩, fun _ h => (by cases h), Tryz.t176, rfl, rfl, fun _ h => by cases h⟩
theorem tn180 : TnOk Tryz.prog 180 (.fn [.st [.int .i64, .sl 159 (.st [.str, .int .i64, .sl 172 (.st [.int .i64, .sl 3 (.int .i64), .sl 3 (.int .i64)])]), .sl 164 (.st [.int .i64, .int .i64, .bool, .int .i64]), .sl 169 (.st [.sl 228 (.st [.int .i64, .int .i64]), .sl 25 (.sl 3 (.int .i64))]), .sl 3 (.int .i64)]] (.bool)) := ⟨⟨_, _, _, Tryz.underlying180⟩, fun _ h => (by cases h), Tryz.t180, rfl, rfl, fun _ h => by cases h⟩
theorem tn185 : TnOk Tryz.prog 185 (.fn [.sl 228 (.st [.int .i64, .int .i64]), .int .i64] (.int .i64)) := ⟨⟨_, _, _, Tryz.underlying185⟩, fun _ h => (by cases h), Tryz.t185, rfl, rfl, fun _ h => by cases h⟩
theorem tn189 : TnOk Tryz.prog 189 (.fn [] (.st [.st [.sl 3 (.int .i64), .sl 3 (.int .i64)], .sl 3 (.int .i64)])) := ⟨⟨_, _, _, Tryz.underlying189⟩, fun _ h => (by cases h), Tryz.t189, rfl, rfl, fun _ h => by cases h⟩
theorem tn197 : TnOk Tryz.prog 197 (.fn [.sl 3 (.int .i64)] (.bool)) := ⟨⟨_, _, _, Tryz.underlying197⟩, fun _ h => (by cases h), Tryz.t197, rfl, rfl, fun _ h => by cases h⟩
theorem tn204 : TnOk Tryz.prog 204 (.fn [.st [.int .i64, .sl 159 (.st [.str, .int .i64, .sl 172 (.st [.int .i64, .sl 3 (.int .i64), .sl 3 (.int .i64)])]), .sl 164 (.st [.int .i64, .int .i64, .bool, .int .i64]), .sl 169 (.st [.sl 228 (.st [.int .i64, .int .i64]), .sl 25 (.sl 3 (.int .i64))]), .sl 3 (.int .i64)], .st [.sl 3 (.int .i64), .sl 3 (.int .i64)], .st [.int .i64, .int .i64, .int .i64, .int .i64]] (.bool)) := ⟨⟨_, _, _, Tryz.underlying204⟩, fun _ h => (by cases h), Tryz.t204, rfl, rfl, fun _ h => by cases h⟩
theorem tn205 : TnOk Tryz.prog 205 (.fn [.st [.sl 3 (.int .i64), .sl 3 (.int .i64)], .st [.int .i64, .int .i64, .bool, .int .i64]] (.bool)) := ⟨⟨_, _, _, Tryz.underlying205⟩, fun _ h => (by cases h), Tryz.t205, rfl, rfl, fun _ h => by cases h⟩
theorem tn206 : TnOk Tryz.prog 206 (.fn [.sl 242 (.st [.int .i64, .sl 3 (.int .i64), .sl 3 (.int .i64)]), .int .i64] (.int .i64)) := ⟨⟨_, _, _, Tryz.underlying206⟩, fun _ h => (by cases h), Tryz.t206, rfl, rfl, fun _ h => by cases h⟩
theorem tn207 : TnOk Tryz.prog 207 (.fn [.sl 247 (.st [.int .i64, .int .i64]), .int .i64] (.int .i64)) := ⟨⟨_, _, _, Tryz.underlying207⟩, fun _ h => (by cases h), Tryz.t207, rfl, rfl, fun _ h => by cases h⟩
theorem tn208 : TnOk Tryz.prog 208 (.fn [.int .i64] (.sl 3 (.int .i64))) := ⟨⟨_, _, _, Tryz.underlying208⟩, fun _ h => (by cases h), Tryz.t208, rfl, rfl, fun _ h => by cases h⟩
theorem tn209 : TnOk Tryz.prog 209 (.fn [.st [.int .i64, .sl 159 (.st [.str, .int .i64, .sl 172 (.st [.int .i64, .sl 3 (.int .i64), .sl 3 (.int .i64)])]), .sl 164 (.st [.int .i64, .int .i64, .bool, .int .i64]), .sl 169 (.st [.sl 228 (.st [.int .i64, .int .i64]), .sl 25 (.sl 3 (.int .i64))]), .sl 3 (.int .i64)], .st [.sl 3 (.int .i64), .sl 3 (.int .i64)], .int .i64] (.st [.int .i64, .sl 3 (.int .i64), .sl 3 (.int .i64)])) := ⟨⟨_, _, _, Tryz.underlying209⟩, fun _ h => (by cases h), Tryz.t209, rfl, rfl, fun _ h => by cases h⟩
theorem tn210 : TnOk Tryz.prog 210 (.fn [.sl 242 (.st [.int .i64, .sl 3 (.int .i64), .sl 3 (.int .i64)])] (.sl 172 (.st [.int .i64, .sl 3 (.int .i64), .sl 3 (.int .i64)]))) := ⟨⟨_, _, _, Tryz.underlying210⟩, fun _ h => (by cases h), Tryz.t210, rfl, rfl, fun _ h => by cases h⟩
theorem tn211 : TnOk Tryz.prog 211 (.fn [.sl 247 (.st [.int .i64, .int .i64])] (.sl 228 (.st [.int .i64, .int .i64]))) := ⟨⟨_, _, _, Tryz.underlying211⟩, fun _ h => (by cases h), Tryz.t211, rfl, rfl, fun _ h => by cases h⟩
theorem tn212 : TnOk Tryz.prog 212 (.fn [.st [.sl 3 (.int .i64), .sl 3 (.int .i64)], .int .i64] (.st [.int .i64, .sl 3 (.int .i64), .sl 3 (.int .i64)])) := ⟨⟨_, _, _, Tryz.underlying212⟩, fun _ h => (by cases h), Tryz.t212, rfl, rfl, fun _ h => by cases h⟩
theorem tn213 : TnOk Tryz.prog 213 (.fn [.st [.sl 3 (.int .i64), .sl 3 (.int .i64)], .int .i64, .int .i64, .int .i64] (.bool)) := ⟨⟨_, _, _, Tryz.underlying213⟩, fun _ h => (by cases h), Tryz.t213, rfl, rfl, fun _ h => by cases h⟩
theorem tn214 : TnOk Tryz.prog 214 (.fn [.sl 172 (.st [.int .i64, .sl 3 (.int .i64), .sl 3 (.int .i64)]), .sl 172 (.st [.int .i64, .sl 3 (.int .i64), .sl 3 (.int .i64)])] (.bool)) := ⟨⟨_, _, _, Tryz.underlying214⟩, fun _ h => (by cases h), Tryz.t214, rfl, rfl, fun _ h => by cases h⟩
theorem tn215 : TnOk Tryz.prog 215 (.fn [.sl 228 (.st [.int .i64, .int .i64]), .sl 228 (.st [.int .i64, .int .i64])] (.bool)) := ⟨⟨_, _, _, Tryz.underlying215⟩, fun _ h => (by cases h), Tryz.t215, rfl, rfl, fun _ h => by cases h⟩
theorem tn219 : TnOk Tryz.prog 219 (.fn [.st [.str, .int .i64, .sl 172 (.st [.int .i64, .sl 3 (.int .i64), .sl 3 (.int .i64)])], .int .i64, .int .i64] (.bool)) := ⟨⟨_, _, _, Tryz.underlying219⟩, fun _ h => (by cases h), Tryz.t219, rfl, rfl, fun _ h => by cases h⟩
theorem tn220 : TnOk Tryz.prog 220 (.fn [.st [.int .i64, .sl 159 (.st [.str, .int .i64, .sl 172 (.st [.int .i64, .sl 3 (.int .i64), .sl 3 (.int .i64)])]), .sl 164 (.st [.int .i64, .int .i64, .bool, .int .i64]), .sl 169 (.st [.sl 228 (.st [.int .i64, .int .i64]), .sl 25 (.sl 3 (.int .i64))]), .sl 3 (.int .i64)], .str] (.int .i64)) := ⟨⟨_, _, _, Tryz.underlying220⟩, fun _ h => (by cases h), Tryz.t220, rfl, rfl, fun _ h => by cases h⟩
theorem tn221 : TnOk Tryz.prog 221 (.fn [.st [.sl 228 (.st [.int .i64, .int .i64]), .sl 25 (.sl 3 (.int .i64))]] (.bool)) := ⟨⟨_, _, _, Tryz.underlying221⟩, fun _ h => (by cases h), Tryz.t221, rfl, rfl, fun _ h => by cases h⟩
theorem tn227 : TnOk Tryz.prog 227 (.st [.int .i64, .int .i64]) := ⟨⟨_, Tryz.underlying227, Tryz.eqGuardType227, Tryz.stoodInHeld227, rfl, fun j τ h => by
    cases j with
    | zero => cases h; exact ⟨_, _, rfl, rfl, by decide, by decide, Tryz.underlying3, rfl, fun us h => by cases h⟩
    | succ j =>
     cases j with
     | zero => cases h; exact ⟨_, _, rfl, rfl, by decide, by decide, Tryz.underlying3, rfl, fun us h => by cases h⟩
     | succ j =>
      cases h⟩, (fun us hus fs hfs j τ h f hf => by
    cases hus
    rw [Tryz.underlying227] at hfs
    cases hfs
    cases j with
    | zero => cases h; cases hf; exact ⟨fun k e => by cases e; exact Tryz.underlying3, fun e => (by cases e), fun e => (by cases e)⟩
    | succ j =>
     cases j with
     | zero => cases h; cases hf; exact ⟨fun k e => by cases e; exact Tryz.underlying3, fun e => (by cases e), fun e => (by cases e)⟩
     | succ j =>
      cases h), Tryz.t227, rfl, rfl, fun _ _ => rfl⟩
theorem tn228 : TnOk Tryz.prog 228 (.st [.int .i64, .int .i64]) := ⟨⟨_, Tryz.underlying228, Tryz.eqGuardType228, Tryz.stoodInHeld228, rfl, fun j τ h => by
    cases j with
    | zero => cases h; exact ⟨_, _, rfl, rfl, by decide, by decide, Tryz.underlying3, rfl, fun us h => by cases h⟩
    | succ j =>
     cases j with
     | zero => cases h; exact ⟨_, _, rfl, rfl, by decide, by decide, Tryz.underlying3, rfl, fun us h => by cases h⟩
     | succ j =>
      cases h⟩, (fun us hus fs hfs j τ h f hf => by
    cases hus
    rw [Tryz.underlying228] at hfs
    cases hfs
    cases j with
    | zero => cases h; cases hf; exact ⟨fun k e => by cases e; exact Tryz.underlying3, fun e => (by cases e), fun e => (by cases e)⟩
    | succ j =>
     cases j with
     | zero => cases h; cases hf; exact ⟨fun k e => by cases e; exact Tryz.underlying3, fun e => (by cases e), fun e => (by cases e)⟩
     | succ j =>
      cases h), Tryz.t228, rfl, rfl, fun _ _ => rfl⟩
theorem tn230 : TnOk Tryz.prog 230 (.fn [.sl 228 (.st [.int .i64, .int .i64]), .int .i64, .int .i64] (.int .i64)) := ⟨⟨_, _, _, Tryz.underlying230⟩, fun _ h => (by cases h), Tryz.t230, rfl, rfl, fun _ h => by cases h⟩
theorem tn236 : TnOk Tryz.prog 236 (.fn [.sl 164 (.st [.int .i64, .int .i64, .bool, .int .i64]), .fn [.st [.int .i64, .int .i64, .bool, .int .i64]] (.bool)] (.bool)) := ⟨⟨_, _, _, Tryz.underlying236⟩, fun _ h => (by cases h), Tryz.t236, rfl, rfl, fun _ h => by cases h⟩
theorem tn237 : TnOk Tryz.prog 237 (.fn [.st [.int .i64, .int .i64, .bool, .int .i64]] (.bool)) := ⟨⟨_, _, _, Tryz.underlying237⟩, fun _ h => (by cases h), Tryz.t237, rfl, rfl, fun _ h => by cases h⟩
theorem tn240 : TnOk Tryz.prog 240 (.fn [.st [.int .i64, .sl 159 (.st [.str, .int .i64, .sl 172 (.st [.int .i64, .sl 3 (.int .i64), .sl 3 (.int .i64)])]), .sl 164 (.st [.int .i64, .int .i64, .bool, .int .i64]), .sl 169 (.st [.sl 228 (.st [.int .i64, .int .i64]), .sl 25 (.sl 3 (.int .i64))]), .sl 3 (.int .i64)], .st [.sl 3 (.int .i64), .sl 3 (.int .i64)], .int .i64, .int .i64] (.int .i64)) := ⟨⟨_, _, _, Tryz.underlying240⟩, fun _ h => (by cases h), Tryz.t240, rfl, rfl, fun _ h => by cases h⟩
theorem tn241 : TnOk Tryz.prog 241 (.fn [.st [.int .i64, .sl 3 (.int .i64), .sl 3 (.int .i64)], .int .i64] (.int .i64)) := ⟨⟨_, _, _, Tryz.underlying241⟩, fun _ h => (by cases h), Tryz.t241, rfl, rfl, fun _ h => by cases h⟩
theorem tn242 : TnOk Tryz.prog 242 (.st [.int .i64, .sl 3 (.int .i64), .sl 3 (.int .i64)]) := ⟨⟨_, Tryz.underlying242, Tryz.eqGuardType242, Tryz.stoodInHeld242, rfl, fun j τ h => by
    cases j with
    | zero => cases h; exact ⟨_, _, rfl, rfl, by decide, by decide, Tryz.underlying3, rfl, fun us h => by cases h⟩
    | succ j =>
     cases j with
     | zero => cases h; exact ⟨_, _, rfl, rfl, by decide, by decide, Tryz.underlying25, rfl, fun us h => by cases h⟩
     | succ j =>
      cases j with
      | zero => cases h; exact ⟨_, _, rfl, rfl, by decide, by decide, Tryz.underlying25, rfl, fun us h => by cases h⟩
      | succ j =>
       cases h⟩, (fun us hus fs hfs j τ h f hf => by
    cases hus
    rw [Tryz.underlying242] at hfs
    cases hfs
    cases j with
    | zero => cases h; cases hf; exact ⟨fun k e => by cases e; exact Tryz.underlying3, fun e => (by cases e), fun e => (by cases e)⟩
    | succ j =>
     cases j with
     | zero => cases h; cases hf; exact ⟨fun k e => (by cases e), fun e => (by cases e), fun e => (by cases e)⟩
     | succ j =>
      cases j with
      | zero => cases h; cases hf; exact ⟨fun k e => (by cases e), fun e => (by cases e), fun e => (by cases e)⟩
      | succ j =>
       cases h), Tryz.t242, rfl, rfl, fun _ _ => rfl⟩
theorem tn243 : TnOk Tryz.prog 243 (.fn [.sl 228 (.st [.int .i64, .int .i64])] (.bool)) := ⟨⟨_, _, _, Tryz.underlying243⟩, fun _ h => (by cases h), Tryz.t243, rfl, rfl, fun _ h => by cases h⟩
theorem tn244 : TnOk Tryz.prog 244 (.fn [.st [.int .i64, .sl 159 (.st [.str, .int .i64, .sl 172 (.st [.int .i64, .sl 3 (.int .i64), .sl 3 (.int .i64)])]), .sl 164 (.st [.int .i64, .int .i64, .bool, .int .i64]), .sl 169 (.st [.sl 228 (.st [.int .i64, .int .i64]), .sl 25 (.sl 3 (.int .i64))]), .sl 3 (.int .i64)], .st [.sl 3 (.int .i64), .sl 3 (.int .i64)], .int .i64, .int .i64, .int .i64] (.bool)) := ⟨⟨_, _, _, Tryz.underlying244⟩, fun _ h => (by cases h), Tryz.t244, rfl, rfl, fun _ h => by cases h⟩
theorem tn245 : TnOk Tryz.prog 245 (.fn [.st [.int .i64, .sl 3 (.int .i64), .sl 3 (.int .i64)]] (.st [.int .i64, .sl 3 (.int .i64), .sl 3 (.int .i64)])) := ⟨⟨_, _, _, Tryz.underlying245⟩, fun _ h => (by cases h), Tryz.t245, rfl, rfl, fun _ h => by cases h⟩
theorem tn246 : TnOk Tryz.prog 246 (.fn [.st [.int .i64, .int .i64]] (.st [.int .i64, .int .i64])) := ⟨⟨_, _, _, Tryz.underlying246⟩, fun _ h => (by cases h), Tryz.t246, rfl, rfl, fun _ h => by cases h⟩
theorem tn247 : TnOk Tryz.prog 247 (.st [.int .i64, .int .i64]) := ⟨⟨_, Tryz.underlying247, Tryz.eqGuardType247, Tryz.stoodInHeld247, rfl, fun j τ h => by
    cases j with
    | zero => cases h; exact ⟨_, _, rfl, rfl, by decide, by decide, Tryz.underlying3, rfl, fun us h => by cases h⟩
    | succ j =>
     cases j with
     | zero => cases h; exact ⟨_, _, rfl, rfl, by decide, by decide, Tryz.underlying3, rfl, fun us h => by cases h⟩
     | succ j =>
      cases h⟩, (fun us hus fs hfs j τ h f hf => by
    cases hus
    rw [Tryz.underlying247] at hfs
    cases hfs
    cases j with
    | zero => cases h; cases hf; exact ⟨fun k e => by cases e; exact Tryz.underlying3, fun e => (by cases e), fun e => (by cases e)⟩
    | succ j =>
     cases j with
     | zero => cases h; cases hf; exact ⟨fun k e => by cases e; exact Tryz.underlying3, fun e => (by cases e), fun e => (by cases e)⟩
     | succ j =>
      cases h), Tryz.t247, rfl, rfl, fun _ _ => rfl⟩
theorem tn248 : TnOk Tryz.prog 248 (.fn [.st [.int .i64, .sl 159 (.st [.str, .int .i64, .sl 172 (.st [.int .i64, .sl 3 (.int .i64), .sl 3 (.int .i64)])]), .sl 164 (.st [.int .i64, .int .i64, .bool, .int .i64]), .sl 169 (.st [.sl 228 (.st [.int .i64, .int .i64]), .sl 25 (.sl 3 (.int .i64))]), .sl 3 (.int .i64)], .int .i64, .int .i64, .int .i64] (.int .i64)) := ⟨⟨_, _, _, Tryz.underlying248⟩, fun _ h => (by cases h), Tryz.t248, rfl, rfl, fun _ h => by cases h⟩
theorem tn249 : TnOk Tryz.prog 249 (.fn [.st [.int .i64, .sl 3 (.int .i64), .sl 3 (.int .i64)], .st [.int .i64, .sl 3 (.int .i64), .sl 3 (.int .i64)]] (.bool)) := ⟨⟨_, _, _, Tryz.underlying249⟩, fun _ h => (by cases h), Tryz.t249, rfl, rfl, fun _ h => by cases h⟩
theorem tn250 : TnOk Tryz.prog 250 (.fn [.st [.int .i64, .int .i64], .st [.int .i64, .int .i64]] (.bool)) := ⟨⟨_, _, _, Tryz.underlying250⟩, fun _ h => (by cases h), Tryz.t250, rfl, rfl, fun _ h => by cases h⟩
theorem tn253 : TnOk Tryz.prog 253 (.fn [.st [.int .i64, .sl 3 (.int .i64), .sl 3 (.int .i64)], .int .i64, .int .i64] (.bool)) := ⟨⟨_, _, _, Tryz.underlying253⟩, fun _ h => (by cases h), Tryz.t253, rfl, rfl, fun _ h => by cases h⟩
theorem tn254 : TnOk Tryz.prog 254 (.fn [.str] (.bool)) := ⟨⟨_, _, _, Tryz.underlying254⟩, fun _ h => (by cases h), Tryz.t254, rfl, rfl, fun _ h => by cases h⟩
theorem tn260 : TnOk Tryz.prog 260 (.fn [.sl 3 (.int .i64)] (.tup [])) := ⟨⟨_, _, _, Tryz.underlying260⟩, fun _ h => (by cases h), Tryz.t260, rfl, rfl, fun _ h => by cases h⟩
theorem tn265 : TnOk Tryz.prog 265 (.fn [.sl 159 (.st [.str, .int .i64, .sl 172 (.st [.int .i64, .sl 3 (.int .i64), .sl 3 (.int .i64)])]), .fn [.st [.str, .int .i64, .sl 172 (.st [.int .i64, .sl 3 (.int .i64), .sl 3 (.int .i64)])]] (.bool)] (.int .i64)) := ⟨⟨_, _, _, Tryz.underlying265⟩, fun _ h => (by cases h), Tryz.t265, rfl, rfl, fun _ h => by cases h⟩
theorem tn266 : TnOk Tryz.prog 266 (.fn [.st [.str, .int .i64, .sl 172 (.st [.int .i64, .sl 3 (.int .i64), .sl 3 (.int .i64)])]] (.bool)) := ⟨⟨_, _, _, Tryz.underlying266⟩, fun _ h => (by cases h), Tryz.t266, rfl, rfl, fun _ h => by cases h⟩
theorem tn267 : TnOk Tryz.prog 267 (.fn [.sl 164 (.st [.int .i64, .int .i64, .bool, .int .i64]), .fn [.st [.int .i64, .int .i64, .bool, .int .i64]] (.bool)] (.int .i64)) := ⟨⟨_, _, _, Tryz.underlying267⟩, fun _ h => (by cases h), Tryz.t267, rfl, rfl, fun _ h => by cases h⟩
theorem tn268 : TnOk Tryz.prog 268 (.fn [.sl 228 (.st [.int .i64, .int .i64]), .int .i64, .int .i64] (.bool)) := ⟨⟨_, _, _, Tryz.underlying268⟩, fun _ h => (by cases h), Tryz.t268, rfl, rfl, fun _ h => by cases h⟩
theorem tn271 : TnOk Tryz.prog 271 (.fn [.sl 3 (.int .i64), .int .i64, .int .i64, .int .i64] (.tup [])) := ⟨⟨_, _, _, Tryz.underlying271⟩, fun _ h => (by cases h), Tryz.t271, rfl, rfl, fun _ h => by cases h⟩
theorem tn272 : TnOk Tryz.prog 272 (.fn [.int .u64] (.int .i64)) := ⟨⟨_, _, _, Tryz.underlying272⟩, fun _ h => (by cases h), Tryz.t272, rfl, rfl, fun _ h => by cases h⟩
theorem tn273 : TnOk Tryz.prog 273 (.int .u64) := ⟨Tryz.underlying273, fun _ h => (by cases h), Tryz.t273, rfl, rfl, fun _ _ => rfl⟩
theorem tn275 : TnOk Tryz.prog 275 (.fn [.sl 3 (.int .i64), .int .i64, .int .i64] (.tup [])) := ⟨⟨_, _, _, Tryz.underlying275⟩, fun _ h => (by cases h), Tryz.t275, rfl, rfl, fun _ h => by cases h⟩
theorem tn276 : TnOk Tryz.prog 276 (.int .i64) := ⟨Tryz.underlying276, fun _ h => (by cases h), Tryz.t276, rfl, rfl, fun _ _ => rfl⟩
theorem tn278 : TnOk Tryz.prog 278 (.fn [.sl 3 (.int .i64), .int .i64, .int .i64] (.tup [.int .i64, .int .i64])) := ⟨⟨_, _, _, Tryz.underlying278⟩, fun _ h => (by cases h), Tryz.t278, rfl, rfl, fun _ h => by cases h⟩
theorem tn279 : TnOk Tryz.prog 279 (.fn [.sl 3 (.int .i64), .int .i64, .int .i64] (.bool)) := ⟨⟨_, _, _, Tryz.underlying279⟩, fun _ h => (by cases h), Tryz.t279, rfl, rfl, fun _ h => by cases h⟩
theorem tn280 : TnOk Tryz.prog 280 (.fn [.int .i64, .int .i64] (.bool)) := ⟨⟨_, _, _, Tryz.underlying280⟩, fun _ h => (by cases h), Tryz.t280, rfl, rfl, fun _ h => by cases h⟩
theorem tn281 : TnOk Tryz.prog 281 (.fn [.sl 3 (.int .i64), .int .i64, .int .i64, .int .i64] (.int .i64)) := ⟨⟨_, _, _, Tryz.underlying281⟩, fun _ h => (by cases h), Tryz.t281, rfl, rfl, fun _ h => by cases h⟩
theorem tn282 : TnOk Tryz.prog 282 (.fn [.sl 3 (.int .i64), .int .i64, .int .i64, .int .i64] (.tup [.int .i64, .bool])) := ⟨⟨_, _, _, Tryz.underlying282⟩, fun _ h => (by cases h), Tryz.t282, rfl, rfl, fun _ h => by cases h⟩
theorem tn283 : TnOk Tryz.prog 283 (.fn [.int .u32] (.int .i64)) := ⟨⟨_, _, _, Tryz.underlying283⟩, fun _ h => (by cases h), Tryz.t283, rfl, rfl, fun _ h => by cases h⟩
theorem tn284 : TnOk Tryz.prog 284 (.int .u32) := ⟨Tryz.underlying284, fun _ h => (by cases h), Tryz.t284, rfl, rfl, fun _ _ => rfl⟩
theorem tn285 : TnOk Tryz.prog 285 (.fn [.int .u64] (.int .i64)) := ⟨⟨_, _, _, Tryz.underlying285⟩, fun _ h => (by cases h), Tryz.t285, rfl, rfl, fun _ h => by cases h⟩
theorem tn286 : TnOk Tryz.prog 286 (.int .u64) := ⟨Tryz.underlying286, fun _ h => (by cases h), Tryz.t286, rfl, rfl, fun _ _ => rfl⟩
theorem tn287 : TnOk Tryz.prog 287 (.int .u64) := ⟨Tryz.underlying287, fun _ h => (by cases h), Tryz.t287, rfl, rfl, fun _ _ => rfl⟩
def tys : List (Nat × Ty) := [(3, .int .i64), (4, .bool), (5, .int .u8), (9, .str), (22, .sl 150 (.st [.str, .int .i64, .sl 242 (.st [.int .i64, .sl 3 (.int .i64), .sl 3 (.int .i64)])])), (23, .sl 166 (.st [.int .i64, .int .i64, .bool, .int .i64])), (24, .sl 154 (.st [.sl 247 (.st [.int .i64, .int .i64]), .sl 25 (.sl 3 (.int .i64))])), (25, .sl 3 (.int .i64)), (26, .st [.int .i64, .sl 150 (.st [.str, .int .i64, .sl 242 (.st [.int .i64, .sl 3 (.int .i64), .sl 3 (.int .i64)])]), .sl 166 (.st [.int .i64, .int .i64, .bool, .int .i64]), .sl 154 (.st [.sl 247 (.st [.int .i64, .int .i64]), .sl 25 (.sl 3 (.int .i64))]), .sl 3 (.int .i64)]), (27, .st [.int .i64, .sl 150 (.st [.str, .int .i64, .sl 242 (.st [.int .i64, .sl 3 (.int .i64), .sl 3 (.int .i64)])]), .sl 166 (.st [.int .i64, .int .i64, .bool, .int .i64]), .sl 154 (.st [.sl 247 (.st [.int .i64, .int .i64]), .sl 25 (.sl 3 (.int .i64))]), .sl 3 (.int .i64)]), (28, .st [.sl 3 (.int .i64), .sl 3 (.int .i64)]), (29, .st [.sl 3 (.int .i64), .sl 3 (.int .i64)]), (30, .st [.st [.sl 3 (.int .i64), .sl 3 (.int .i64)], .sl 3 (.int .i64)]), (31, .st [.st [.sl 3 (.int .i64), .sl 3 (.int .i64)], .sl 3 (.int .i64)]), (32, .fn [.st [.int .i64, .sl 150 (.st [.str, .int .i64, .sl 242 (.st [.int .i64, .sl 3 (.int .i64), .sl 3 (.int .i64)])]), .sl 166 (.st [.int .i64, .int .i64, .bool, .int .i64]), .sl 154 (.st [.sl 247 (.st [.int .i64, .int .i64]), .sl 25 (.sl 3 (.int .i64))]), .sl 3 (.int .i64)], .int .i64] (.int .i64)), (33, .fn [.st [.st [.sl 3 (.int .i64), .sl 3 (.int .i64)], .sl 3 (.int .i64)], .int .i64] (.int .i64)), (35, .fn [.st [.int .i64, .sl 159 (.st [.str, .int .i64, .sl 172 (.st [.int .i64, .sl 3 (.int .i64), .sl 3 (.int .i64)])]), .sl 164 (.st [.int .i64, .int .i64, .bool, .int .i64]), .sl 169 (.st [.sl 228 (.st [.int .i64, .int .i64]), .sl 25 (.sl 3 (.int .i64))]), .sl 3 (.int .i64)], .st [.st [.sl 3 (.int .i64), .sl 3 (.int .i64)], .sl 3 (.int .i64)], .int .i64, .int .i64, .int .i64] (.tup [.int .i64, .bool])), (36, .sl 159 (.st [.str, .int .i64, .sl 172 (.st [.int .i64, .sl 3 (.int .i64), .sl 3 (.int .i64)])])), (37, .sl 164 (.st [.int .i64, .int .i64, .bool, .int .i64])), (38, .sl 169 (.st [.sl 228 (.st [.int .i64, .int .i64]), .sl 25 (.sl 3 (.int .i64))])), (39, .st [.int .i64, .sl 159 (.st [.str, .int .i64, .sl 172 (.st [.int .i64, .sl 3 (.int .i64), .sl 3 (.int .i64)])]), .sl 164 (.st [.int .i64, .int .i64, .bool, .int .i64]), .sl 169 (.st [.sl 228 (.st [.int .i64, .int .i64]), .sl 25 (.sl 3 (.int .i64))]), .sl 3 (.int .i64)]), (40, .st [.int .i64, .sl 159 (.st [.str, .int .i64, .sl 172 (.st [.int .i64, .sl 3 (.int .i64), .sl 3 (.int .i64)])]), .sl 164 (.st [.int .i64, .int .i64, .bool, .int .i64]), .sl 169 (.st [.sl 228 (.st [.int .i64, .int .i64]), .sl 25 (.sl 3 (.int .i64))]), .sl 3 (.int .i64)]), (41, .fn [.st [.int .i64, .sl 150 (.st [.str, .int .i64, .sl 242 (.st [.int .i64, .sl 3 (.int .i64), .sl 3 (.int .i64)])]), .sl 166 (.st [.int .i64, .int .i64, .bool, .int .i64]), .sl 154 (.st [.sl 247 (.st [.int .i64, .int .i64]), .sl 25 (.sl 3 (.int .i64))]), .sl 3 (.int .i64)]] (.st [.int .i64, .sl 159 (.st [.str, .int .i64, .sl 172 (.st [.int .i64, .sl 3 (.int .i64), .sl 3 (.int .i64)])]), .sl 164 (.st [.int .i64, .int .i64, .bool, .int .i64]), .sl 169 (.st [.sl 228 (.st [.int .i64, .int .i64]), .sl 25 (.sl 3 (.int .i64))]), .sl 3 (.int .i64)])), (42, .st [.sl 3 (.int .i64), .sl 3 (.int .i64)]), (43, .st [.st [.sl 3 (.int .i64), .sl 3 (.int .i64)], .sl 3 (.int .i64)]), (44, .st [.st [.sl 3 (.int .i64), .sl 3 (.int .i64)], .sl 3 (.int .i64)]), (45, .fn [.st [.st [.sl 3 (.int .i64), .sl 3 (.int .i64)], .sl 3 (.int .i64)]] (.st [.st [.sl 3 (.int .i64), .sl 3 (.int .i64)], .sl 3 (.int .i64)])), (46, .fn [.st [.int .i64, .sl 159 (.st [.str, .int .i64, .sl 172 (.st [.int .i64, .sl 3 (.int .i64), .sl 3 (.int .i64)])]), .sl 164 (.st [.int .i64, .int .i64, .bool, .int .i64]), .sl 169 (.st [.sl 228 (.st [.int .i64, .int .i64]), .sl 25 (.sl 3 (.int .i64))]), .sl 3 (.int .i64)], .st [.int .i64, .sl 159 (.st [.str, .int .i64, .sl 172 (.st [.int .i64, .sl 3 (.int .i64), .sl 3 (.int .i64)])]), .sl 164 (.st [.int .i64, .int .i64, .bool, .int .i64]), .sl 169 (.st [.sl 228 (.st [.int .i64, .int .i64]), .sl 25 (.sl 3 (.int .i64))]), .sl 3 (.int .i64)]] (.bool)), (47, .fn [.st [.st [.sl 3 (.int .i64), .sl 3 (.int .i64)], .sl 3 (.int .i64)], .st [.st [.sl 3 (.int .i64), .sl 3 (.int .i64)], .sl 3 (.int .i64)]] (.bool)), (48, .fn [.st [.int .i64, .sl 150 (.st [.str, .int .i64, .sl 242 (.st [.int .i64, .sl 3 (.int .i64), .sl 3 (.int .i64)])]), .sl 166 (.st [.int .i64, .int .i64, .bool, .int .i64]), .sl 154 (.st [.sl 247 (.st [.int .i64, .int .i64]), .sl 25 (.sl 3 (.int .i64))]), .sl 3 (.int .i64)], .st [.st [.sl 3 (.int .i64), .sl 3 (.int .i64)], .sl 3 (.int .i64)], .int .i64, .int .i64, .int .i64] (.bool)), (49, .st [.int .i64, .int .i64, .int .i64, .int .i64]), (54, .st [.int .i64, .int .i64, .int .i64, .int .i64]), (64, .fn [.st [.sl 3 (.int .i64), .sl 3 (.int .i64)], .int .i64] (.int .i64)), (67, .fn [.st [.sl 3 (.int .i64), .sl 3 (.int .i64)]] (.st [.sl 3 (.int .i64), .sl 3 (.int .i64)])), (68, .fn [.st [.sl 3 (.int .i64), .sl 3 (.int .i64)], .st [.sl 3 (.int .i64), .sl 3 (.int .i64)]] (.bool)), (69, .fn [.st [.sl 3 (.int .i64), .sl 3 (.int .i64)], .int .i64] (.int .i64)), (74, .sl 25 (.sl 3 (.int .i64))), (92, .fn [.sl 150 (.st [.str, .int .i64, .sl 242 (.st [.int .i64, .sl 3 (.int .i64), .sl 3 (.int .i64)])]), .int .i64] (.int .i64)), (93, .fn [.sl 166 (.st [.int .i64, .int .i64, .bool, .int .i64]), .int .i64] (.int .i64)), (94, .fn [.sl 154 (.st [.sl 247 (.st [.int .i64, .int .i64]), .sl 25 (.sl 3 (.int .i64))]), .int .i64] (.int .i64)), (95, .fn [.sl 3 (.int .i64), .int .i64] (.int .i64)), (96, .fn [.st [.int .i64, .sl 159 (.st [.str, .int .i64, .sl 172 (.st [.int .i64, .sl 3 (.int .i64), .sl 3 (.int .i64)])]), .sl 164 (.st [.int .i64, .int .i64, .bool, .int .i64]), .sl 169 (.st [.sl 228 (.st [.int .i64, .int .i64]), .sl 25 (.sl 3 (.int .i64))]), .sl 3 (.int .i64)], .st [.st [.sl 3 (.int .i64), .sl 3 (.int .i64)], .sl 3 (.int .i64)], .int .i64, .int .i64] (.bool)), (97, .fn [.int .i64, .int .i64] (.int .i64)), (98, .fn [.st [.int .i64, .sl 159 (.st [.str, .int .i64, .sl 172 (.st [.int .i64, .sl 3 (.int .i64), .sl 3 (.int .i64)])]), .sl 164 (.st [.int .i64, .int .i64, .bool, .int .i64]), .sl 169 (.st [.sl 228 (.st [.int .i64, .int .i64]), .sl 25 (.sl 3 (.int .i64))]), .sl 3 (.int .i64)], .st [.st [.sl 3 (.int .i64), .sl 3 (.int .i64)], .sl 3 (.int .i64)], .int .i64, .int .i64, .int .i64] (.bool)), (99, .fn [.sl 150 (.st [.str, .int .i64, .sl 242 (.st [.int .i64, .sl 3 (.int .i64), .sl 3 (.int .i64)])])] (.sl 159 (.st [.str, .int .i64, .sl 172 (.st [.int .i64, .sl 3 (.int .i64), .sl 3 (.int .i64)])]))), (100, .fn [.sl 166 (.st [.int .i64, .int .i64, .bool, .int .i64])] (.sl 164 (.st [.int .i64, .int .i64, .bool, .int .i64]))), (101, .fn [.sl 154 (.st [.sl 247 (.st [.int .i64, .int .i64]), .sl 25 (.sl 3 (.int .i64))])] (.sl 169 (.st [.sl 228 (.st [.int .i64, .int .i64]), .sl 25 (.sl 3 (.int .i64))]))), (102, .fn [.sl 3 (.int .i64)] (.sl 3 (.int .i64))), (103, .fn [.sl 159 (.st [.str, .int .i64, .sl 172 (.st [.int .i64, .sl 3 (.int .i64), .sl 3 (.int .i64)])]), .sl 159 (.st [.str, .int .i64, .sl 172 (.st [.int .i64, .sl 3 (.int .i64), .sl 3 (.int .i64)])])] (.bool)), (104, .fn [.sl 164 (.st [.int .i64, .int .i64, .bool, .int .i64]), .sl 164 (.st [.int .i64, .int .i64, .bool, .int .i64])] (.bool)), (105, .fn [.sl 169 (.st [.sl 228 (.st [.int .i64, .int .i64]), .sl 25 (.sl 3 (.int .i64))]), .sl 169 (.st [.sl 228 (.st [.int .i64, .int .i64]), .sl 25 (.sl 3 (.int .i64))])] (.bool)), (106, .fn [.sl 3 (.int .i64), .sl 3 (.int .i64)] (.bool)), (115, .fn [.st [.st [.sl 3 (.int .i64), .sl 3 (.int .i64)], .sl 3 (.int .i64)]] (.st [.st [.sl 3 (.int .i64), .sl 3 (.int .i64)], .sl 3 (.int .i64)])), (116, .fn [.sl 3 (.int .i64), .int .i64] (.sl 3 (.int .i64))), (117, .fn [.int .i64, .int .i64, .int .i64] (.st [.st [.sl 3 (.int .i64), .sl 3 (.int .i64)], .sl 3 (.int .i64)])), (121, .fn [.st [.int .i64, .sl 159 (.st [.str, .int .i64, .sl 172 (.st [.int .i64, .sl 3 (.int .i64), .sl 3 (.int .i64)])]), .sl 164 (.st [.int .i64, .int .i64, .bool, .int .i64]), .sl 169 (.st [.sl 228 (.st [.int .i64, .int .i64]), .sl 25 (.sl 3 (.int .i64))]), .sl 3 (.int .i64)], .st [.sl 3 (.int .i64), .sl 3 (.int .i64)]] (.bool)), (128, .fn [.sl 25 (.sl 3 (.int .i64)), .int .i64] (.int .i64)), (135, .fn [.sl 25 (.sl 3 (.int .i64))] (.sl 25 (.sl 3 (.int .i64)))), (140, .fn [.sl 25 (.sl 3 (.int .i64)), .sl 25 (.sl 3 (.int .i64))] (.bool)), (142, .fn [.int .i64, .int .i64, .int .i64] (.bool)), (143, .fn [.st [.sl 3 (.int .i64), .sl 3 (.int .i64)]] (.st [.sl 3 (.int .i64), .sl 3 (.int .i64)])), (144, .fn [.int .i64] (.bool)), (147, .fn [.st [.str, .int .i64, .sl 242 (.st [.int .i64, .sl 3 (.int .i64), .sl 3 (.int .i64)])], .int .i64] (.int .i64)), (148, .sl 242 (.st [.int .i64, .sl 3 (.int .i64), .sl 3 (.int .i64)])), (149, .st [.str, .int .i64, .sl 242 (.st [.int .i64, .sl 3 (.int .i64), .sl 3 (.int .i64)])]), (150, .st [.str, .int .i64, .sl 242 (.st [.int .i64, .sl 3 (.int .i64), .sl 3 (.int .i64)])]), (151, .fn [.st [.sl 247 (.st [.int .i64, .int .i64]), .sl 25 (.sl 3 (.int .i64))], .int .i64] (.int .i64)), (152, .sl 247 (.st [.int .i64, .int .i64])), (153, .st [.sl 247 (.st [.int .i64, .int .i64]), .sl 25 (.sl 3 (.int .i64))]), (154, .st [.sl 247 (.st [.int .i64, .int .i64]), .sl 25 (.sl 3 (.int .i64))]), (155, .fn [.st [.int .i64, .sl 159 (.st [.str, .int .i64, .sl 172 (.st [.int .i64, .sl 3 (.int .i64), .sl 3 (.int .i64)])]), .sl 164 (.st [.int .i64, .int .i64, .bool, .int .i64]), .sl 169 (.st [.sl 228 (.st [.int .i64, .int .i64]), .sl 25 (.sl 3 (.int .i64))]), .sl 3 (.int .i64)], .st [.st [.sl 3 (.int .i64), .sl 3 (.int .i64)], .sl 3 (.int .i64)]] (.bool)), (156, .fn [.sl 3 (.int .i64), .int .i64] (.bool)), (157, .sl 172 (.st [.int .i64, .sl 3 (.int .i64), .sl 3 (.int .i64)])), (158, .st [.str, .int .i64, .sl 172 (.st [.int .i64, .sl 3 (.int .i64), .sl 3 (.int .i64)])]), (159, .st [.str, .int .i64, .sl 172 (.st [.int .i64, .sl 3 (.int .i64), .sl 3 (.int .i64)])]), (160, .fn [.st [.int .i64, .sl 159 (.st [.str, .int .i64, .sl 172 (.st [.int .i64, .sl 3 (.int .i64), .sl 3 (.int .i64)])]), .sl 164 (.st [.int .i64, .int .i64, .bool, .int .i64]), .sl 169 (.st [.sl 228 (.st [.int .i64, .int .i64]), .sl 25 (.sl 3 (.int .i64))]), .sl 3 (.int .i64)], .st [.sl 3 (.int .i64), .sl 3 (.int .i64)], .int .i64] (.int .i64)), (161, .fn [.st [.int .i64, .sl 159 (.st [.str, .int .i64, .sl 172 (.st [.int .i64, .sl 3 (.int .i64), .sl 3 (.int .i64)])]), .sl 164 (.st [.int .i64, .int .i64, .bool, .int .i64]), .sl 169 (.st [.sl 228 (.st [.int .i64, .int .i64]), .sl 25 (.sl 3 (.int .i64))]), .sl 3 (.int .i64)], .st [.st [.sl 3 (.int .i64), .sl 3 (.int .i64)], .sl 3 (.int .i64)], .int .i64] (.bool)), (162, .fn [.st [.str, .int .i64, .sl 242 (.st [.int .i64, .sl 3 (.int .i64), .sl 3 (.int .i64)])]] (.st [.str, .int .i64, .sl 172 (.st [.int .i64, .sl 3 (.int .i64), .sl 3 (.int .i64)])])), (163, .st [.int .i64, .int .i64, .bool, .int .i64]), (164, .st [.int .i64, .int .i64, .bool, .int .i64]), (165, .fn [.st [.int .i64, .int .i64, .bool, .int .i64]] (.st [.int .i64, .int .i64, .bool, .int .i64])), (166, .st [.int .i64, .int .i64, .bool, .int .i64]), (167, .sl 228 (.st [.int .i64, .int .i64])), (168, .st [.sl 228 (.st [.int .i64, .int .i64]), .sl 25 (.sl 3 (.int .i64))]), (169, .st [.sl 228 (.st [.int .i64, .int .i64]), .sl 25 (.sl 3 (.int .i64))]), (170, .fn [.st [.sl 247 (.st [.int .i64, .int .i64]), .sl 25 (.sl 3 (.int .i64))]] (.st [.sl 228 (.st [.int .i64, .int .i64]), .sl 25 (.sl 3 (.int .i64))])), (171, .st [.int .i64, .sl 3 (.int .i64), .sl 3 (.int .i64)]), (172, .st [.int .i64, .sl 3 (.int .i64), .sl 3 (.int .i64)]), (173, .fn [.st [.int .i64, .sl 159 (.st [.str, .int .i64, .sl 172 (.st [.int .i64, .sl 3 (.int .i64), .sl 3 (.int .i64)])]), .sl 164 (.st [.int .i64, .int .i64, .bool, .int .i64]), .sl 169 (.st [.sl 228 (.st [.int .i64, .int .i64]), .sl 25 (.sl 3 (.int .i64))]), .sl 3 (.int .i64)], .int .i64] (.bool)), (174, .fn [.st [.str, .int .i64, .sl 172 (.st [.int .i64, .sl 3 (.int .i64), .sl 3 (.int .i64)])], .st [.str, .int .i64, .sl 172 (.st [.int .i64, .sl 3 (.int .i64), .sl 3 (.int .i64)])]] (.bool)), (175, .fn [.st [.int .i64, .int .i64, .bool, .int .i64], .st [.int .i64, .int .i64, .bool, .int .i64]] (.bool)), (176, .fn [.st [.sl 228 (.st [.int .i64, .int .i64]), .sl 25 (.sl 3 (.int .i64))], .st [.sl 228 (.st [.int .i64, .int .i64]), .sl 25 (.sl 3 (.int .i64))]] (.bool)), (180, .fn [.st [.int .i64, .sl 159 (.st [.str, .int .i64, .sl 172 (.st [.int .i64, .sl 3 (.int .i64), .sl 3 (.int .i64)])]), .sl 164 (.st [.int .i64, .int .i64, .bool, .int .i64]), .sl 169 (.st [.sl 228 (.st [.int .i64, .int .i64]), .sl 25 (.sl 3 (.int .i64))]), .sl 3 (.int .i64)]] (.bool)), (185, .fn [.sl 228 (.st [.int .i64, .int .i64]), .int .i64] (.int .i64)), (189, .fn [] (.st [.st [.sl 3 (.int .i64), .sl 3 (.int .i64)], .sl 3 (.int .i64)])), (197, .fn [.sl 3 (.int .i64)] (.bool)), (204, .fn [.st [.int .i64, .sl 159 (.st [.str, .int .i64, .sl 172 (.st [.int .i64, .sl 3 (.int .i64), .sl 3 (.int .i64)])]), .sl 164 (.st [.int .i64, .int .i64, .bool, .int .i64]), .sl 169 (.st [.sl 228 (.st [.int .i64, .int .i64]), .sl 25 (.sl 3 (.int .i64))]), .sl 3 (.int .i64)], .st [.sl 3 (.int .i64), .sl 3 (.int .i64)], .st [.int .i64, .int .i64, .int .i64, .int .i64]] (.bool)), (205, .fn [.st [.sl 3 (.int .i64), .sl 3 (.int .i64)], .st [.int .i64, .int .i64, .bool, .int .i64]] (.bool)), (206, .fn [.sl 242 (.st [.int .i64, .sl 3 (.int .i64), .sl 3 (.int .i64)]), .int .i64] (.int .i64)), (207, .fn [.sl 247 (.st [.int .i64, .int .i64]), .int .i64] (.int .i64)), (208, .fn [.int .i64] (.sl 3 (.int .i64))), (209, .fn [.st [.int .i64, .sl 159 (.st [.str, .int .i64, .sl 172 (.st [.int .i64, .sl 3 (.int .i64), .sl 3 (.int .i64)])]), .sl 164 (.st [.int .i64, .int .i64, .bool, .int .i64]), .sl 169 (.st [.sl 228 (.st [.int .i64, .int .i64]), .sl 25 (.sl 3 (.int .i64))]), .sl 3 (.int .i64)], .st [.sl 3 (.int .i64), .sl 3 (.int .i64)], .int .i64] (.st [.int .i64, .sl 3 (.int .i64), .sl 3 (.int .i64)])), (210, .fn [.sl 242 (.st [.int .i64, .sl 3 (.int .i64), .sl 3 (.int .i64)])] (.sl 172 (.st [.int .i64, .sl 3 (.int .i64), .sl 3 (.int .i64)]))), (211, .fn [.sl 247 (.st [.int .i64, .int .i64])] (.sl 228 (.st [.int .i64, .int .i64]))), (212, .fn [.st [.sl 3 (.int .i64), .sl 3 (.int .i64)], .int .i64] (.st [.int .i64, .sl 3 (.int .i64), .sl 3 (.int .i64)])), (213, .fn [.st [.sl 3 (.int .i64), .sl 3 (.int .i64)], .int .i64, .int .i64, .int .i64] (.bool)), (214, .fn [.sl 172 (.st [.int .i64, .sl 3 (.int .i64), .sl 3 (.int .i64)]), .sl 172 (.st [.int .i64, .sl 3 (.int .i64), .sl 3 (.int .i64)])] (.bool)), (215, .fn [.sl 228 (.st [.int .i64, .int .i64]), .sl 228 (.st [.int .i64, .int .i64])] (.bool)), (219, .fn [.st [.str, .int .i64, .sl 172 (.st [.int .i64, .sl 3 (.int .i64), .sl 3 (.int .i64)])], .int .i64, .int .i64] (.bool)), (220, .fn [.st [.int .i64, .sl 159 (.st [.str, .int .i64, .sl 172 (.st [.int .i64, .sl 3 (.int .i64), .sl 3 (.int .i64)])]), .sl 164 (.st [.int .i64, .int .i64, .bool, .int .i64]), .sl 169 (.st [.sl 228 (.st [.int .i64, .int .i64]), .sl 25 (.sl 3 (.int .i64))]), .sl 3 (.int .i64)], .str] (.int .i64)), (221, .fn [.st [.sl 228 (.st [.int .i64, .int .i64]), .sl 25 (.sl 3 (.int .i64))]] (.bool)), (227, .st [.int .i64, .int .i64]), (228, .st [.int .i64, .int .i64]), (230, .fn [.sl 228 (.st [.int .i64, .int .i64]), .int .i64, .int .i64] (.int .i64)), (236, .fn [.sl 164 (.st [.int .i64, .int .i64, .bool, .int .i64]), .fn [.st [.int .i64, .int .i64, .bool, .int .i64]] (.bool)] (.bool)), (237, .fn [.st [.int .i64, .int .i64, .bool, .int .i64]] (.bool)), (240, .fn [.st [.int .i64, .sl 159 (.st [.str, .int .i64, .sl 172 (.st [.int .i64, .sl 3 (.int .i64), .sl 3 (.int .i64)])]), .sl 164 (.st [.int .i64, .int .i64, .bool, .int .i64]), .sl 169 (.st [.sl 228 (.st [.int .i64, .int .i64]), .sl 25 (.sl 3 (.int .i64))]), .sl 3 (.int .i64)], .st [.sl 3 (.int .i64), .sl 3 (.int .i64)], .int .i64, .int .i64] (.int .i64)), (241, .fn [.st [.int .i64, .sl 3 (.int .i64), .sl 3 (.int .i64)], .int .i64] (.int .i64)), (242, .st [.int .i64, .sl 3 (.int .i64), .sl 3 (.int .i64)]), (243, .fn [.sl 228 (.st [.int .i64, .int .i64])] (.bool)), (244, .fn [.st [.int .i64, .sl 159 (.st [.str, .int .i64, .sl 172 (.st [.int .i64, .sl 3 (.int .i64), .sl 3 (.int .i64)])]), .sl 164 (.st [.int .i64, .int .i64, .bool, .int .i64]), .sl 169 (.st [.sl 228 (.st [.int .i64, .int .i64]), .sl 25 (.sl 3 (.int .i64))]), .sl 3 (.int .i64)], .st [.sl 3 (.int .i64), .sl 3 (.int .i64)], .int .i64, .int .i64, .int .i64] (.bool)), (245, .fn [.st [.int .i64, .sl 3 (.int .i64), .sl 3 (.int .i64)]] (.st [.int .i64, .sl 3 (.int .i64), .sl 3 (.int .i64)])), (246, .fn [.st [.int .i64, .int .i64]] (.st [.int .i64, .int .i64])), (247, .st [.int .i64, .int .i64]), (248, .fn [.st [.int .i64, .sl 159 (.st [.str, .int .i64, .sl 172 (.st [.int .i64, .sl 3 (.int .i64), .sl 3 (.int .i64)])]), .sl 164 (.st [.int .i64, .int .i64, .bool, .int .i64]), .sl 169 (.st [.sl 228 (.st [.int .i64, .int .i64]), .sl 25 (.sl 3 (.int .i64))]), .sl 3 (.int .i64)], .int .i64, .int .i64, .int .i64] (.int .i64)), (249, .fn [.st [.int .i64, .sl 3 (.int .i64), .sl 3 (.int .i64)], .st [.int .i64, .sl 3 (.int .i64), .sl 3 (.int .i64)]] (.bool)), (250, .fn [.st [.int .i64, .int .i64], .st [.int .i64, .int .i64]] (.bool)), (253, .fn [.st [.int .i64, .sl 3 (.int .i64), .sl 3 (.int .i64)], .int .i64, .int .i64] (.bool)), (254, .fn [.str] (.bool)), (260, .fn [.sl 3 (.int .i64)] (.tup [])), (265, .fn [.sl 159 (.st [.str, .int .i64, .sl 172 (.st [.int .i64, .sl 3 (.int .i64), .sl 3 (.int .i64)])]), .fn [.st [.str, .int .i64, .sl 172 (.st [.int .i64, .sl 3 (.int .i64), .sl 3 (.int .i64)])]] (.bool)] (.int .i64)), (266, .fn [.st [.str, .int .i64, .sl 172 (.st [.int .i64, .sl 3 (.int .i64), .sl 3 (.int .i64)])]] (.bool)), (267, .fn [.sl 164 (.st [.int .i64, .int .i64, .bool, .int .i64]), .fn [.st [.int .i64, .int .i64, .bool, .int .i64]] (.bool)] (.int .i64)), (268, .fn [.sl 228 (.st [.int .i64, .int .i64]), .int .i64, .int .i64] (.bool)), (271, .fn [.sl 3 (.int .i64), .int .i64, .int .i64, .int .i64] (.tup [])), (272, .fn [.int .u64] (.int .i64)), (273, .int .u64), (275, .fn [.sl 3 (.int .i64), .int .i64, .int .i64] (.tup [])), (276, .int .i64), (278, .fn [.sl 3 (.int .i64), .int .i64, .int .i64] (.tup [.int .i64, .int .i64])), (279, .fn [.sl 3 (.int .i64), .int .i64, .int .i64] (.bool)), (280, .fn [.int .i64, .int .i64] (.bool)), (281, .fn [.sl 3 (.int .i64), .int .i64, .int .i64, .int .i64] (.int .i64)), (282, .fn [.sl 3 (.int .i64), .int .i64, .int .i64, .int .i64] (.tup [.int .i64, .bool])), (283, .fn [.int .u32] (.int .i64)), (284, .int .u32), (285, .fn [.int .u64] (.int .i64)), (286, .int .u64), (287, .int .u64)]
theorem tysOk : LkAll (TnOk Tryz.prog) tys := ⟨tn3, tn4, tn5, tn9, tn22, tn23, tn24, tn25, tn26, tn27, tn28, tn29, tn30, tn31, tn32, tn33, tn35, tn36, tn37, tn38, tn39, tn40, tn41, tn42, tn43, tn44, tn45, tn46, tn47, tn48, tn49, tn54, tn64, tn67, tn68, tn69, tn74, tn92, tn93, tn94, tn95, tn96, tn97, tn98, tn99, tn100, tn101, tn102, tn103, tn104, tn105, tn106, tn115, tn116, tn117, tn121, tn128, tn135, tn140, tn142, tn143, tn144, tn147, tn148, tn149, tn150, tn151, tn152, tn153, tn154, tn155, tn156, tn157, tn158, tn159, tn160, tn161, tn162, tn163, tn164, tn165, tn166, tn167, tn168, tn169, tn170, tn171, tn172, tn173, tn174, tn175, tn176, tn180, tn185, tn189, tn197, tn204, tn205, tn206, tn207, tn208, tn209, tn210, tn211, tn212, tn213, tn214, tn215, tn219, tn220, tn221, tn227, tn228, tn230, tn236, tn237, tn240, tn241, tn242, tn243, tn244, tn245, tn246, tn247, tn248, tn249, tn250, tn253, tn254, tn260, tn265, tn266, tn267, tn268, tn271, tn272, tn273, tn275, tn276, tn278, tn279, tn280, tn281, tn282, tn283, tn284, tn285, tn286, tn287, trivial⟩
def laws_szIntS (x : ((List Int) × (Int × Unit))) (c : Unit) : (Option (Int × Unit)) :=
  (if (ltZ (subZ .i64 x.2.1 (lenI x.1)) 0) = true then (some ((-1), ())) else (some ((subZ .i64 x.2.1 (lenI x.1)), ())))
def H_laws_szIntS : Hd := ⟨[.sl 3 (.int .i64), .int .i64], [], none, .p, .int .i64, .p, []⟩
def T_laws_szIntS : FSig := ⟨H_laws_szIntS.ps, H_laws_szIntS.cs, H_laws_szIntS.io, H_laws_szIntS.im, H_laws_szIntS.R, H_laws_szIntS.m, laws_szIntS⟩
theorem E_laws_szIntS : fnOf tys [] Tryz.f54 H_laws_szIntS = T_laws_szIntS := by kernel_rfl
theorem K_laws_szIntS : SigOk Tryz.prog 54 T_laws_szIntS := (congrArg (SigOk Tryz.prog 54) E_laws_szIntS).mp (fnOf_ok rfl tysOk trivial Tryz.func54 (by decide) rfl (fun _ h => by cases h) (nilEq_of (by kernel_rfl)))
def laws_szMode (x : (D_Mode × (Int × Unit))) (c : Unit) : (Option (Int × Unit)) :=
  (Option.bind ((Option.bind (laws_szIntS (x.1.2.1, (x.2.1, ())) ()) fun v0 => (some v0.1)) : (Option Int)) fun v1 => (if (ltZ v1 0) = true then (some ((-1), ())) else (Option.bind ((Option.bind (laws_szIntS (x.1.2.2.1, (v1, ())) ()) fun v2 => (some v2.1)) : (Option Int)) fun v3 => (if (ltZ v3 0) = true then (some ((-1), ())) else (some (v3, ()))))))
def H_laws_szMode : Hd := ⟨[.st [.int .i64, .sl 3 (.int .i64), .sl 3 (.int .i64)], .int .i64], [], none, .p, .int .i64, .p, []⟩
def T_laws_szMode : FSig := ⟨H_laws_szMode.ps, H_laws_szMode.cs, H_laws_szMode.io, H_laws_szMode.im, H_laws_szMode.R, H_laws_szMode.m, laws_szMode⟩
theorem E_laws_szMode : fnOf tys [(54, T_laws_szIntS)] Tryz.f261 H_laws_szMode = T_laws_szMode := by kernel_rfl
theorem K_laws_szMode : SigOk Tryz.prog 261 T_laws_szMode := (congrArg (SigOk Tryz.prog 261) E_laws_szMode).mp (fnOf_ok rfl tysOk ⟨K_laws_szIntS, trivial⟩ Tryz.func261 (by decide) rfl (fun _ h => by cases h) (nilEq_of (by kernel_rfl)))
def laws_szModeS_L0 : (Int × ((List D_Mode) × (Int × Unit))) → Option (Out (Int × ((List D_Mode) × (Int × Unit))) ((Bool × (Int × ((List D_Mode) × (Int × Unit)))) ⊕ Empty) (Int × Unit)) :=
  (fun v0 => (if (ltZ v0.1 (lenI v0.2.1)) = true then (Option.bind (getI v0.2.1 v0.1) fun v1 => (Option.bind ((Option.bind (laws_szMode (v1, (v0.2.2.1, ())) ()) fun v2 => (some v2.1)) : (Option Int)) fun v3 => (if (ltZ v3 0) = true then (some (Out.ret ((-1), ()))) else (some (Out.norm ((addZ .i64 v0.1 1), (v0.2.1, (v3, ())))))))) else (some (Out.exit (Sum.inl ((ltZ v0.1 (lenI v0.2.1)), (v0.1, (v0.2.1, (v0.2.2.1, ())))))))))
def laws_szModeS (x : ((List D_Mode) × (Int × Unit))) (c : Unit) : (Option (Int × Unit)) :=
  (if (ltZ (subZ .i64 x.2.1 (lenI x.1)) 0) = true then (some ((-1), ())) else (Option.bind (loopN (A := (Int × ((List D_Mode) × (Int × Unit)))) big laws_szModeS_L0 (0, (x.1, ((subZ .i64 x.2.1 (lenI x.1)), ())))) fun v4 => (match v4 with | Out.norm v5 => none | Out.exit v6 => (match ((match v6 with | Sum.inl v9 => (Sum.inl (v9.2.2.2.1, ())) | Sum.inr v10 => (Empty.elim v10)) : ((Int × Unit) ⊕ Empty)) with | Sum.inl v7 => (some (v7.1, ())) | Sum.inr v8 => none) | Out.ret v11 => (some v11))))
def H_laws_szModeS : Hd := ⟨[.sl 242 (.st [.int .i64, .sl 3 (.int .i64), .sl 3 (.int .i64)]), .int .i64], [], none, .p, .int .i64, .p, []⟩
def T_laws_szModeS : FSig := ⟨H_laws_szModeS.ps, H_laws_szModeS.cs, H_laws_szModeS.io, H_laws_szModeS.im, H_laws_szModeS.R, H_laws_szModeS.m, laws_szModeS⟩
theorem E_laws_szModeS : fnOf tys [(261, T_laws_szMode)] Tryz.f201 H_laws_szModeS = T_laws_szModeS := by kernel_rfl
theorem K_laws_szModeS : SigOk Tryz.prog 201 T_laws_szModeS := (congrArg (SigOk Tryz.prog 201) E_laws_szModeS).mp (fnOf_ok rfl tysOk ⟨K_laws_szMode, trivial⟩ Tryz.func201 (by decide) rfl (fun _ h => by cases h) (nilEq_of (by kernel_rfl)))
def laws_szActivity (x : (D_Activity × (Int × Unit))) (c : Unit) : (Option (Int × Unit)) :=
  (if (ltZ (subZ .i64 x.2.1 (lenI x.1.1)) 0) = true then (some ((-1), ())) else (Option.bind ((Option.bind (laws_szModeS (x.1.2.2.1, ((subZ .i64 x.2.1 (lenI x.1.1)), ())) ()) fun v0 => (some v0.1)) : (Option Int)) fun v1 => (if (ltZ v1 0) = true then (some ((-1), ())) else (some (v1, ())))))
def H_laws_szActivity : Hd := ⟨[.st [.str, .int .i64, .sl 242 (.st [.int .i64, .sl 3 (.int .i64), .sl 3 (.int .i64)])], .int .i64], [], none, .p, .int .i64, .p, []⟩
def T_laws_szActivity : FSig := ⟨H_laws_szActivity.ps, H_laws_szActivity.cs, H_laws_szActivity.io, H_laws_szActivity.im, H_laws_szActivity.R, H_laws_szActivity.m, laws_szActivity⟩
theorem E_laws_szActivity : fnOf tys [(201, T_laws_szModeS)] Tryz.f118 H_laws_szActivity = T_laws_szActivity := by kernel_rfl
theorem K_laws_szActivity : SigOk Tryz.prog 118 T_laws_szActivity := (congrArg (SigOk Tryz.prog 118) E_laws_szActivity).mp (fnOf_ok rfl tysOk ⟨K_laws_szModeS, trivial⟩ Tryz.func118 (by decide) rfl (fun _ h => by cases h) (nilEq_of (by kernel_rfl)))
def laws_szActivityS_L0 : (Int × ((List D_Activity) × (Int × Unit))) → Option (Out (Int × ((List D_Activity) × (Int × Unit))) ((Bool × (Int × ((List D_Activity) × (Int × Unit)))) ⊕ Empty) (Int × Unit)) :=
  (fun v0 => (if (ltZ v0.1 (lenI v0.2.1)) = true then (Option.bind (getI v0.2.1 v0.1) fun v1 => (Option.bind ((Option.bind (laws_szActivity (v1, (v0.2.2.1, ())) ()) fun v2 => (some v2.1)) : (Option Int)) fun v3 => (if (ltZ v3 0) = true then (some (Out.ret ((-1), ()))) else (some (Out.norm ((addZ .i64 v0.1 1), (v0.2.1, (v3, ())))))))) else (some (Out.exit (Sum.inl ((ltZ v0.1 (lenI v0.2.1)), (v0.1, (v0.2.1, (v0.2.2.1, ())))))))))
def laws_szActivityS (x : ((List D_Activity) × (Int × Unit))) (c : Unit) : (Option (Int × Unit)) :=
  (if (ltZ (subZ .i64 x.2.1 (lenI x.1)) 0) = true then (some ((-1), ())) else (Option.bind (loopN (A := (Int × ((List D_Activity) × (Int × Unit)))) big laws_szActivityS_L0 (0, (x.1, ((subZ .i64 x.2.1 (lenI x.1)), ())))) fun v4 => (match v4 with | Out.norm v5 => none | Out.exit v6 => (match ((match v6 with | Sum.inl v9 => (Sum.inl (v9.2.2.2.1, ())) | Sum.inr v10 => (Empty.elim v10)) : ((Int × Unit) ⊕ Empty)) with | Sum.inl v7 => (some (v7.1, ())) | Sum.inr v8 => none) | Out.ret v11 => (some v11))))
def H_laws_szActivityS : Hd := ⟨[.sl 150 (.st [.str, .int .i64, .sl 242 (.st [.int .i64, .sl 3 (.int .i64), .sl 3 (.int .i64)])]), .int .i64], [], none, .p, .int .i64, .p, []⟩
def T_laws_szActivityS : FSig := ⟨H_laws_szActivityS.ps, H_laws_szActivityS.cs, H_laws_szActivityS.io, H_laws_szActivityS.im, H_laws_szActivityS.R, H_laws_szActivityS.m, laws_szActivityS⟩
theorem E_laws_szActivityS : fnOf tys [(118, T_laws_szActivity)] Tryz.f51 H_laws_szActivityS = T_laws_szActivityS := by kernel_rfl
theorem K_laws_szActivityS : SigOk Tryz.prog 51 T_laws_szActivityS := (congrArg (SigOk Tryz.prog 51) E_laws_szActivityS).mp (fnOf_ok rfl tysOk ⟨K_laws_szActivity, trivial⟩ Tryz.func51 (by decide) rfl (fun _ h => by cases h) (nilEq_of (by kernel_rfl)))
def laws_szLinkS (x : ((List D_Link) × (Int × Unit))) (c : Unit) : (Option (Int × Unit)) :=
  (if (ltZ (subZ .i64 x.2.1 (lenI x.1)) 0) = true then (some ((-1), ())) else (some ((subZ .i64 x.2.1 (lenI x.1)), ())))
def H_laws_szLinkS : Hd := ⟨[.sl 166 (.st [.int .i64, .int .i64, .bool, .int .i64]), .int .i64], [], none, .p, .int .i64, .p, []⟩
def T_laws_szLinkS : FSig := ⟨H_laws_szLinkS.ps, H_laws_szLinkS.cs, H_laws_szLinkS.io, H_laws_szLinkS.im, H_laws_szLinkS.R, H_laws_szLinkS.m, laws_szLinkS⟩
theorem E_laws_szLinkS : fnOf tys [] Tryz.f52 H_laws_szLinkS = T_laws_szLinkS := by kernel_rfl
theorem K_laws_szLinkS : SigOk Tryz.prog 52 T_laws_szLinkS := (congrArg (SigOk Tryz.prog 52) E_laws_szLinkS).mp (fnOf_ok rfl tysOk trivial Tryz.func52 (by decide) rfl (fun _ h => by cases h) (nilEq_of (by kernel_rfl)))
def laws_szIntSS_L0 : (Int × ((List (List Int)) × (Int × Unit))) → Option (Out (Int × ((List (List Int)) × (Int × Unit))) ((Bool × (Int × ((List (List Int)) × (Int × Unit)))) ⊕ Empty) (Int × Unit)) :=
  (fun v0 => (if (ltZ v0.1 (lenI v0.2.1)) = true then (Option.bind (getI v0.2.1 v0.1) fun v1 => (Option.bind ((Option.bind (laws_szIntS (v1, (v0.2.2.1, ())) ()) fun v2 => (some v2.1)) : (Option Int)) fun v3 => (if (ltZ v3 0) = true then (some (Out.ret ((-1), ()))) else (some (Out.norm ((addZ .i64 v0.1 1), (v0.2.1, (v3, ())))))))) else (some (Out.exit (Sum.inl ((ltZ v0.1 (lenI v0.2.1)), (v0.1, (v0.2.1, (v0.2.2.1, ())))))))))
def laws_szIntSS (x : ((List (List Int)) × (Int × Unit))) (c : Unit) : (Option (Int × Unit)) :=
  (if (ltZ (subZ .i64 x.2.1 (lenI x.1)) 0) = true then (some ((-1), ())) else (Option.bind (loopN (A := (Int × ((List (List Int)) × (Int × Unit)))) big laws_szIntSS_L0 (0, (x.1, ((subZ .i64 x.2.1 (lenI x.1)), ())))) fun v4 => (match v4 with | Out.norm v5 => none | Out.exit v6 => (match ((match v6 with | Sum.inl v9 => (Sum.inl (v9.2.2.2.1, ())) | Sum.inr v10 => (Empty.elim v10)) : ((Int × Unit) ⊕ Empty)) with | Sum.inl v7 => (some (v7.1, ())) | Sum.inr v8 => none) | Out.ret v11 => (some v11))))
def H_laws_szIntSS : Hd := ⟨[.sl 25 (.sl 3 (.int .i64)), .int .i64], [], none, .p, .int .i64, .p, []⟩
def T_laws_szIntSS : FSig := ⟨H_laws_szIntSS.ps, H_laws_szIntSS.cs, H_laws_szIntSS.io, H_laws_szIntSS.im, H_laws_szIntSS.R, H_laws_szIntSS.m, laws_szIntSS⟩
theorem E_laws_szIntSS : fnOf tys [(54, T_laws_szIntS)] Tryz.f93 H_laws_szIntSS = T_laws_szIntSS := by kernel_rfl
theorem K_laws_szIntSS : SigOk Tryz.prog 93 T_laws_szIntSS := (congrArg (SigOk Tryz.prog 93) E_laws_szIntSS).mp (fnOf_ok rfl tysOk ⟨K_laws_szIntS, trivial⟩ Tryz.func93 (by decide) rfl (fun _ h => by cases h) (nilEq_of (by kernel_rfl)))
def laws_szStepS (x : ((List D_Step) × (Int × Unit))) (c : Unit) : (Option (Int × Unit)) :=
  (if (ltZ (subZ .i64 x.2.1 (lenI x.1)) 0) = true then (some ((-1), ())) else (some ((subZ .i64 x.2.1 (lenI x.1)), ())))
def H_laws_szStepS : Hd := ⟨[.sl 247 (.st [.int .i64, .int .i64]), .int .i64], [], none, .p, .int .i64, .p, []⟩
def T_laws_szStepS : FSig := ⟨H_laws_szStepS.ps, H_laws_szStepS.cs, H_laws_szStepS.io, H_laws_szStepS.im, H_laws_szStepS.R, H_laws_szStepS.m, laws_szStepS⟩
theorem E_laws_szStepS : fnOf tys [] Tryz.f202 H_laws_szStepS = T_laws_szStepS := by kernel_rfl
theorem K_laws_szStepS : SigOk Tryz.prog 202 T_laws_szStepS := (congrArg (SigOk Tryz.prog 202) E_laws_szStepS).mp (fnOf_ok rfl tysOk trivial Tryz.func202 (by decide) rfl (fun _ h => by cases h) (nilEq_of (by kernel_rfl)))
def laws_szResource (x : (D_Resource × (Int × Unit))) (c : Unit) : (Option (Int × Unit)) :=
  (Option.bind ((Option.bind (laws_szStepS (x.1.1, (x.2.1, ())) ()) fun v0 => (some v0.1)) : (Option Int)) fun v1 => (if (ltZ v1 0) = true then (some ((-1), ())) else (Option.bind ((Option.bind (laws_szIntSS (x.1.2.1, (v1, ())) ()) fun v2 => (some v2.1)) : (Option Int)) fun v3 => (if (ltZ v3 0) = true then (some ((-1), ())) else (some (v3, ()))))))
def H_laws_szResource : Hd := ⟨[.st [.sl 247 (.st [.int .i64, .int .i64]), .sl 25 (.sl 3 (.int .i64))], .int .i64], [], none, .p, .int .i64, .p, []⟩
def T_laws_szResource : FSig := ⟨H_laws_szResource.ps, H_laws_szResource.cs, H_laws_szResource.io, H_laws_szResource.im, H_laws_szResource.R, H_laws_szResource.m, laws_szResource⟩
theorem E_laws_szResource : fnOf tys [(93, T_laws_szIntSS), (202, T_laws_szStepS)] Tryz.f119 H_laws_szResource = T_laws_szResource := by kernel_rfl
theorem K_laws_szResource : SigOk Tryz.prog 119 T_laws_szResource := (congrArg (SigOk Tryz.prog 119) E_laws_szResource).mp (fnOf_ok rfl tysOk ⟨K_laws_szIntSS, K_laws_szStepS, trivial⟩ Tryz.func119 (by decide) rfl (fun _ h => by cases h) (nilEq_of (by kernel_rfl)))
def laws_szResourceS_L0 : (Int × ((List D_Resource) × (Int × Unit))) → Option (Out (Int × ((List D_Resource) × (Int × Unit))) ((Bool × (Int × ((List D_Resource) × (Int × Unit)))) ⊕ Empty) (Int × Unit)) :=
  (fun v0 => (if (ltZ v0.1 (lenI v0.2.1)) = true then (Option.bind (getI v0.2.1 v0.1) fun v1 => (Option.bind ((Option.bind (laws_szResource (v1, (v0.2.2.1, ())) ()) fun v2 => (some v2.1)) : (Option Int)) fun v3 => (if (ltZ v3 0) = true then (some (Out.ret ((-1), ()))) else (some (Out.norm ((addZ .i64 v0.1 1), (v0.2.1, (v3, ())))))))) else (some (Out.exit (Sum.inl ((ltZ v0.1 (lenI v0.2.1)), (v0.1, (v0.2.1, (v0.2.2.1, ())))))))))
def laws_szResourceS (x : ((List D_Resource) × (Int × Unit))) (c : Unit) : (Option (Int × Unit)) :=
  (if (ltZ (subZ .i64 x.2.1 (lenI x.1)) 0) = true then (some ((-1), ())) else (Option.bind (loopN (A := (Int × ((List D_Resource) × (Int × Unit)))) big laws_szResourceS_L0 (0, (x.1, ((subZ .i64 x.2.1 (lenI x.1)), ())))) fun v4 => (match v4 with | Out.norm v5 => none | Out.exit v6 => (match ((match v6 with | Sum.inl v9 => (Sum.inl (v9.2.2.2.1, ())) | Sum.inr v10 => (Empty.elim v10)) : ((Int × Unit) ⊕ Empty)) with | Sum.inl v7 => (some (v7.1, ())) | Sum.inr v8 => none) | Out.ret v11 => (some v11))))
def H_laws_szResourceS : Hd := ⟨[.sl 154 (.st [.sl 247 (.st [.int .i64, .int .i64]), .sl 25 (.sl 3 (.int .i64))]), .int .i64], [], none, .p, .int .i64, .p, []⟩
def T_laws_szResourceS : FSig := ⟨H_laws_szResourceS.ps, H_laws_szResourceS.cs, H_laws_szResourceS.io, H_laws_szResourceS.im, H_laws_szResourceS.R, H_laws_szResourceS.m, laws_szResourceS⟩
theorem E_laws_szResourceS : fnOf tys [(119, T_laws_szResource)] Tryz.f53 H_laws_szResourceS = T_laws_szResourceS := by kernel_rfl
theorem K_laws_szResourceS : SigOk Tryz.prog 53 T_laws_szResourceS := (congrArg (SigOk Tryz.prog 53) E_laws_szResourceS).mp (fnOf_ok rfl tysOk ⟨K_laws_szResource, trivial⟩ Tryz.func53 (by decide) rfl (fun _ h => by cases h) (nilEq_of (by kernel_rfl)))
def laws_szProject (x : (D_Project × (Int × Unit))) (c : Unit) : (Option (Int × Unit)) :=
  (Option.bind ((Option.bind (laws_szActivityS (x.1.2.1, (x.2.1, ())) ()) fun v0 => (some v0.1)) : (Option Int)) fun v1 => (if (ltZ v1 0) = true then (some ((-1), ())) else (Option.bind ((Option.bind (laws_szLinkS (x.1.2.2.1, (v1, ())) ()) fun v2 => (some v2.1)) : (Option Int)) fun v3 => (if (ltZ v3 0) = true then (some ((-1), ())) else (Option.bind ((Option.bind (laws_szResourceS (x.1.2.2.2.1, (v3, ())) ()) fun v4 => (some v4.1)) : (Option Int)) fun v5 => (if (ltZ v5 0) = true then (some ((-1), ())) else (Option.bind ((Option.bind (laws_szIntS (x.1.2.2.2.2.1, (v5, ())) ()) fun v6 => (some v6.1)) : (Option Int)) fun v7 => (if (ltZ v7 0) = true then (some ((-1), ())) else (some (v7, ()))))))))))
def H_laws_szProject : Hd := ⟨[.st [.int .i64, .sl 150 (.st [.str, .int .i64, .sl 242 (.st [.int .i64, .sl 3 (.int .i64), .sl 3 (.int .i64)])]), .sl 166 (.st [.int .i64, .int .i64, .bool, .int .i64]), .sl 154 (.st [.sl 247 (.st [.int .i64, .int .i64]), .sl 25 (.sl 3 (.int .i64))]), .sl 3 (.int .i64)], .int .i64], [], none, .p, .int .i64, .p, []⟩
def T_laws_szProject : FSig := ⟨H_laws_szProject.ps, H_laws_szProject.cs, H_laws_szProject.io, H_laws_szProject.im, H_laws_szProject.R, H_laws_szProject.m, laws_szProject⟩
theorem E_laws_szProject : fnOf tys [(51, T_laws_szActivityS), (52, T_laws_szLinkS), (53, T_laws_szResourceS), (54, T_laws_szIntS)] Tryz.f10 H_laws_szProject = T_laws_szProject := by kernel_rfl
theorem K_laws_szProject : SigOk Tryz.prog 10 T_laws_szProject := (congrArg (SigOk Tryz.prog 10) E_laws_szProject).mp (fnOf_ok rfl tysOk ⟨K_laws_szActivityS, K_laws_szLinkS, K_laws_szResourceS, K_laws_szIntS, trivial⟩ Tryz.func10 (by decide) rfl (fun _ h => by cases h) (nilEq_of (by kernel_rfl)))
def laws_szSchedule (x : (D_Schedule × (Int × Unit))) (c : Unit) : (Option (Int × Unit)) :=
  (Option.bind ((Option.bind (laws_szIntS (x.1.1, (x.2.1, ())) ()) fun v0 => (some v0.1)) : (Option Int)) fun v1 => (if (ltZ v1 0) = true then (some ((-1), ())) else (Option.bind ((Option.bind (laws_szIntS (x.1.2.1, (v1, ())) ()) fun v2 => (some v2.1)) : (Option Int)) fun v3 => (if (ltZ v3 0) = true then (some ((-1), ())) else (some (v3, ()))))))
def H_laws_szSchedule : Hd := ⟨[.st [.sl 3 (.int .i64), .sl 3 (.int .i64)], .int .i64], [], none, .p, .int .i64, .p, []⟩
def T_laws_szSchedule : FSig := ⟨H_laws_szSchedule.ps, H_laws_szSchedule.cs, H_laws_szSchedule.io, H_laws_szSchedule.im, H_laws_szSchedule.R, H_laws_szSchedule.m, laws_szSchedule⟩
theorem E_laws_szSchedule : fnOf tys [(54, T_laws_szIntS)] Tryz.f29 H_laws_szSchedule = T_laws_szSchedule := by kernel_rfl
theorem K_laws_szSchedule : SigOk Tryz.prog 29 T_laws_szSchedule := (congrArg (SigOk Tryz.prog 29) E_laws_szSchedule).mp (fnOf_ok rfl tysOk ⟨K_laws_szIntS, trivial⟩ Tryz.func29 (by decide) rfl (fun _ h => by cases h) (nilEq_of (by kernel_rfl)))
def laws_szPlan (x : (D_Plan × (Int × Unit))) (c : Unit) : (Option (Int × Unit)) :=
  (Option.bind ((Option.bind (laws_szSchedule (x.1.1, (x.2.1, ())) ()) fun v0 => (some v0.1)) : (Option Int)) fun v1 => (if (ltZ v1 0) = true then (some ((-1), ())) else (Option.bind ((Option.bind (laws_szIntS (x.1.2.1, (v1, ())) ()) fun v2 => (some v2.1)) : (Option Int)) fun v3 => (if (ltZ v3 0) = true then (some ((-1), ())) else (some (v3, ()))))))
def H_laws_szPlan : Hd := ⟨[.st [.st [.sl 3 (.int .i64), .sl 3 (.int .i64)], .sl 3 (.int .i64)], .int .i64], [], none, .p, .int .i64, .p, []⟩
def T_laws_szPlan : FSig := ⟨H_laws_szPlan.ps, H_laws_szPlan.cs, H_laws_szPlan.io, H_laws_szPlan.im, H_laws_szPlan.R, H_laws_szPlan.m, laws_szPlan⟩
theorem E_laws_szPlan : fnOf tys [(29, T_laws_szSchedule), (54, T_laws_szIntS)] Tryz.f11 H_laws_szPlan = T_laws_szPlan := by kernel_rfl
theorem K_laws_szPlan : SigOk Tryz.prog 11 T_laws_szPlan := (congrArg (SigOk Tryz.prog 11) E_laws_szPlan).mp (fnOf_ok rfl tysOk ⟨K_laws_szSchedule, K_laws_szIntS, trivial⟩ Tryz.func11 (by decide) rfl (fun _ h => by cases h) (nilEq_of (by kernel_rfl)))
def spec_l01In (x : (Int × D_Step)) (c : Unit) : (Option (Bool × Unit)) :=
  (Option.bind ((if (leZ x.2.1 x.1) = true then (some ((leZ x.1 x.2.2.1), ())) else (some (false, ()))) : (Option (Bool × Unit))) fun v0 => (some (v0.1, ())))
def H_spec_l01In : Hd := ⟨[.int .i64, .int .i64, .int .i64], [], none, .p, .bool, .p, []⟩
def T_spec_l01In : FSig := ⟨H_spec_l01In.ps, H_spec_l01In.cs, H_spec_l01In.io, H_spec_l01In.im, H_spec_l01In.R, H_spec_l01In.m, spec_l01In⟩
theorem E_spec_l01In : fnOf tys [] Tryz.f111 H_spec_l01In = T_spec_l01In := by kernel_rfl
theorem K_spec_l01In : SigOk Tryz.prog 111 T_spec_l01In := (congrArg (SigOk Tryz.prog 111) E_spec_l01In).mp (fnOf_ok rfl tysOk trivial Tryz.func111 (by decide) rfl (fun _ h => by cases h) (nilEq_of (by kernel_rfl)))
def spec_l04Nums_L0 : (Int × (Int × ((List Int) × ((List Int) × (Int × Unit))))) → Option (Out (Int × (Int × ((List Int) × ((List Int) × (Int × Unit))))) ((Bool × (Int × (Int × ((List Int) × ((List Int) × (Int × Unit)))))) ⊕ Empty) (Bool × Unit)) :=
  (fun v0 => (if (ltZ v0.1 v0.2.1) = true then (Option.bind (getI v0.2.2.1 v0.1) fun v1 => (Option.bind ((Option.bind (spec_l01In (v1, (0, (20, ()))) ()) fun v2 => (some v2.1)) : (Option Bool)) fun v3 => (if (notB v3) = true then (some (Out.ret (false, ()))) else (some (Out.norm ((addZ .i64 v0.1 1), (v0.2.1, (v0.2.2.1, (v0.2.2.2.1, (v0.2.2.2.2.1, ())))))))))) else (some (Out.exit (Sum.inl ((ltZ v0.1 v0.2.1), (v0.1, (v0.2.1, (v0.2.2.1, (v0.2.2.2.1, (v0.2.2.2.2.1, ())))))))))))
def spec_l04Nums (x : ((List Int) × (Int × Unit))) (c : Unit) : (Option (Bool × Unit)) :=
  (Option.bind (loopN (A := (Int × (Int × ((List Int) × ((List Int) × (Int × Unit)))))) big spec_l04Nums_L0 (0, ((lenI x.1), (x.1, (x.1, (x.2.1, ())))))) fun v4 => (match v4 with | Out.norm v5 => none | Out.exit v6 => (match ((match v6 with | Sum.inl v9 => (Sum.inl (v9.2.2.2.2.1, (v9.2.2.2.2.2.1, ()))) | Sum.inr v10 => (Empty.elim v10)) : (((List Int) × (Int × Unit)) ⊕ Empty)) with | Sum.inl v7 => (some ((eqZ (lenI v7.1) v7.2.1), ())) | Sum.inr v8 => none) | Out.ret v11 => (some v11)))
def H_spec_l04Nums : Hd := ⟨[.sl 3 (.int .i64), .int .i64], [], none, .p, .bool, .p, []⟩
def T_spec_l04Nums : FSig := ⟨H_spec_l04Nums.ps, H_spec_l04Nums.cs, H_spec_l04Nums.io, H_spec_l04Nums.im, H_spec_l04Nums.R, H_spec_l04Nums.m, spec_l04Nums⟩
theorem E_spec_l04Nums : fnOf tys [(111, T_spec_l01In)] Tryz.f306 H_spec_l04Nums = T_spec_l04Nums := by kernel_rfl
theorem K_spec_l04Nums : SigOk Tryz.prog 306 T_spec_l04Nums := (congrArg (SigOk Tryz.prog 306) E_spec_l04Nums).mp (fnOf_ok rfl tysOk ⟨K_spec_l01In, trivial⟩ Tryz.func306 (by decide) rfl (fun _ h => by cases h) (nilEq_of (by kernel_rfl)))
def spec_ModeOk (x : (D_Mode × D_Step)) (c : Unit) : (Option (Bool × Unit)) :=
  (Option.bind ((Option.bind (spec_l01In (x.1.1, (1, (12, ()))) ()) fun v0 => (some v0.1)) : (Option Bool)) fun v1 => (Option.bind ((if v1 = true then (Option.bind ((Option.bind (spec_l04Nums (x.1.2.1, (x.2.1, ())) ()) fun v2 => (some v2.1)) : (Option Bool)) fun v3 => (Option.bind ((if v3 = true then (Option.bind ((Option.bind (spec_l04Nums (x.1.2.2.1, (x.2.2.1, ())) ()) fun v4 => (some v4.1)) : (Option Bool)) fun v5 => (some (v5, ()))) else (some (false, ()))) : (Option (Bool × Unit))) fun v6 => (some (v6.1, ())))) else (some (false, ()))) : (Option (Bool × Unit))) fun v7 => (some (v7.1, ()))))
def H_spec_ModeOk : Hd := ⟨[.st [.int .i64, .sl 3 (.int .i64), .sl 3 (.int .i64)], .int .i64, .int .i64], [], none, .p, .bool, .p, []⟩
def T_spec_ModeOk : FSig := ⟨H_spec_ModeOk.ps, H_spec_ModeOk.cs, H_spec_ModeOk.io, H_spec_ModeOk.im, H_spec_ModeOk.R, H_spec_ModeOk.m, spec_ModeOk⟩
theorem E_spec_ModeOk : fnOf tys [(111, T_spec_l01In), (306, T_spec_l04Nums)] Tryz.f276 H_spec_ModeOk = T_spec_ModeOk := by kernel_rfl
theorem K_spec_ModeOk : SigOk Tryz.prog 276 T_spec_ModeOk := (congrArg (SigOk Tryz.prog 276) E_spec_ModeOk).mp (fnOf_ok rfl tysOk ⟨K_spec_l01In, K_spec_l04Nums, trivial⟩ Tryz.func276 (by decide) rfl (fun _ h => by cases h) (nilEq_of (by kernel_rfl)))
def spec_IsName_L0 : (Int × ((List UInt8) × Unit)) → Option (Out (Int × ((List UInt8) × Unit)) ((Bool × (Int × ((List UInt8) × Unit))) ⊕ Empty) (Bool × Unit)) :=
  (fun v0 => (if (ltZ v0.1 (lenI v0.2.1)) = true then (Option.bind (byteAt v0.2.1 v0.1) fun v1 => (Option.bind ((if (leZ 97 v1) = true then (Option.bind (byteAt v0.2.1 v0.1) fun v2 => (some ((leZ v2 122), (v0.1, (v0.2.1, ()))))) else (some (false, (v0.1, (v0.2.1, ()))))) : (Option (Bool × (Int × ((List UInt8) × Unit))))) fun v3 => (Option.bind ((if (notB v3.1) = true then (Option.bind ((if (eqZ v3.2.1 0) = true then (some (true, (v3.2.1, (v3.2.2.1, ())))) else (Option.bind (byteAt v3.2.2.1 v3.2.1) fun v4 => (Option.bind ((if (ltZ v4 48) = true then (some (true, (v3.2.1, (v3.2.2.1, ())))) else (Option.bind (byteAt v3.2.2.1 v3.2.1) fun v5 => (some ((ltZ 57 v5), (v3.2.1, (v3.2.2.1, ())))))) : (Option (Bool × (Int × ((List UInt8) × Unit))))) fun v6 => (some (v6.1, (v6.2.1, (v6.2.2.1, ()))))))) : (Option (Bool × (Int × ((List UInt8) × Unit))))) fun v7 => (some (v7.1, (v7.2.1, (v7.2.2.1, ()))))) else (some (false, (v3.2.1, (v3.2.2.1, ()))))) : (Option (Bool × (Int × ((List UInt8) × Unit))))) fun v8 => (if v8.1 = true then (some (Out.ret (false, ()))) else (some (Out.norm ((addZ .i64 v8.2.1 1), (v8.2.2.1, ())))))))) else (some (Out.exit (Sum.inl ((ltZ v0.1 (lenI v0.2.1)), (v0.1, (v0.2.1, ()))))))))
def spec_IsName (x : ((List UInt8) × Unit)) (c : Unit) : (Option (Bool × Unit)) :=
  (Option.bind (loopN (A := (Int × ((List UInt8) × Unit))) big spec_IsName_L0 (0, (x.1, ()))) fun v9 => (match v9 with | Out.norm v10 => none | Out.exit v11 => (match ((match v11 with | Sum.inl v16 => (Sum.inl (v16.2.2.1, ())) | Sum.inr v17 => (Empty.elim v17)) : (((List UInt8) × Unit) ⊕ Empty)) with | Sum.inl v12 => (Option.bind ((Option.bind (spec_l01In ((lenI v12.1), (1, (8, ()))) ()) fun v13 => (some v13.1)) : (Option Bool)) fun v14 => (some (v14, ()))) | Sum.inr v15 => none) | Out.ret v18 => (some v18)))
def H_spec_IsName : Hd := ⟨[.str], [], none, .p, .bool, .p, []⟩
def T_spec_IsName : FSig := ⟨H_spec_IsName.ps, H_spec_IsName.cs, H_spec_IsName.io, H_spec_IsName.im, H_spec_IsName.R, H_spec_IsName.m, spec_IsName⟩
theorem E_spec_IsName : fnOf tys [(111, T_spec_l01In)] Tryz.f277 H_spec_IsName = T_spec_IsName := by kernel_rfl
theorem K_spec_IsName : SigOk Tryz.prog 277 T_spec_IsName := (congrArg (SigOk Tryz.prog 277) E_spec_IsName).mp (fnOf_ok rfl tysOk ⟨K_spec_l01In, trivial⟩ Tryz.func277 (by decide) rfl (fun _ h => by cases h) (nilEq_of (by kernel_rfl)))
def spec_ActivityOk_L0 : (Int × (Int × ((List D_Mode) × (Int × (Int × (D_Activity × Unit)))))) → Option (Out (Int × (Int × ((List D_Mode) × (Int × (Int × (D_Activity × Unit)))))) ((Bool × (Int × (Int × ((List D_Mode) × (Int × (Int × (D_Activity × Unit))))))) ⊕ Empty) (Bool × Unit)) :=
  (fun v0 => (if (ltZ v0.1 v0.2.1) = true then (Option.bind (getI v0.2.2.1 v0.1) fun v1 => (Option.bind ((Option.bind (spec_ModeOk (v1, (v0.2.2.2.1, (v0.2.2.2.2.1, ()))) ()) fun v2 => (some v2.1)) : (Option Bool)) fun v3 => (if (notB v3) = true then (some (Out.ret (false, ()))) else (some (Out.norm ((addZ .i64 v0.1 1), (v0.2.1, (v0.2.2.1, (v0.2.2.2.1, (v0.2.2.2.2.1, (v0.2.2.2.2.2.1, ()))))))))))) else (some (Out.exit (Sum.inl ((ltZ v0.1 v0.2.1), (v0.1, (v0.2.1, (v0.2.2.1, (v0.2.2.2.1, (v0.2.2.2.2.1, (v0.2.2.2.2.2.1, ()))))))))))))
def spec_ActivityOk (x : (D_Activity × D_Step)) (c : Unit) : (Option (Bool × Unit)) :=
  (Option.bind (loopN (A := (Int × (Int × ((List D_Mode) × (Int × (Int × (D_Activity × Unit))))))) big spec_ActivityOk_L0 (0, ((lenI x.1.2.2.1), (x.1.2.2.1, (x.2.1, (x.2.2.1, (x.1, ()))))))) fun v4 => (match v4 with | Out.norm v5 => none | Out.exit v6 => (match ((match v6 with | Sum.inl v17 => (Sum.inl (v17.2.2.2.2.2.2.1, ())) | Sum.inr v18 => (Empty.elim v18)) : ((D_Activity × Unit) ⊕ Empty)) with | Sum.inl v7 => (Option.bind ((Option.bind (spec_IsName (v7.1.1, ()) ()) fun v8 => (some v8.1)) : (Option Bool)) fun v9 => (Option.bind ((if v9 = true then (Option.bind ((Option.bind (spec_l01In (v7.1.2.1, (0, (3, ()))) ()) fun v10 => (some v10.1)) : (Option Bool)) fun v11 => (Option.bind ((if v11 = true then (Option.bind ((Option.bind (spec_l01In ((lenI v7.1.2.2.1), (1, (3, ()))) ()) fun v12 => (some v12.1)) : (Option Bool)) fun v13 => (some (v13, ()))) else (some (false, ()))) : (Option (Bool × Unit))) fun v14 => (some (v14.1, ())))) else (some (false, ()))) : (Option (Bool × Unit))) fun v15 => (some (v15.1, ())))) | Sum.inr v16 => none) | Out.ret v19 => (some v19)))
def H_spec_ActivityOk : Hd := ⟨[.st [.str, .int .i64, .sl 172 (.st [.int .i64, .sl 3 (.int .i64), .sl 3 (.int .i64)])], .int .i64, .int .i64], [], none, .p, .bool, .p, []⟩
def T_spec_ActivityOk : FSig := ⟨H_spec_ActivityOk.ps, H_spec_ActivityOk.cs, H_spec_ActivityOk.io, H_spec_ActivityOk.im, H_spec_ActivityOk.R, H_spec_ActivityOk.m, spec_ActivityOk⟩
theorem E_spec_ActivityOk : fnOf tys [(111, T_spec_l01In), (276, T_spec_ModeOk), (277, T_spec_IsName)] Tryz.f225 H_spec_ActivityOk = T_spec_ActivityOk := by kernel_rfl
theorem K_spec_ActivityOk : SigOk Tryz.prog 225 T_spec_ActivityOk := (congrArg (SigOk Tryz.prog 225) E_spec_ActivityOk).mp (fnOf_ok rfl tysOk ⟨K_spec_l01In, K_spec_ModeOk, K_spec_IsName, trivial⟩ Tryz.func225 (by decide) rfl (fun _ h => by cases h) (nilEq_of (by kernel_rfl)))
def spec_ActivityIndex_L0 : (Int × (Int × ((List D_Activity) × ((List UInt8) × Unit)))) → Option (Out (Int × (Int × ((List D_Activity) × ((List UInt8) × Unit)))) ((Bool × (Int × (Int × ((List D_Activity) × ((List UInt8) × Unit))))) ⊕ Empty) (Int × Unit)) :=
  (fun v0 => (if (ltZ v0.1 v0.2.1) = true then (Option.bind (getI v0.2.2.1 v0.1) fun v1 => (if (eqS v1.1 v0.2.2.2.1) = true then (some (Out.ret (v0.1, ()))) else (some (Out.norm ((addZ .i64 v0.1 1), (v0.2.1, (v0.2.2.1, (v0.2.2.2.1, ())))))))) else (some (Out.exit (Sum.inl ((ltZ v0.1 v0.2.1), (v0.1, (v0.2.1, (v0.2.2.1, (v0.2.2.2.1, ()))))))))))
def spec_ActivityIndex (x : (D_Project × ((List UInt8) × Unit))) (c : Unit) : (Option (Int × Unit)) :=
  (Option.bind (loopN (A := (Int × (Int × ((List D_Activity) × ((List UInt8) × Unit))))) big spec_ActivityIndex_L0 (0, ((lenI x.1.2.1), (x.1.2.1, (x.2.1, ()))))) fun v2 => (match v2 with | Out.norm v3 => none | Out.exit v4 => (match ((match v4 with | Sum.inl v7 => (Sum.inl ()) | Sum.inr v8 => (Empty.elim v8)) : (Unit ⊕ Empty)) with | Sum.inl v5 => (some ((-1), ())) | Sum.inr v6 => none) | Out.ret v9 => (some v9)))
def H_spec_ActivityIndex : Hd := ⟨[.st [.int .i64, .sl 159 (.st [.str, .int .i64, .sl 172 (.st [.int .i64, .sl 3 (.int .i64), .sl 3 (.int .i64)])]), .sl 164 (.st [.int .i64, .int .i64, .bool, .int .i64]), .sl 169 (.st [.sl 228 (.st [.int .i64, .int .i64]), .sl 25 (.sl 3 (.int .i64))]), .sl 3 (.int .i64)], .str], [], none, .p, .int .i64, .p, []⟩
def T_spec_ActivityIndex : FSig := ⟨H_spec_ActivityIndex.ps, H_spec_ActivityIndex.cs, H_spec_ActivityIndex.io, H_spec_ActivityIndex.im, H_spec_ActivityIndex.R, H_spec_ActivityIndex.m, spec_ActivityIndex⟩
theorem E_spec_ActivityIndex : fnOf tys [] Tryz.f226 H_spec_ActivityIndex = T_spec_ActivityIndex := by kernel_rfl
theorem K_spec_ActivityIndex : SigOk Tryz.prog 226 T_spec_ActivityIndex := (congrArg (SigOk Tryz.prog 226) E_spec_ActivityIndex).mp (fnOf_ok rfl tysOk trivial Tryz.func226 (by decide) rfl (fun _ h => by cases h) (nilEq_of (by kernel_rfl)))
def spec_StepsOk_L0 : (Int × (Int × ((List D_Step) × ((List D_Step) × Unit)))) → Option (Out (Int × (Int × ((List D_Step) × ((List D_Step) × Unit)))) ((Bool × (Int × (Int × ((List D_Step) × ((List D_Step) × Unit))))) ⊕ Empty) (Bool × Unit)) :=
  (fun v0 => (if (ltZ v0.1 v0.2.1) = true then (Option.bind (getI v0.2.2.1 v0.1) fun v1 => (Option.bind ((Option.bind (spec_l01In (v1.1, (0, (60, ()))) ()) fun v2 => (some v2.1)) : (Option Bool)) fun v3 => (Option.bind ((if (notB v3) = true then (some (true, (v0.1, (v0.2.1, (v0.2.2.1, (v0.2.2.2.1, ())))))) else (Option.bind ((Option.bind (spec_l01In (v1.2.1, (0, (20, ()))) ()) fun v4 => (some v4.1)) : (Option Bool)) fun v5 => (Option.bind ((if (notB v5) = true then (some (true, (v0.1, (v0.2.1, (v0.2.2.1, (v0.2.2.2.1, ())))))) else (Option.bind ((if (ltZ 0 v0.1) = true then (Option.bind (getI v0.2.2.2.1 (subZ .i64 v0.1 1)) fun v6 => (some ((leZ v1.1 v6.1), (v0.1, (v0.2.1, (v0.2.2.1, (v0.2.2.2.1, ()))))))) else (some (false, (v0.1, (v0.2.1, (v0.2.2.1, (v0.2.2.2.1, ()))))))) : (Option (Bool × (Int × (Int × ((List D_Step) × ((List D_Step) × Unit))))))) fun v7 => (some (v7.1, (v7.2.1, (v7.2.2.1, (v7.2.2.2.1, (v7.2.2.2.2.1, ())))))))) : (Option (Bool × (Int × (Int × ((List D_Step) × ((List D_Step) × Unit))))))) fun v8 => (some (v8.1, (v8.2.1, (v8.2.2.1, (v8.2.2.2.1, (v8.2.2.2.2.1, ()))))))))) : (Option (Bool × (Int × (Int × ((List D_Step) × ((List D_Step) × Unit))))))) fun v9 => (if v9.1 = true then (some (Out.ret (false, ()))) else (some (Out.norm ((addZ .i64 v9.2.1 1), (v9.2.2.1, (v9.2.2.2.1, (v9.2.2.2.2.1, ())))))))))) else (some (Out.exit (Sum.inl ((ltZ v0.1 v0.2.1), (v0.1, (v0.2.1, (v0.2.2.1, (v0.2.2.2.1, ()))))))))))
def spec_StepsOk (x : ((List D_Step) × Unit)) (c : Unit) : (Option (Bool × Unit)) :=
  (Option.bind (loopN (A := (Int × (Int × ((List D_Step) × ((List D_Step) × Unit))))) big spec_StepsOk_L0 (0, ((lenI x.1), (x.1, (x.1, ()))))) fun v10 => (match v10 with | Out.norm v11 => none | Out.exit v12 => (match ((match v12 with | Sum.inl v19 => (Sum.inl (v19.2.2.2.2.1, ())) | Sum.inr v20 => (Empty.elim v20)) : (((List D_Step) × Unit) ⊕ Empty)) with | Sum.inl v13 => (Option.bind ((Option.bind (spec_l01In ((lenI v13.1), (1, (8, ()))) ()) fun v14 => (some v14.1)) : (Option Bool)) fun v15 => (Option.bind ((if v15 = true then (Option.bind (getI v13.1 0) fun v16 => (some ((eqZ v16.1 0), ()))) else (some (false, ()))) : (Option (Bool × Unit))) fun v17 => (some (v17.1, ())))) | Sum.inr v18 => none) | Out.ret v21 => (some v21)))
def H_spec_StepsOk : Hd := ⟨[.sl 228 (.st [.int .i64, .int .i64])], [], none, .p, .bool, .p, []⟩
def T_spec_StepsOk : FSig := ⟨H_spec_StepsOk.ps, H_spec_StepsOk.cs, H_spec_StepsOk.io, H_spec_StepsOk.im, H_spec_StepsOk.R, H_spec_StepsOk.m, spec_StepsOk⟩
theorem E_spec_StepsOk : fnOf tys [(111, T_spec_l01In)] Tryz.f262 H_spec_StepsOk = T_spec_StepsOk := by kernel_rfl
theorem K_spec_StepsOk : SigOk Tryz.prog 262 T_spec_StepsOk := (congrArg (SigOk Tryz.prog 262) E_spec_StepsOk).mp (fnOf_ok rfl tysOk ⟨K_spec_l01In, trivial⟩ Tryz.func262 (by decide) rfl (fun _ h => by cases h) (nilEq_of (by kernel_rfl)))
def spec_ResourceOk_L0 : (Int × (Int × ((List Int) × (Int × (Int × ((List (List Int)) × (D_Resource × Unit))))))) → Option (Out (Int × (Int × ((List Int) × (Int × (Int × ((List (List Int)) × (D_Resource × Unit))))))) ((Bool × (Int × (Int × ((List Int) × (Int × (Int × ((List (List Int)) × (D_Resource × Unit)))))))) ⊕ Empty) (Bool × Unit)) :=
  (fun v2 => (if (ltZ v2.1 v2.2.1) = true then (Option.bind (getI v2.2.2.1 v2.1) fun v3 => (Option.bind ((Option.bind (spec_l01In (v3, (0, (12, ()))) ()) fun v4 => (some v4.1)) : (Option Bool)) fun v5 => (if (notB v5) = true then (some (Out.ret (false, ()))) else (some (Out.norm ((addZ .i64 v2.1 1), (v2.2.1, (v2.2.2.1, (v2.2.2.2.1, (v2.2.2.2.2.1, (v2.2.2.2.2.2.1, (v2.2.2.2.2.2.2.1, ())))))))))))) else (some (Out.exit (Sum.inl ((ltZ v2.1 v2.2.1), (v2.1, (v2.2.1, (v2.2.2.1, (v2.2.2.2.1, (v2.2.2.2.2.1, (v2.2.2.2.2.2.1, (v2.2.2.2.2.2.2.1, ())))))))))))))
def spec_ResourceOk_L1 : (Int × (Int × ((List (List Int)) × (D_Resource × Unit)))) → Option (Out (Int × (Int × ((List (List Int)) × (D_Resource × Unit)))) ((Bool × (Int × (Int × ((List (List Int)) × (D_Resource × Unit))))) ⊕ Empty) (Bool × Unit)) :=
  (fun v0 => (if (ltZ v0.1 v0.2.1) = true then (Option.bind (getI v0.2.2.1 v0.1) fun v1 => (if (notB (eqZ (lenI v1) 4)) = true then (some (Out.ret (false, ()))) else (Option.bind (loopN (A := (Int × (Int × ((List Int) × (Int × (Int × ((List (List Int)) × (D_Resource × Unit)))))))) big spec_ResourceOk_L0 (0, ((lenI v1), (v1, (v0.1, (v0.2.1, (v0.2.2.1, (v0.2.2.2.1, ())))))))) fun v6 => (match v6 with | Out.norm v7 => none | Out.exit v8 => (match ((match v8 with | Sum.inl v13 => (Sum.inl (v13.2.2.2.2.1, (v13.2.2.2.2.2.1, (v13.2.2.2.2.2.2.1, (v13.2.2.2.2.2.2.2.1, ()))))) | Sum.inr v14 => (Empty.elim v14)) : ((Int × (Int × ((List (List Int)) × (D_Resource × Unit)))) ⊕ Empty)) with | Sum.inl v9 => (some (Out.norm ((addZ .i64 v9.1 1), (v9.2.1, (v9.2.2.1, (v9.2.2.2.1, ())))))) | Sum.inr v10 => (match ((Empty.elim v10) : ((Int × (Int × ((List (List Int)) × (D_Resource × Unit)))) ⊕ Empty)) with | Sum.inl v11 => (some (Out.norm ((addZ .i64 v11.1 1), (v11.2.1, (v11.2.2.1, (v11.2.2.2.1, ())))))) | Sum.inr v12 => (some (Out.exit (Sum.inr (Empty.elim v12)))))) | Out.ret v15 => (some (Out.ret v15)))))) else (some (Out.exit (Sum.inl ((ltZ v0.1 v0.2.1), (v0.1, (v0.2.1, (v0.2.2.1, (v0.2.2.2.1, ()))))))))))
def spec_ResourceOk (x : (D_Resource × Unit)) (c : Unit) : (Option (Bool × Unit)) :=
  (Option.bind (loopN (A := (Int × (Int × ((List (List Int)) × (D_Resource × Unit))))) big spec_ResourceOk_L1 (0, ((lenI x.1.2.1), (x.1.2.1, (x.1, ()))))) fun v16 => (match v16 with | Out.norm v17 => none | Out.exit v18 => (match ((match v18 with | Sum.inl v25 => (Sum.inl (v25.2.2.2.2.1, ())) | Sum.inr v26 => (Empty.elim v26)) : ((D_Resource × Unit) ⊕ Empty)) with | Sum.inl v19 => (Option.bind ((Option.bind (spec_StepsOk (v19.1.1, ()) ()) fun v20 => (some v20.1)) : (Option Bool)) fun v21 => (Option.bind ((if v21 = true then (Option.bind ((if (eqZ (lenI v19.1.2.1) 0) = true then (some (true, ())) else (some ((eqZ (lenI v19.1.2.1) 4), ()))) : (Option (Bool × Unit))) fun v22 => (some (v22.1, ()))) else (some (false, ()))) : (Option (Bool × Unit))) fun v23 => (some (v23.1, ())))) | Sum.inr v24 => none) | Out.ret v27 => (some v27)))
def H_spec_ResourceOk : Hd := ⟨[.st [.sl 228 (.st [.int .i64, .int .i64]), .sl 25 (.sl 3 (.int .i64))]], [], none, .p, .bool, .p, []⟩
def T_spec_ResourceOk : FSig := ⟨H_spec_ResourceOk.ps, H_spec_ResourceOk.cs, H_spec_ResourceOk.io, H_spec_ResourceOk.im, H_spec_ResourceOk.R, H_spec_ResourceOk.m, spec_ResourceOk⟩
theorem E_spec_ResourceOk : fnOf tys [(111, T_spec_l01In), (262, T_spec_StepsOk)] Tryz.f227 H_spec_ResourceOk = T_spec_ResourceOk := by kernel_rfl
theorem K_spec_ResourceOk : SigOk Tryz.prog 227 T_spec_ResourceOk := (congrArg (SigOk Tryz.prog 227) E_spec_ResourceOk).mp (fnOf_ok rfl tysOk ⟨K_spec_l01In, K_spec_StepsOk, trivial⟩ Tryz.func227 (by decide) rfl (fun _ h => by cases h) (nilEq_of (by kernel_rfl)))
def spec_ProjectOk_L0 : (Int × (Int × ((List D_Activity) × (D_Project × (Int × Unit))))) → Option (Out (Int × (Int × ((List D_Activity) × (D_Project × (Int × Unit))))) ((Bool × (Int × (Int × ((List D_Activity) × (D_Project × (Int × Unit)))))) ⊕ Empty) (Bool × Unit)) :=
  (fun v8 => (if (ltZ v8.1 v8.2.1) = true then (Option.bind (getI v8.2.2.1 v8.1) fun v9 => (Option.bind ((Option.bind (spec_ActivityOk (v9, ((lenI v8.2.2.2.1.2.2.2.1), ((lenI v8.2.2.2.1.2.2.2.2.1), ()))) ()) fun v10 => (some v10.1)) : (Option Bool)) fun v11 => (Option.bind ((if (notB v11) = true then (some (true, (v8.1, (v8.2.1, (v8.2.2.1, (v8.2.2.2.1, (v8.2.2.2.2.1, ()))))))) else (Option.bind ((Option.bind (spec_ActivityIndex (v8.2.2.2.1, (v9.1, ())) ()) fun v12 => (some v12.1)) : (Option Int)) fun v13 => (some ((notB (eqZ v13 v8.1)), (v8.1, (v8.2.1, (v8.2.2.1, (v8.2.2.2.1, (v8.2.2.2.2.1, ()))))))))) : (Option (Bool × (Int × (Int × ((List D_Activity) × (D_Project × (Int × Unit)))))))) fun v14 => (if v14.1 = true then (some (Out.ret (false, ()))) else (some (Out.norm ((addZ .i64 v14.2.1 1), (v14.2.2.1, (v14.2.2.2.1, (v14.2.2.2.2.1, (v14.2.2.2.2.2.1, ()))))))))))) else (some (Out.exit (Sum.inl ((ltZ v8.1 v8.2.1), (v8.1, (v8.2.1, (v8.2.2.1, (v8.2.2.2.1, (v8.2.2.2.2.1, ())))))))))))
def spec_ProjectOk_L1 : (Int × (Int × ((List D_Resource) × (D_Project × (Int × Unit))))) → Option (Out (Int × (Int × ((List D_Resource) × (D_Project × (Int × Unit))))) ((Bool × (Int × (Int × ((List D_Resource) × (D_Project × (Int × Unit)))))) ⊕ Empty) (Bool × Unit)) :=
  (fun v19 => (if (ltZ v19.1 v19.2.1) = true then (Option.bind (getI v19.2.2.1 v19.1) fun v20 => (Option.bind ((Option.bind (spec_ResourceOk (v20, ()) ()) fun v21 => (some v21.1)) : (Option Bool)) fun v22 => (if (notB v22) = true then (some (Out.ret (false, ()))) else (some (Out.norm ((addZ .i64 v19.1 1), (v19.2.1, (v19.2.2.1, (v19.2.2.2.1, (v19.2.2.2.2.1, ())))))))))) else (some (Out.exit (Sum.inl ((ltZ v19.1 v19.2.1), (v19.1, (v19.2.1, (v19.2.2.1, (v19.2.2.2.1, (v19.2.2.2.2.1, ())))))))))))
def spec_ProjectOk_L2 : (Int × (Int × ((List Int) × (D_Project × (Int × Unit))))) → Option (Out (Int × (Int × ((List Int) × (D_Project × (Int × Unit))))) ((Bool × (Int × (Int × ((List Int) × (D_Project × (Int × Unit)))))) ⊕ Empty) (Bool × Unit)) :=
  (fun v27 => (if (ltZ v27.1 v27.2.1) = true then (Option.bind (getI v27.2.2.1 v27.1) fun v28 => (Option.bind ((Option.bind (spec_l01In (v28, (0, (100, ()))) ()) fun v29 => (some v29.1)) : (Option Bool)) fun v30 => (if (notB v30) = true then (some (Out.ret (false, ()))) else (some (Out.norm ((addZ .i64 v27.1 1), (v27.2.1, (v27.2.2.1, (v27.2.2.2.1, (v27.2.2.2.2.1, ())))))))))) else (some (Out.exit (Sum.inl ((ltZ v27.1 v27.2.1), (v27.1, (v27.2.1, (v27.2.2.1, (v27.2.2.2.1, (v27.2.2.2.2.1, ())))))))))))
def spec_ProjectOk_L3 : (Int × (Int × ((List D_Link) × (Int × Unit)))) → Option (Out (Int × (Int × ((List D_Link) × (Int × Unit)))) ((Bool × (Int × (Int × ((List D_Link) × (Int × Unit))))) ⊕ Empty) (Bool × Unit)) :=
  (fun v35 => (if (ltZ v35.1 v35.2.1) = true then (Option.bind (getI v35.2.2.1 v35.1) fun v36 => (Option.bind ((Option.bind (spec_l01In (v36.1, (0, ((subZ .i64 v35.2.2.2.1 1), ()))) ()) fun v37 => (some v37.1)) : (Option Bool)) fun v38 => (Option.bind ((if (notB v38) = true then (some (true, (v35.1, (v35.2.1, (v35.2.2.1, (v35.2.2.2.1, ())))))) else (Option.bind ((Option.bind (spec_l01In (v36.2.1, (0, ((subZ .i64 v35.2.2.2.1 1), ()))) ()) fun v39 => (some v39.1)) : (Option Bool)) fun v40 => (Option.bind ((if (notB v40) = true then (some (true, (v35.1, (v35.2.1, (v35.2.2.1, (v35.2.2.2.1, ())))))) else (Option.bind ((if (eqZ v36.1 v36.2.1) = true then (some (true, (v35.1, (v35.2.1, (v35.2.2.1, (v35.2.2.2.1, ())))))) else (Option.bind ((Option.bind (spec_l01In (v36.2.2.2.1, ((-60), (60, ()))) ()) fun v41 => (some v41.1)) : (Option Bool)) fun v42 => (some ((notB v42), (v35.1, (v35.2.1, (v35.2.2.1, (v35.2.2.2.1, ())))))))) : (Option (Bool × (Int × (Int × ((List D_Link) × (Int × Unit))))))) fun v43 => (some (v43.1, (v43.2.1, (v43.2.2.1, (v43.2.2.2.1, (v43.2.2.2.2.1, ())))))))) : (Option (Bool × (Int × (Int × ((List D_Link) × (Int × Unit))))))) fun v44 => (some (v44.1, (v44.2.1, (v44.2.2.1, (v44.2.2.2.1, (v44.2.2.2.2.1, ()))))))))) : (Option (Bool × (Int × (Int × ((List D_Link) × (Int × Unit))))))) fun v45 => (if v45.1 = true then (some (Out.ret (false, ()))) else (some (Out.norm ((addZ .i64 v45.2.1 1), (v45.2.2.1, (v45.2.2.2.1, (v45.2.2.2.2.1, ())))))))))) else (some (Out.exit (Sum.inl ((ltZ v35.1 v35.2.1), (v35.1, (v35.2.1, (v35.2.2.1, (v35.2.2.2.1, ()))))))))))
def spec_ProjectOk (x : (D_Project × Unit)) (c : Unit) : (Option (Bool × Unit)) :=
  (Option.bind ((Option.bind (spec_l01In (x.1.1, (1, (60, ()))) ()) fun v0 => (some v0.1)) : (Option Bool)) fun v1 => (Option.bind ((if (notB v1) = true then (some (true, (x.1, ((lenI x.1.2.1), ())))) else (Option.bind ((Option.bind (spec_l01In ((lenI x.1.2.1), (1, (6, ()))) ()) fun v2 => (some v2.1)) : (Option Bool)) fun v3 => (Option.bind ((if (notB v3) = true then (some (true, (x.1, ((lenI x.1.2.1), ())))) else (Option.bind ((if (ltZ 3 (lenI x.1.2.2.2.1)) = true then (some (true, (x.1, ((lenI x.1.2.1), ())))) else (Option.bind ((if (ltZ 2 (lenI x.1.2.2.2.2.1)) = true then (some (true, (x.1, ((lenI x.1.2.1), ())))) else (some ((ltZ 12 (lenI x.1.2.2.1)), (x.1, ((lenI x.1.2.1), ()))))) : (Option (Bool × (D_Project × (Int × Unit))))) fun v4 => (some (v4.1, (v4.2.1, (v4.2.2.1, ())))))) : (Option (Bool × (D_Project × (Int × Unit))))) fun v5 => (some (v5.1, (v5.2.1, (v5.2.2.1, ())))))) : (Option (Bool × (D_Project × (Int × Unit))))) fun v6 => (some (v6.1, (v6.2.1, (v6.2.2.1, ()))))))) : (Option (Bool × (D_Project × (Int × Unit))))) fun v7 => (if v7.1 = true then (some (false, ())) else (Option.bind (loopN (A := (Int × (Int × ((List D_Activity) × (D_Project × (Int × Unit)))))) big spec_ProjectOk_L0 (0, ((lenI v7.2.1.2.1), (v7.2.1.2.1, (v7.2.1, (v7.2.2.1, ())))))) fun v15 => (match v15 with | Out.norm v16 => none | Out.exit v17 => (match ((match v17 with | Sum.inl v63 => (Sum.inl (v63.2.2.2.2.1, (v63.2.2.2.2.2.1, ()))) | Sum.inr v64 => (Empty.elim v64)) : ((D_Project × (Int × Unit)) ⊕ Empty)) with | Sum.inl v18 => (Option.bind (loopN (A := (Int × (Int × ((List D_Resource) × (D_Project × (Int × Unit)))))) big spec_ProjectOk_L1 (0, ((lenI v18.1.2.2.2.1), (v18.1.2.2.2.1, (v18.1, (v18.2.1, ())))))) fun v23 => (match v23 with | Out.norm v24 => none | Out.exit v25 => (match ((match v25 with | Sum.inl v59 => (Sum.inl (v59.2.2.2.2.1, (v59.2.2.2.2.2.1, ()))) | Sum.inr v60 => (Empty.elim v60)) : ((D_Project × (Int × Unit)) ⊕ Empty)) with | Sum.inl v26 => (Option.bind (loopN (A := (Int × (Int × ((List Int) × (D_Project × (Int × Unit)))))) big spec_ProjectOk_L2 (0, ((lenI v26.1.2.2.2.2.1), (v26.1.2.2.2.2.1, (v26.1, (v26.2.1, ())))))) fun v31 => (match v31 with | Out.norm v32 => none | Out.exit v33 => (match ((match v33 with | Sum.inl v55 => (Sum.inl (v55.2.2.2.2.1, (v55.2.2.2.2.2.1, ()))) | Sum.inr v56 => (Empty.elim v56)) : ((D_Project × (Int × Unit)) ⊕ Empty)) with | Sum.inl v34 => (Option.bind (loopN (A := (Int × (Int × ((List D_Link) × (Int × Unit))))) big spec_ProjectOk_L3 (0, ((lenI v34.1.2.2.1), (v34.1.2.2.1, (v34.2.1, ()))))) fun v46 => (match v46 with | Out.norm v47 => none | Out.exit v48 => (match ((match v48 with | Sum.inl v51 => (Sum.inl ()) | Sum.inr v52 => (Empty.elim v52)) : (Unit ⊕ Empty)) with | Sum.inl v49 => (some (true, ())) | Sum.inr v50 => none) | Out.ret v53 => (some v53))) | Sum.inr v54 => none) | Out.ret v57 => (some v57))) | Sum.inr v58 => none) | Out.ret v61 => (some v61))) | Sum.inr v62 => none) | Out.ret v65 => (some v65))))))
def H_spec_ProjectOk : Hd := ⟨[.st [.int .i64, .sl 159 (.st [.str, .int .i64, .sl 172 (.st [.int .i64, .sl 3 (.int .i64), .sl 3 (.int .i64)])]), .sl 164 (.st [.int .i64, .int .i64, .bool, .int .i64]), .sl 169 (.st [.sl 228 (.st [.int .i64, .int .i64]), .sl 25 (.sl 3 (.int .i64))]), .sl 3 (.int .i64)]], [], none, .p, .bool, .p, []⟩
def T_spec_ProjectOk : FSig := ⟨H_spec_ProjectOk.ps, H_spec_ProjectOk.cs, H_spec_ProjectOk.io, H_spec_ProjectOk.im, H_spec_ProjectOk.R, H_spec_ProjectOk.m, spec_ProjectOk⟩
theorem E_spec_ProjectOk : fnOf tys [(111, T_spec_l01In), (225, T_spec_ActivityOk), (226, T_spec_ActivityIndex), (227, T_spec_ResourceOk)] Tryz.f140 H_spec_ProjectOk = T_spec_ProjectOk := by kernel_rfl
theorem K_spec_ProjectOk : SigOk Tryz.prog 140 T_spec_ProjectOk := (congrArg (SigOk Tryz.prog 140) E_spec_ProjectOk).mp (fnOf_ok rfl tysOk ⟨K_spec_l01In, K_spec_ActivityOk, K_spec_ActivityIndex, K_spec_ResourceOk, trivial⟩ Tryz.func140 (by decide) rfl (fun _ h => by cases h) (nilEq_of (by kernel_rfl)))
def spec_ScheduleForm_L0 : (Int × (Int × ((List D_Activity) × (D_Schedule × Unit)))) → Option (Out (Int × (Int × ((List D_Activity) × (D_Schedule × Unit)))) ((Bool × (Int × (Int × ((List D_Activity) × (D_Schedule × Unit))))) ⊕ Empty) (Bool × Unit)) :=
  (fun v4 => (if (ltZ v4.1 v4.2.1) = true then (Option.bind (getI v4.2.2.1 v4.1) fun v5 => (Option.bind (getI v4.2.2.2.1.1 v4.1) fun v6 => (Option.bind ((Option.bind (spec_l01In (v6, (0, (60, ()))) ()) fun v7 => (some v7.1)) : (Option Bool)) fun v8 => (Option.bind ((if (notB v8) = true then (some (true, (v4.1, (v4.2.1, (v4.2.2.1, (v4.2.2.2.1, ())))))) else (Option.bind (getI v4.2.2.2.1.2.1 v4.1) fun v9 => (Option.bind ((Option.bind (spec_l01In (v9, (0, ((subZ .i64 (lenI v5.2.2.1) 1), ()))) ()) fun v10 => (some v10.1)) : (Option Bool)) fun v11 => (some ((notB v11), (v4.1, (v4.2.1, (v4.2.2.1, (v4.2.2.2.1, ()))))))))) : (Option (Bool × (Int × (Int × ((List D_Activity) × (D_Schedule × Unit))))))) fun v12 => (if v12.1 = true then (some (Out.ret (false, ()))) else (some (Out.norm ((addZ .i64 v12.2.1 1), (v12.2.2.1, (v12.2.2.2.1, (v12.2.2.2.2.1, ()))))))))))) else (some (Out.exit (Sum.inl ((ltZ v4.1 v4.2.1), (v4.1, (v4.2.1, (v4.2.2.1, (v4.2.2.2.1, ()))))))))))
def spec_ScheduleForm (x : (D_Project × (D_Schedule × Unit))) (c : Unit) : (Option (Bool × Unit)) :=
  (Option.bind ((Option.bind (spec_ProjectOk (x.1, ()) ()) fun v0 => (some v0.1)) : (Option Bool)) fun v1 => (Option.bind ((if (notB v1) = true then (some (true, (x.1, (x.2.1, ())))) else (Option.bind ((if (notB (eqZ (lenI x.2.1.1) (lenI x.1.2.1))) = true then (some (true, (x.1, (x.2.1, ())))) else (some ((notB (eqZ (lenI x.2.1.2.1) (lenI x.1.2.1))), (x.1, (x.2.1, ()))))) : (Option (Bool × (D_Project × (D_Schedule × Unit))))) fun v2 => (some (v2.1, (v2.2.1, (v2.2.2.1, ())))))) : (Option (Bool × (D_Project × (D_Schedule × Unit))))) fun v3 => (if v3.1 = true then (some (false, ())) else (Option.bind (loopN (A := (Int × (Int × ((List D_Activity) × (D_Schedule × Unit))))) big spec_ScheduleForm_L0 (0, ((lenI v3.2.1.2.1), (v3.2.1.2.1, (v3.2.2.1, ()))))) fun v13 => (match v13 with | Out.norm v14 => none | Out.exit v15 => (match ((match v15 with | Sum.inl v18 => (Sum.inl ()) | Sum.inr v19 => (Empty.elim v19)) : (Unit ⊕ Empty)) with | Sum.inl v16 => (some (true, ())) | Sum.inr v17 => none) | Out.ret v20 => (some v20))))))
def H_spec_ScheduleForm : Hd := ⟨[.st [.int .i64, .sl 159 (.st [.str, .int .i64, .sl 172 (.st [.int .i64, .sl 3 (.int .i64), .sl 3 (.int .i64)])]), .sl 164 (.st [.int .i64, .int .i64, .bool, .int .i64]), .sl 169 (.st [.sl 228 (.st [.int .i64, .int .i64]), .sl 25 (.sl 3 (.int .i64))]), .sl 3 (.int .i64)], .st [.sl 3 (.int .i64), .sl 3 (.int .i64)]], [], none, .p, .bool, .p, []⟩
def T_spec_ScheduleForm : FSig := ⟨H_spec_ScheduleForm.ps, H_spec_ScheduleForm.cs, H_spec_ScheduleForm.io, H_spec_ScheduleForm.im, H_spec_ScheduleForm.R, H_spec_ScheduleForm.m, spec_ScheduleForm⟩
theorem E_spec_ScheduleForm : fnOf tys [(111, T_spec_l01In), (140, T_spec_ProjectOk)] Tryz.f162 H_spec_ScheduleForm = T_spec_ScheduleForm := by kernel_rfl
theorem K_spec_ScheduleForm : SigOk Tryz.prog 162 T_spec_ScheduleForm := (congrArg (SigOk Tryz.prog 162) E_spec_ScheduleForm).mp (fnOf_ok rfl tysOk ⟨K_spec_l01In, K_spec_ProjectOk, trivial⟩ Tryz.func162 (by decide) rfl (fun _ h => by cases h) (nilEq_of (by kernel_rfl)))
def spec_SetOk_L0 : (Int × (Int × ((List Int) × Unit))) → Option (Out (Int × (Int × ((List Int) × Unit))) ((Bool × (Int × (Int × ((List Int) × Unit)))) ⊕ Empty) (Bool × Unit)) :=
  (fun v0 => (if (ltZ v0.1 v0.2.1) = true then (Option.bind ((if (ltZ 0 v0.1) = true then (Option.bind (getI v0.2.2.1 (subZ .i64 v0.1 1)) fun v1 => (Option.bind (getI v0.2.2.1 v0.1) fun v2 => (some ((leZ v2 v1), (v0.1, (v0.2.1, (v0.2.2.1, ()))))))) else (some (false, (v0.1, (v0.2.1, (v0.2.2.1, ())))))) : (Option (Bool × (Int × (Int × ((List Int) × Unit)))))) fun v3 => (if v3.1 = true then (some (Out.ret (false, ()))) else (some (Out.norm ((addZ .i64 v3.2.1 1), (v3.2.2.1, (v3.2.2.2.1, ()))))))) else (some (Out.exit (Sum.inl ((ltZ v0.1 v0.2.1), (v0.1, (v0.2.1, (v0.2.2.1, ())))))))))
def spec_SetOk (x : ((List Int) × Unit)) (c : Unit) : (Option (Bool × Unit)) :=
  (Option.bind (loopN (A := (Int × (Int × ((List Int) × Unit)))) big spec_SetOk_L0 (0, ((lenI x.1), (x.1, ())))) fun v4 => (match v4 with | Out.norm v5 => none | Out.exit v6 => (match ((match v6 with | Sum.inl v9 => (Sum.inl ()) | Sum.inr v10 => (Empty.elim v10)) : (Unit ⊕ Empty)) with | Sum.inl v7 => (some (true, ())) | Sum.inr v8 => none) | Out.ret v11 => (some v11)))
def H_spec_SetOk : Hd := ⟨[.sl 3 (.int .i64)], [], none, .p, .bool, .p, []⟩
def T_spec_SetOk : FSig := ⟨H_spec_SetOk.ps, H_spec_SetOk.cs, H_spec_SetOk.io, H_spec_SetOk.im, H_spec_SetOk.R, H_spec_SetOk.m, spec_SetOk⟩
theorem E_spec_SetOk : fnOf tys [] Tryz.f178 H_spec_SetOk = T_spec_SetOk := by kernel_rfl
theorem K_spec_SetOk : SigOk Tryz.prog 178 T_spec_SetOk := (congrArg (SigOk Tryz.prog 178) E_spec_SetOk).mp (fnOf_ok rfl tysOk trivial Tryz.func178 (by decide) rfl (fun _ h => by cases h) (nilEq_of (by kernel_rfl)))
def spec_SetHas_L0 : (Int × (Int × ((List Int) × (Int × Unit)))) → Option (Out (Int × (Int × ((List Int) × (Int × Unit)))) ((Bool × (Int × (Int × ((List Int) × (Int × Unit))))) ⊕ Empty) (Bool × Unit)) :=
  (fun v0 => (if (ltZ v0.1 v0.2.1) = true then (Option.bind (getI v0.2.2.1 v0.1) fun v1 => (if (eqZ v1 v0.2.2.2.1) = true then (some (Out.ret (true, ()))) else (some (Out.norm ((addZ .i64 v0.1 1), (v0.2.1, (v0.2.2.1, (v0.2.2.2.1, ())))))))) else (some (Out.exit (Sum.inl ((ltZ v0.1 v0.2.1), (v0.1, (v0.2.1, (v0.2.2.1, (v0.2.2.2.1, ()))))))))))
def spec_SetHas (x : ((List Int) × (Int × Unit))) (c : Unit) : (Option (Bool × Unit)) :=
  (Option.bind (loopN (A := (Int × (Int × ((List Int) × (Int × Unit))))) big spec_SetHas_L0 (0, ((lenI x.1), (x.1, (x.2.1, ()))))) fun v2 => (match v2 with | Out.norm v3 => none | Out.exit v4 => (match ((match v4 with | Sum.inl v7 => (Sum.inl ()) | Sum.inr v8 => (Empty.elim v8)) : (Unit ⊕ Empty)) with | Sum.inl v5 => (some (false, ())) | Sum.inr v6 => none) | Out.ret v9 => (some v9)))
def H_spec_SetHas : Hd := ⟨[.sl 3 (.int .i64), .int .i64], [], none, .p, .bool, .p, []⟩
def T_spec_SetHas : FSig := ⟨H_spec_SetHas.ps, H_spec_SetHas.cs, H_spec_SetHas.io, H_spec_SetHas.im, H_spec_SetHas.R, H_spec_SetHas.m, spec_SetHas⟩
theorem E_spec_SetHas : fnOf tys [] Tryz.f121 H_spec_SetHas = T_spec_SetHas := by kernel_rfl
theorem K_spec_SetHas : SigOk Tryz.prog 121 T_spec_SetHas := (congrArg (SigOk Tryz.prog 121) E_spec_SetHas).mp (fnOf_ok rfl tysOk trivial Tryz.func121 (by decide) rfl (fun _ h => by cases h) (nilEq_of (by kernel_rfl)))
def spec_SetSubset_L0 : (Int × D_Mode) → Option (Out (Int × D_Mode) ((Bool × (Int × D_Mode)) ⊕ Empty) (Bool × Unit)) :=
  (fun v0 => (if (ltZ v0.1 v0.2.1) = true then (Option.bind (getI v0.2.2.1 v0.1) fun v1 => (Option.bind ((Option.bind (spec_SetHas (v0.2.2.2.1, (v1, ())) ()) fun v2 => (some v2.1)) : (Option Bool)) fun v3 => (if (notB v3) = true then (some (Out.ret (false, ()))) else (some (Out.norm ((addZ .i64 v0.1 1), (v0.2.1, (v0.2.2.1, (v0.2.2.2.1, ()))))))))) else (some (Out.exit (Sum.inl ((ltZ v0.1 v0.2.1), (v0.1, (v0.2.1, (v0.2.2.1, (v0.2.2.2.1, ()))))))))))
def spec_SetSubset (x : D_Schedule) (c : Unit) : (Option (Bool × Unit)) :=
  (Option.bind (loopN (A := (Int × D_Mode)) big spec_SetSubset_L0 (0, ((lenI x.1), (x.1, (x.2.1, ()))))) fun v4 => (match v4 with | Out.norm v5 => none | Out.exit v6 => (match ((match v6 with | Sum.inl v9 => (Sum.inl ()) | Sum.inr v10 => (Empty.elim v10)) : (Unit ⊕ Empty)) with | Sum.inl v7 => (some (true, ())) | Sum.inr v8 => none) | Out.ret v11 => (some v11)))
def H_spec_SetSubset : Hd := ⟨[.sl 3 (.int .i64), .sl 3 (.int .i64)], [], none, .p, .bool, .p, []⟩
def T_spec_SetSubset : FSig := ⟨H_spec_SetSubset.ps, H_spec_SetSubset.cs, H_spec_SetSubset.io, H_spec_SetSubset.im, H_spec_SetSubset.R, H_spec_SetSubset.m, spec_SetSubset⟩
theorem E_spec_SetSubset : fnOf tys [(121, T_spec_SetHas)] Tryz.f179 H_spec_SetSubset = T_spec_SetSubset := by kernel_rfl
theorem K_spec_SetSubset : SigOk Tryz.prog 179 T_spec_SetSubset := (congrArg (SigOk Tryz.prog 179) E_spec_SetSubset).mp (fnOf_ok rfl tysOk ⟨K_spec_SetHas, trivial⟩ Tryz.func179 (by decide) rfl (fun _ h => by cases h) (nilEq_of (by kernel_rfl)))
def spec_IntRange_L0 : (Int × (Int × ((List Int) × Unit))) → Option (Out (Int × (Int × ((List Int) × Unit))) ((Bool × (Int × (Int × ((List Int) × Unit)))) ⊕ Empty) ((List Int) × Unit)) :=
  (fun v2 => (if (ltZ v2.1 v2.2.1) = true then (Option.bind (addI v2.2.2.1 (v2.1 :: [])) fun v3 => (some (Out.norm ((addZ .i64 v2.1 1), (v2.2.1, (v3, ())))))) else (some (Out.exit (Sum.inl ((ltZ v2.1 v2.2.1), (v2.1, (v2.2.1, (v2.2.2.1, ())))))))))
def spec_IntRange (x : (Int × Unit)) (c : Unit) : (Option ((List Int) × Unit)) :=
  (Option.bind ((Option.bind (spec_l01In (x.1, (0, (200, ()))) ()) fun v0 => (some v0.1)) : (Option Bool)) fun v1 => (if (notB v1) = true then (some ([], ())) else (Option.bind (loopN (A := (Int × (Int × ((List Int) × Unit)))) big spec_IntRange_L0 (0, (x.1, ([], ())))) fun v4 => (match v4 with | Out.norm v5 => none | Out.exit v6 => (match ((match v6 with | Sum.inl v9 => (Sum.inl (v9.2.2.2.1, ())) | Sum.inr v10 => (Empty.elim v10)) : (((List Int) × Unit) ⊕ Empty)) with | Sum.inl v7 => (some (v7.1, ())) | Sum.inr v8 => none) | Out.ret v11 => (some v11)))))
def H_spec_IntRange : Hd := ⟨[.int .i64], [], none, .p, .sl 3 (.int .i64), (Ty.all (.sl 3 (.int .i64))), []⟩
def T_spec_IntRange : FSig := ⟨H_spec_IntRange.ps, H_spec_IntRange.cs, H_spec_IntRange.io, H_spec_IntRange.im, H_spec_IntRange.R, H_spec_IntRange.m, spec_IntRange⟩
theorem E_spec_IntRange : fnOf tys [(111, T_spec_l01In)] Tryz.f203 H_spec_IntRange = T_spec_IntRange := by kernel_rfl
theorem K_spec_IntRange : SigOk Tryz.prog 203 T_spec_IntRange := (congrArg (SigOk Tryz.prog 203) E_spec_IntRange).mp (fnOf_ok rfl tysOk ⟨K_spec_l01In, trivial⟩ Tryz.func203 (by decide) rfl (fun _ h => by cases h) (nilEq_of (by kernel_rfl)))
def spec_PlanOk (x : (D_Project × (D_Plan × Unit))) (c : Unit) : (Option (Bool × Unit)) :=
  (Option.bind ((Option.bind (spec_ScheduleForm (x.1, (x.2.1.1, ())) ()) fun v0 => (some v0.1)) : (Option Bool)) fun v1 => (Option.bind ((if v1 = true then (Option.bind ((Option.bind (spec_SetOk (x.2.1.2.1, ()) ()) fun v2 => (some v2.1)) : (Option Bool)) fun v3 => (Option.bind ((if v3 = true then (Option.bind ((Option.bind (spec_IntRange ((lenI x.1.2.1), ()) ()) fun v4 => (some v4.1)) : (Option (List Int))) fun v5 => (Option.bind ((Option.bind (spec_SetSubset (x.2.1.2.1, (v5, ())) ()) fun v6 => (some v6.1)) : (Option Bool)) fun v7 => (some (v7, ())))) else (some (false, ()))) : (Option (Bool × Unit))) fun v8 => (some (v8.1, ())))) else (some (false, ()))) : (Option (Bool × Unit))) fun v9 => (some (v9.1, ()))))
def H_spec_PlanOk : Hd := ⟨[.st [.int .i64, .sl 159 (.st [.str, .int .i64, .sl 172 (.st [.int .i64, .sl 3 (.int .i64), .sl 3 (.int .i64)])]), .sl 164 (.st [.int .i64, .int .i64, .bool, .int .i64]), .sl 169 (.st [.sl 228 (.st [.int .i64, .int .i64]), .sl 25 (.sl 3 (.int .i64))]), .sl 3 (.int .i64)], .st [.st [.sl 3 (.int .i64), .sl 3 (.int .i64)], .sl 3 (.int .i64)]], [], none, .p, .bool, .p, []⟩
def T_spec_PlanOk : FSig := ⟨H_spec_PlanOk.ps, H_spec_PlanOk.cs, H_spec_PlanOk.io, H_spec_PlanOk.im, H_spec_PlanOk.R, H_spec_PlanOk.m, spec_PlanOk⟩
theorem E_spec_PlanOk : fnOf tys [(162, T_spec_ScheduleForm), (178, T_spec_SetOk), (179, T_spec_SetSubset), (203, T_spec_IntRange)] Tryz.f120 H_spec_PlanOk = T_spec_PlanOk := by kernel_rfl
theorem K_spec_PlanOk : SigOk Tryz.prog 120 T_spec_PlanOk := (congrArg (SigOk Tryz.prog 120) E_spec_PlanOk).mp (fnOf_ok rfl tysOk ⟨K_spec_ScheduleForm, K_spec_SetOk, K_spec_SetSubset, K_spec_IntRange, trivial⟩ Tryz.func120 (by decide) rfl (fun _ h => by cases h) (nilEq_of (by kernel_rfl)))
def spec_l24Ok (x : (D_Project × (D_Plan × D_Step))) (c : Unit) : (Option (Bool × Unit)) :=
  (Option.bind ((Option.bind (spec_PlanOk (x.1, (x.2.1, ())) ()) fun v0 => (some v0.1)) : (Option Bool)) fun v1 => (Option.bind ((if v1 = true then (Option.bind ((Option.bind (spec_l01In (x.2.2.1, (0, ((subZ .i64 (lenI x.1.2.1) 1), ()))) ()) fun v2 => (some v2.1)) : (Option Bool)) fun v3 => (Option.bind ((if v3 = true then (Option.bind ((Option.bind (spec_SetHas (x.2.1.2.1, (x.2.2.1, ())) ()) fun v4 => (some v4.1)) : (Option Bool)) fun v5 => (Option.bind ((if (notB v5) = true then (Option.bind (getI x.1.2.1 x.2.2.1) fun v6 => (Option.bind ((Option.bind (spec_l01In (x.2.2.2.1, (0, ((subZ .i64 (lenI v6.2.2.1) 1), ()))) ()) fun v7 => (some v7.1)) : (Option Bool)) fun v8 => (some (v8, ())))) else (some (false, ()))) : (Option (Bool × Unit))) fun v9 => (some (v9.1, ())))) else (some (false, ()))) : (Option (Bool × Unit))) fun v10 => (some (v10.1, ())))) else (some (false, ()))) : (Option (Bool × Unit))) fun v11 => (some (v11.1, ()))))
def H_spec_l24Ok : Hd := ⟨[.st [.int .i64, .sl 159 (.st [.str, .int .i64, .sl 172 (.st [.int .i64, .sl 3 (.int .i64), .sl 3 (.int .i64)])]), .sl 164 (.st [.int .i64, .int .i64, .bool, .int .i64]), .sl 169 (.st [.sl 228 (.st [.int .i64, .int .i64]), .sl 25 (.sl 3 (.int .i64))]), .sl 3 (.int .i64)], .st [.st [.sl 3 (.int .i64), .sl 3 (.int .i64)], .sl 3 (.int .i64)], .int .i64, .int .i64], [], none, .p, .bool, .p, []⟩
def T_spec_l24Ok : FSig := ⟨H_spec_l24Ok.ps, H_spec_l24Ok.cs, H_spec_l24Ok.io, H_spec_l24Ok.im, H_spec_l24Ok.R, H_spec_l24Ok.m, spec_l24Ok⟩
theorem E_spec_l24Ok : fnOf tys [(111, T_spec_l01In), (120, T_spec_PlanOk), (121, T_spec_SetHas)] Tryz.f55 H_spec_l24Ok = T_spec_l24Ok := by kernel_rfl
theorem K_spec_l24Ok : SigOk Tryz.prog 55 T_spec_l24Ok := (congrArg (SigOk Tryz.prog 55) E_spec_l24Ok).mp (fnOf_ok rfl tysOk ⟨K_spec_l01In, K_spec_PlanOk, K_spec_SetHas, trivial⟩ Tryz.func55 (by decide) rfl (fun _ h => by cases h) (nilEq_of (by kernel_rfl)))
def spec_l02Max (x : D_Step) (c : Unit) : (Option (Int × Unit)) :=
  (if (ltZ x.2.1 x.1) = true then (some (x.1, ())) else (some (x.2.1, ())))
def H_spec_l02Max : Hd := ⟨[.int .i64, .int .i64], [], none, .p, .int .i64, .p, []⟩
def T_spec_l02Max : FSig := ⟨H_spec_l02Max.ps, H_spec_l02Max.cs, H_spec_l02Max.io, H_spec_l02Max.im, H_spec_l02Max.R, H_spec_l02Max.m, spec_l02Max⟩
theorem E_spec_l02Max : fnOf tys [] Tryz.f56 H_spec_l02Max = T_spec_l02Max := by kernel_rfl
theorem K_spec_l02Max : SigOk Tryz.prog 56 T_spec_l02Max := (congrArg (SigOk Tryz.prog 56) E_spec_l02Max).mp (fnOf_ok rfl tysOk trivial Tryz.func56 (by decide) rfl (fun _ h => by cases h) (nilEq_of (by kernel_rfl)))
def spec_l09Copy (x : (D_Schedule × Unit)) (c : Unit) : (Option (D_Schedule × Unit)) :=
  (Option.bind (addI [] x.1.1) fun v0 => (Option.bind (addI [] x.1.2.1) fun v1 => (some ((v0, (v1, ())), ()))))
def H_spec_l09Copy : Hd := ⟨[.st [.sl 3 (.int .i64), .sl 3 (.int .i64)]], [], none, .p, .st [.sl 3 (.int .i64), .sl 3 (.int .i64)], (Ty.all (.st [.sl 3 (.int .i64), .sl 3 (.int .i64)])), []⟩
def T_spec_l09Copy : FSig := ⟨H_spec_l09Copy.ps, H_spec_l09Copy.cs, H_spec_l09Copy.io, H_spec_l09Copy.im, H_spec_l09Copy.R, H_spec_l09Copy.m, spec_l09Copy⟩
theorem E_spec_l09Copy : fnOf tys [] Tryz.f112 H_spec_l09Copy = T_spec_l09Copy := by kernel_rfl
theorem K_spec_l09Copy : SigOk Tryz.prog 112 T_spec_l09Copy := (congrArg (SigOk Tryz.prog 112) E_spec_l09Copy).mp (fnOf_ok rfl tysOk trivial Tryz.func112 (by decide) rfl (fun _ h => by cases h) (nilEq_of (by kernel_rfl)))
def spec_l24Copy (x : (D_Plan × Unit)) (c : Unit) : (Option (D_Plan × Unit)) :=
  (Option.bind ((Option.bind (spec_l09Copy (x.1.1, ()) ()) fun v0 => (some v0.1)) : (Option D_Schedule)) fun v1 => (Option.bind (addI [] x.1.2.1) fun v2 => (some ((v1, (v2, ())), ()))))
def H_spec_l24Copy : Hd := ⟨[.st [.st [.sl 3 (.int .i64), .sl 3 (.int .i64)], .sl 3 (.int .i64)]], [], none, .p, .st [.st [.sl 3 (.int .i64), .sl 3 (.int .i64)], .sl 3 (.int .i64)], (Ty.all (.st [.st [.sl 3 (.int .i64), .sl 3 (.int .i64)], .sl 3 (.int .i64)])), []⟩
def T_spec_l24Copy : FSig := ⟨H_spec_l24Copy.ps, H_spec_l24Copy.cs, H_spec_l24Copy.io, H_spec_l24Copy.im, H_spec_l24Copy.R, H_spec_l24Copy.m, spec_l24Copy⟩
theorem E_spec_l24Copy : fnOf tys [(112, T_spec_l09Copy)] Tryz.f76 H_spec_l24Copy = T_spec_l24Copy := by kernel_rfl
theorem K_spec_l24Copy : SigOk Tryz.prog 76 T_spec_l24Copy := (congrArg (SigOk Tryz.prog 76) E_spec_l24Copy).mp (fnOf_ok rfl tysOk ⟨K_spec_l09Copy, trivial⟩ Tryz.func76 (by decide) rfl (fun _ h => by cases h) (nilEq_of (by kernel_rfl)))
def spec_l02Put_L0 : (Int × ((List Int) × (Int × Unit))) → Option (Out (Int × ((List Int) × (Int × Unit))) ((Bool × (Int × ((List Int) × (Int × Unit)))) ⊕ Empty) ((List Int) × Unit)) :=
  (fun v2 => (Option.bind ((if (ltZ v2.2.2.1 (lenI v2.2.1)) = true then (Option.bind (getI v2.2.1 v2.2.2.1) fun v3 => (some ((ltZ v3 v2.1), (v2.1, (v2.2.1, (v2.2.2.1, ())))))) else (some (false, (v2.1, (v2.2.1, (v2.2.2.1, ())))))) : (Option (Bool × (Int × ((List Int) × (Int × Unit)))))) fun v4 => (if v4.1 = true then (some (Out.norm (v4.2.1, (v4.2.2.1, ((addZ .i64 v4.2.2.2.1 1), ()))))) else (some (Out.exit (Sum.inl v4))))))
def spec_l02Put (x : ((List Int) × (Int × Unit))) (c : Unit) : (Option ((List Int) × Unit)) :=
  (Option.bind ((Option.bind (spec_SetHas (x.1, (x.2.1, ())) ()) fun v0 => (some v0.1)) : (Option Bool)) fun v1 => (if v1 = true then (some (x.1, ())) else (Option.bind (loopN (A := (Int × ((List Int) × (Int × Unit)))) big spec_l02Put_L0 (x.2.1, (x.1, (0, ())))) fun v5 => (match v5 with | Out.norm v6 => none | Out.exit v7 => (match ((match v7 with | Sum.inl v15 => (Sum.inl (v15.2.1, (v15.2.2.1, (v15.2.2.2.1, ())))) | Sum.inr v16 => (Empty.elim v16)) : ((Int × ((List Int) × (Int × Unit))) ⊕ Empty)) with | Sum.inl v8 => (Option.bind (cutI v8.2.1 0 v8.2.2.1) fun v9 => (Option.bind (addI [] v9) fun v10 => (Option.bind (addI v10 (v8.1 :: [])) fun v11 => (Option.bind (cutI v8.2.1 v8.2.2.1 (lenI v8.2.1)) fun v12 => (Option.bind (addI v11 v12) fun v13 => (some (v13, ()))))))) | Sum.inr v14 => none) | Out.ret v17 => (some v17)))))
def H_spec_l02Put : Hd := ⟨[.sl 3 (.int .i64), .int .i64], [], none, .p, .sl 3 (.int .i64), .p, []⟩
def T_spec_l02Put : FSig := ⟨H_spec_l02Put.ps, H_spec_l02Put.cs, H_spec_l02Put.io, H_spec_l02Put.im, H_spec_l02Put.R, H_spec_l02Put.m, spec_l02Put⟩
theorem E_spec_l02Put : fnOf tys [(121, T_spec_SetHas)] Tryz.f155 H_spec_l02Put = T_spec_l02Put := by kernel_rfl
theorem K_spec_l02Put : SigOk Tryz.prog 155 T_spec_l02Put := (congrArg (SigOk Tryz.prog 155) E_spec_l02Put).mp (fnOf_ok rfl tysOk ⟨K_spec_SetHas, trivial⟩ Tryz.func155 (by decide) rfl (fun _ h => by cases h) (nilEq_of (by kernel_rfl)))
def spec_SetOf_L0 : (Int × D_Mode) → Option (Out (Int × D_Mode) ((Bool × (Int × D_Mode)) ⊕ Empty) ((List Int) × Unit)) :=
  (fun v0 => (if (ltZ v0.1 v0.2.1) = true then (Option.bind (getI v0.2.2.1 v0.1) fun v1 => (Option.bind ((Option.bind (spec_l02Put (v0.2.2.2.1, (v1, ())) ()) fun v2 => (some v2.1)) : (Option (List Int))) fun v3 => (some (Out.norm ((addZ .i64 v0.1 1), (v0.2.1, (v0.2.2.1, (v3, ())))))))) else (some (Out.exit (Sum.inl ((ltZ v0.1 v0.2.1), (v0.1, (v0.2.1, (v0.2.2.1, (v0.2.2.2.1, ()))))))))))
def spec_SetOf (x : ((List Int) × Unit)) (c : Unit) : (Option ((List Int) × Unit)) :=
  (Option.bind (loopN (A := (Int × D_Mode)) big spec_SetOf_L0 (0, ((lenI x.1), (x.1, ([], ()))))) fun v4 => (match v4 with | Out.norm v5 => none | Out.exit v6 => (match ((match v6 with | Sum.inl v9 => (Sum.inl (v9.2.2.2.2.1, ())) | Sum.inr v10 => (Empty.elim v10)) : (((List Int) × Unit) ⊕ Empty)) with | Sum.inl v7 => (some (v7.1, ())) | Sum.inr v8 => none) | Out.ret v11 => (some v11)))
def H_spec_SetOf : Hd := ⟨[.sl 3 (.int .i64)], [], none, .p, .sl 3 (.int .i64), .p, [(1, .p), (2, .p), (3, .p)]⟩
def T_spec_SetOf : FSig := ⟨H_spec_SetOf.ps, H_spec_SetOf.cs, H_spec_SetOf.io, H_spec_SetOf.im, H_spec_SetOf.R, H_spec_SetOf.m, spec_SetOf⟩
theorem E_spec_SetOf : fnOf tys [(155, T_spec_l02Put)] Tryz.f156 H_spec_SetOf = T_spec_SetOf := by kernel_rfl
theorem K_spec_SetOf : SigOk Tryz.prog 156 T_spec_SetOf := (congrArg (SigOk Tryz.prog 156) E_spec_SetOf).mp (fnOf_ok rfl tysOk ⟨K_spec_l02Put, trivial⟩ Tryz.func156 (by decide) rfl (fun _ h => by cases h) (nilEq_of (by kernel_rfl)))
def spec_SetAdd (x : ((List Int) × (Int × Unit))) (c : Unit) : (Option ((List Int) × Unit)) :=
  (Option.bind ((Option.bind (spec_SetOf (x.1, ()) ()) fun v0 => (some v0.1)) : (Option (List Int))) fun v1 => (Option.bind ((Option.bind (spec_l02Put (v1, (x.2.1, ())) ()) fun v2 => (some v2.1)) : (Option (List Int))) fun v3 => (some (v3, ()))))
def H_spec_SetAdd : Hd := ⟨[.sl 3 (.int .i64), .int .i64], [], none, .p, .sl 3 (.int .i64), .p, []⟩
def T_spec_SetAdd : FSig := ⟨H_spec_SetAdd.ps, H_spec_SetAdd.cs, H_spec_SetAdd.io, H_spec_SetAdd.im, H_spec_SetAdd.R, H_spec_SetAdd.m, spec_SetAdd⟩
theorem E_spec_SetAdd : fnOf tys [(155, T_spec_l02Put), (156, T_spec_SetOf)] Tryz.f77 H_spec_SetAdd = T_spec_SetAdd := by kernel_rfl
theorem K_spec_SetAdd : SigOk Tryz.prog 77 T_spec_SetAdd := (congrArg (SigOk Tryz.prog 77) E_spec_SetAdd).mp (fnOf_ok rfl tysOk ⟨K_spec_l02Put, K_spec_SetOf, trivial⟩ Tryz.func77 (by decide) rfl (fun _ h => by cases h) (nilEq_of (by kernel_rfl)))
def spec_l09Mode (x : (D_Project × (D_Schedule × (Int × Unit)))) (c : Unit) : (Option (D_Mode × Unit)) :=
  (Option.bind (getI x.1.2.1 x.2.2.1) fun v0 => (Option.bind (getI x.2.1.2.1 x.2.2.1) fun v1 => (Option.bind (getI v0.2.2.1 v1) fun v2 => (some (v2, ())))))
def H_spec_l09Mode : Hd := ⟨[.st [.int .i64, .sl 159 (.st [.str, .int .i64, .sl 172 (.st [.int .i64, .sl 3 (.int .i64), .sl 3 (.int .i64)])]), .sl 164 (.st [.int .i64, .int .i64, .bool, .int .i64]), .sl 169 (.st [.sl 228 (.st [.int .i64, .int .i64]), .sl 25 (.sl 3 (.int .i64))]), .sl 3 (.int .i64)], .st [.sl 3 (.int .i64), .sl 3 (.int .i64)], .int .i64], [], none, .p, .st [.int .i64, .sl 3 (.int .i64), .sl 3 (.int .i64)], .p, []⟩
def T_spec_l09Mode : FSig := ⟨H_spec_l09Mode.ps, H_spec_l09Mode.cs, H_spec_l09Mode.io, H_spec_l09Mode.im, H_spec_l09Mode.R, H_spec_l09Mode.m, spec_l09Mode⟩
theorem E_spec_l09Mode : fnOf tys [] Tryz.f204 H_spec_l09Mode = T_spec_l09Mode := by kernel_rfl
theorem K_spec_l09Mode : SigOk Tryz.prog 204 T_spec_l09Mode := (congrArg (SigOk Tryz.prog 204) E_spec_l09Mode).mp (fnOf_ok rfl tysOk trivial Tryz.func204 (by decide) rfl (fun _ h => by cases h) (nilEq_of (by kernel_rfl)))
def spec_l09End (x : (D_Project × (D_Schedule × (Int × Unit)))) (c : Unit) : (Option (Int × Unit)) :=
  (Option.bind (getI x.2.1.1 x.2.2.1) fun v0 => (Option.bind ((Option.bind (spec_l09Mode (x.1, (x.2.1, (x.2.2.1, ()))) ()) fun v1 => (some v1.1)) : (Option D_Mode)) fun v2 => (some ((addZ .i64 v0 v2.1), ()))))
def H_spec_l09End : Hd := ⟨[.st [.int .i64, .sl 159 (.st [.str, .int .i64, .sl 172 (.st [.int .i64, .sl 3 (.int .i64), .sl 3 (.int .i64)])]), .sl 164 (.st [.int .i64, .int .i64, .bool, .int .i64]), .sl 169 (.st [.sl 228 (.st [.int .i64, .int .i64]), .sl 25 (.sl 3 (.int .i64))]), .sl 3 (.int .i64)], .st [.sl 3 (.int .i64), .sl 3 (.int .i64)], .int .i64], [], none, .p, .int .i64, .p, []⟩
def T_spec_l09End : FSig := ⟨H_spec_l09End.ps, H_spec_l09End.cs, H_spec_l09End.io, H_spec_l09End.im, H_spec_l09End.R, H_spec_l09End.m, spec_l09End⟩
theorem E_spec_l09End : fnOf tys [(204, T_spec_l09Mode)] Tryz.f122 H_spec_l09End = T_spec_l09End := by kernel_rfl
theorem K_spec_l09End : SigOk Tryz.prog 122 T_spec_l09End := (congrArg (SigOk Tryz.prog 122) E_spec_l09End).mp (fnOf_ok rfl tysOk ⟨K_spec_l09Mode, trivial⟩ Tryz.func122 (by decide) rfl (fun _ h => by cases h) (nilEq_of (by kernel_rfl)))
def spec_l10Ahead (x : (D_Project × (D_Schedule × (Int × D_Step)))) (c : Unit) : (Option (Bool × Unit)) :=
  (Option.bind ((Option.bind (spec_l09End (x.1, (x.2.1, (x.2.2.2.1, ()))) ()) fun v0 => (some v0.1)) : (Option Int)) fun v1 => (Option.bind (getI x.1.2.2.2.1 x.2.2.1) fun v2 => (Option.bind (getI x.1.2.1 x.2.2.2.1) fun v3 => (Option.bind (getI v2.2.1 v3.2.1) fun v4 => (Option.bind (getI x.1.2.1 x.2.2.2.2.1) fun v5 => (Option.bind (getI v4 v5.2.1) fun v6 => (Option.bind (getI x.2.1.1 x.2.2.2.2.1) fun v7 => (some ((leZ (addZ .i64 v1 v6) v7), ())))))))))
def H_spec_l10Ahead : Hd := ⟨[.st [.int .i64, .sl 159 (.st [.str, .int .i64, .sl 172 (.st [.int .i64, .sl 3 (.int .i64), .sl 3 (.int .i64)])]), .sl 164 (.st [.int .i64, .int .i64, .bool, .int .i64]), .sl 169 (.st [.sl 228 (.st [.int .i64, .int .i64]), .sl 25 (.sl 3 (.int .i64))]), .sl 3 (.int .i64)], .st [.sl 3 (.int .i64), .sl 3 (.int .i64)], .int .i64, .int .i64, .int .i64], [], none, .p, .bool, .p, []⟩
def T_spec_l10Ahead : FSig := ⟨H_spec_l10Ahead.ps, H_spec_l10Ahead.cs, H_spec_l10Ahead.io, H_spec_l10Ahead.im, H_spec_l10Ahead.R, H_spec_l10Ahead.m, spec_l10Ahead⟩
theorem E_spec_l10Ahead : fnOf tys [(122, T_spec_l09End)] Tryz.f263 H_spec_l10Ahead = T_spec_l10Ahead := by kernel_rfl
theorem K_spec_l10Ahead : SigOk Tryz.prog 263 T_spec_l10Ahead := (congrArg (SigOk Tryz.prog 263) E_spec_l10Ahead).mp (fnOf_ok rfl tysOk ⟨K_spec_l09End, trivial⟩ Tryz.func263 (by decide) rfl (fun _ h => by cases h) (nilEq_of (by kernel_rfl)))
def spec_l10Pair (x : (D_Project × (D_Schedule × (D_Rule × Unit)))) (c : Unit) : (Option (Bool × Unit)) :=
  (Option.bind ((Option.bind (spec_l09Mode (x.1, (x.2.1, (x.2.2.1.2.2.1, ()))) ()) fun v0 => (some v0.1)) : (Option D_Mode)) fun v1 => (Option.bind (getI v1.2.1 x.2.2.1.2.1) fun v2 => (Option.bind ((if (eqZ v2 0) = true then (some (true, (x.1, (x.2.1, (x.2.2.1, ()))))) else (Option.bind ((Option.bind (spec_l09Mode (x.1, (x.2.1, (x.2.2.1.2.2.2.1, ()))) ()) fun v3 => (some v3.1)) : (Option D_Mode)) fun v4 => (Option.bind (getI v4.2.1 x.2.2.1.2.1) fun v5 => (some ((eqZ v5 0), (x.1, (x.2.1, (x.2.2.1, ())))))))) : (Option (Bool × (D_Project × (D_Schedule × (D_Rule × Unit)))))) fun v6 => (if v6.1 = true then (some (false, ())) else (Option.bind ((Option.bind (spec_l10Ahead (v6.2.1, (v6.2.2.1, (v6.2.2.2.1.2.1, (v6.2.2.2.1.2.2.1, (v6.2.2.2.1.2.2.2.1, ()))))) ()) fun v7 => (some v7.1)) : (Option Bool)) fun v8 => (Option.bind ((if (notB v8) = true then (Option.bind ((Option.bind (spec_l10Ahead (v6.2.1, (v6.2.2.1, (v6.2.2.2.1.2.1, (v6.2.2.2.1.2.2.2.1, (v6.2.2.2.1.2.2.1, ()))))) ()) fun v9 => (some v9.1)) : (Option Bool)) fun v10 => (some ((notB v10), ()))) else (some (false, ()))) : (Option (Bool × Unit))) fun v11 => (some (v11.1, ()))))))))
def H_spec_l10Pair : Hd := ⟨[.st [.int .i64, .sl 159 (.st [.str, .int .i64, .sl 172 (.st [.int .i64, .sl 3 (.int .i64), .sl 3 (.int .i64)])]), .sl 164 (.st [.int .i64, .int .i64, .bool, .int .i64]), .sl 169 (.st [.sl 228 (.st [.int .i64, .int .i64]), .sl 25 (.sl 3 (.int .i64))]), .sl 3 (.int .i64)], .st [.sl 3 (.int .i64), .sl 3 (.int .i64)], .st [.int .i64, .int .i64, .int .i64, .int .i64]], [], none, .p, .bool, .p, []⟩
def T_spec_l10Pair : FSig := ⟨H_spec_l10Pair.ps, H_spec_l10Pair.cs, H_spec_l10Pair.io, H_spec_l10Pair.im, H_spec_l10Pair.R, H_spec_l10Pair.m, spec_l10Pair⟩
theorem E_spec_l10Pair : fnOf tys [(204, T_spec_l09Mode), (263, T_spec_l10Ahead)] Tryz.f207 H_spec_l10Pair = T_spec_l10Pair := by kernel_rfl
theorem K_spec_l10Pair : SigOk Tryz.prog 207 T_spec_l10Pair := (congrArg (SigOk Tryz.prog 207) E_spec_l10Pair).mp (fnOf_ok rfl tysOk ⟨K_spec_l09Mode, K_spec_l10Ahead, trivial⟩ Tryz.func207 (by decide) rfl (fun _ h => by cases h) (nilEq_of (by kernel_rfl)))
def spec_l03At_L0 : (Int × (Int × ((List D_Step) × D_Step))) → Option (Out (Int × (Int × ((List D_Step) × D_Step))) ((Bool × (Int × (Int × ((List D_Step) × D_Step)))) ⊕ Empty) (Int × Unit)) :=
  (fun v0 => (if (ltZ v0.1 v0.2.1) = true then (Option.bind (getI v0.2.2.1 v0.1) fun v1 => (Option.bind ((if (leZ v1.1 v0.2.2.2.1) = true then (some (Out.norm (v0.1, (v0.2.1, (v0.2.2.1, (v0.2.2.2.1, (v1.2.1, ()))))))) else (some (Out.norm (v0.1, (v0.2.1, (v0.2.2.1, (v0.2.2.2.1, (v0.2.2.2.2.1, ())))))))) : (Option (Out (Int × (Int × ((List D_Step) × D_Step))) Empty (Int × Unit)))) fun v2 => (match ((match ((match v2 with | Out.norm v11 => (Out.norm v11) | Out.exit v12 => (Out.exit v12) | Out.ret v13 => (Out.ret v13)) : (Out (Int × (Int × ((List D_Step) × D_Step))) Empty (Int × Unit))) with | Out.norm v8 => (Out.norm v8) | Out.exit v9 => (Out.exit v9) | Out.ret v10 => (Out.ret v10)) : (Out (Int × (Int × ((List D_Step) × D_Step))) Empty (Int × Unit))) with | Out.norm v3 => (some (Out.norm ((addZ .i64 v3.1 1), (v3.2.1, (v3.2.2.1, (v3.2.2.2.1, (v3.2.2.2.2.1, ()))))))) | Out.exit v4 => (match ((Empty.elim v4) : ((Int × (Int × ((List D_Step) × D_Step))) ⊕ Empty)) with | Sum.inl v5 => (some (Out.norm ((addZ .i64 v5.1 1), (v5.2.1, (v5.2.2.1, (v5.2.2.2.1, (v5.2.2.2.2.1, ()))))))) | Sum.inr v6 => (some (Out.exit (Sum.inr (Empty.elim v6))))) | Out.ret v7 => (some (Out.ret v7))))) else (some (Out.exit (Sum.inl ((ltZ v0.1 v0.2.1), (v0.1, (v0.2.1, (v0.2.2.1, (v0.2.2.2.1, (v0.2.2.2.2.1, ())))))))))))
def spec_l03At (x : ((List D_Step) × (Int × Unit))) (c : Unit) : (Option (Int × Unit)) :=
  (Option.bind (loopN (A := (Int × (Int × ((List D_Step) × D_Step)))) big spec_l03At_L0 (0, ((lenI x.1), (x.1, (x.2.1, (0, ())))))) fun v14 => (match v14 with | Out.norm v15 => none | Out.exit v16 => (match ((match v16 with | Sum.inl v19 => (Sum.inl (v19.2.2.2.2.2.1, ())) | Sum.inr v20 => (Empty.elim v20)) : ((Int × Unit) ⊕ Empty)) with | Sum.inl v17 => (some (v17.1, ())) | Sum.inr v18 => none) | Out.ret v21 => (some v21)))
def H_spec_l03At : Hd := ⟨[.sl 228 (.st [.int .i64, .int .i64]), .int .i64], [], none, .p, .int .i64, .p, []⟩
def T_spec_l03At : FSig := ⟨H_spec_l03At.ps, H_spec_l03At.cs, H_spec_l03At.io, H_spec_l03At.im, H_spec_l03At.R, H_spec_l03At.m, spec_l03At⟩
theorem E_spec_l03At : fnOf tys [] Tryz.f221 H_spec_l03At = T_spec_l03At := by kernel_rfl
theorem K_spec_l03At : SigOk Tryz.prog 221 T_spec_l03At := (congrArg (SigOk Tryz.prog 221) E_spec_l03At).mp (fnOf_ok rfl tysOk trivial Tryz.func221 (by decide) rfl (fun _ h => by cases h) (nilEq_of (by kernel_rfl)))
def spec_l09Use_L0 : (Int × (Int × (Int × (D_Project × (D_Schedule × D_Step))))) → Option (Out (Int × (Int × (Int × (D_Project × (D_Schedule × D_Step))))) ((Bool × (Int × (Int × (Int × (D_Project × (D_Schedule × D_Step)))))) ⊕ Empty) (Int × Unit)) :=
  (fun v0 => (if (ltZ v0.1 v0.2.1) = true then (Option.bind (getI v0.2.2.2.2.1.1 v0.1) fun v1 => (Option.bind ((if (leZ v1 v0.2.2.1) = true then (Option.bind ((Option.bind (spec_l09End (v0.2.2.2.1, (v0.2.2.2.2.1, (v0.1, ()))) ()) fun v2 => (some v2.1)) : (Option Int)) fun v3 => (some ((ltZ v0.2.2.1 v3), (v0.1, (v0.1, (v0.2.1, (v0.2.2.1, (v0.2.2.2.1, (v0.2.2.2.2.1, (v0.2.2.2.2.2.1, (v0.2.2.2.2.2.2.1, ()))))))))))) else (some (false, (v0.1, (v0.1, (v0.2.1, (v0.2.2.1, (v0.2.2.2.1, (v0.2.2.2.2.1, (v0.2.2.2.2.2.1, (v0.2.2.2.2.2.2.1, ()))))))))))) : (Option (Bool × (Int × (Int × (Int × (Int × (D_Project × (D_Schedule × D_Step))))))))) fun v4 => (Option.bind ((if v4.1 = true then (Option.bind ((Option.bind (spec_l09Mode (v4.2.2.2.2.2.1, (v4.2.2.2.2.2.2.1, (v4.2.1, ()))) ()) fun v5 => (some v5.1)) : (Option D_Mode)) fun v6 => (Option.bind (getI v6.2.1 v4.2.2.2.2.2.2.2.1) fun v7 => (some (Out.norm (v4.2.2.1, (v4.2.2.2.1, (v4.2.2.2.2.1, (v4.2.2.2.2.2.1, (v4.2.2.2.2.2.2.1, (v4.2.2.2.2.2.2.2.1, ((addZ .i64 v4.2.2.2.2.2.2.2.2.1 v7), ()))))))))))) else (some (Out.norm (v4.2.2.1, (v4.2.2.2.1, (v4.2.2.2.2.1, (v4.2.2.2.2.2.1, (v4.2.2.2.2.2.2.1, (v4.2.2.2.2.2.2.2.1, (v4.2.2.2.2.2.2.2.2.1, ())))))))))) : (Option (Out (Int × (Int × (Int × (D_Project × (D_Schedule × D_Step))))) Empty (Int × Unit)))) fun v8 => (match ((match ((match v8 with | Out.norm v17 => (Out.norm v17) | Out.exit v18 => (Out.exit v18) | Out.ret v19 => (Out.ret v19)) : (Out (Int × (Int × (Int × (D_Project × (D_Schedule × D_Step))))) Empty (Int × Unit))) with | Out.norm v14 => (Out.norm v14) | Out.exit v15 => (Out.exit v15) | Out.ret v16 => (Out.ret v16)) : (Out (Int × (Int × (Int × (D_Project × (D_Schedule × D_Step))))) Empty (Int × Unit))) with | Out.norm v9 => (some (Out.norm ((addZ .i64 v9.1 1), (v9.2.1, (v9.2.2.1, (v9.2.2.2.1, (v9.2.2.2.2.1, (v9.2.2.2.2.2.1, (v9.2.2.2.2.2.2.1, ()))))))))) | Out.exit v10 => (match ((Empty.elim v10) : ((Int × (Int × (Int × (D_Project × (D_Schedule × D_Step))))) ⊕ Empty)) with | Sum.inl v11 => (some (Out.norm ((addZ .i64 v11.1 1), (v11.2.1, (v11.2.2.1, (v11.2.2.2.1, (v11.2.2.2.2.1, (v11.2.2.2.2.2.1, (v11.2.2.2.2.2.2.1, ()))))))))) | Sum.inr v12 => (some (Out.exit (Sum.inr (Empty.elim v12))))) | Out.ret v13 => (some (Out.ret v13)))))) else (some (Out.exit (Sum.inl ((ltZ v0.1 v0.2.1), (v0.1, (v0.2.1, (v0.2.2.1, (v0.2.2.2.1, (v0.2.2.2.2.1, (v0.2.2.2.2.2.1, (v0.2.2.2.2.2.2.1, ())))))))))))))
def spec_l09Use (x : (D_Project × (D_Schedule × D_Step))) (c : Unit) : (Option (Int × Unit)) :=
  (Option.bind (loopN (A := (Int × (Int × (Int × (D_Project × (D_Schedule × D_Step)))))) big spec_l09Use_L0 (0, ((lenI x.1.2.1), (x.2.2.2.1, (x.1, (x.2.1, (x.2.2.1, (0, ())))))))) fun v20 => (match v20 with | Out.norm v21 => none | Out.exit v22 => (match ((match v22 with | Sum.inl v25 => (Sum.inl (v25.2.2.2.2.2.2.2.1, ())) | Sum.inr v26 => (Empty.elim v26)) : ((Int × Unit) ⊕ Empty)) with | Sum.inl v23 => (some (v23.1, ())) | Sum.inr v24 => none) | Out.ret v27 => (some v27)))
def H_spec_l09Use : Hd := ⟨[.st [.int .i64, .sl 159 (.st [.str, .int .i64, .sl 172 (.st [.int .i64, .sl 3 (.int .i64), .sl 3 (.int .i64)])]), .sl 164 (.st [.int .i64, .int .i64, .bool, .int .i64]), .sl 169 (.st [.sl 228 (.st [.int .i64, .int .i64]), .sl 25 (.sl 3 (.int .i64))]), .sl 3 (.int .i64)], .st [.sl 3 (.int .i64), .sl 3 (.int .i64)], .int .i64, .int .i64], [], none, .p, .int .i64, .p, []⟩
def T_spec_l09Use : FSig := ⟨H_spec_l09Use.ps, H_spec_l09Use.cs, H_spec_l09Use.io, H_spec_l09Use.im, H_spec_l09Use.R, H_spec_l09Use.m, spec_l09Use⟩
theorem E_spec_l09Use : fnOf tys [(122, T_spec_l09End), (204, T_spec_l09Mode)] Tryz.f258 H_spec_l09Use = T_spec_l09Use := by kernel_rfl
theorem K_spec_l09Use : SigOk Tryz.prog 258 T_spec_l09Use := (congrArg (SigOk Tryz.prog 258) E_spec_l09Use).mp (fnOf_ok rfl tysOk ⟨K_spec_l09End, K_spec_l09Mode, trivial⟩ Tryz.func258 (by decide) rfl (fun _ h => by cases h) (nilEq_of (by kernel_rfl)))
def spec_l03Span (x : ((List D_Step) × D_Step)) (c : Unit) : (Option (Bool × Unit)) :=
  (Option.bind ((Option.bind (spec_StepsOk (x.1, ()) ()) fun v0 => (some v0.1)) : (Option Bool)) fun v1 => (Option.bind ((if v1 = true then (Option.bind ((Option.bind (spec_l01In (x.2.1, (0, (60, ()))) ()) fun v2 => (some v2.1)) : (Option Bool)) fun v3 => (Option.bind ((if v3 = true then (Option.bind ((Option.bind (spec_l01In (x.2.2.1, (0, (60, ()))) ()) fun v4 => (some v4.1)) : (Option Bool)) fun v5 => (some (v5, ()))) else (some (false, ()))) : (Option (Bool × Unit))) fun v6 => (some (v6.1, ())))) else (some (false, ()))) : (Option (Bool × Unit))) fun v7 => (some (v7.1, ()))))
def H_spec_l03Span : Hd := ⟨[.sl 228 (.st [.int .i64, .int .i64]), .int .i64, .int .i64], [], none, .p, .bool, .p, []⟩
def T_spec_l03Span : FSig := ⟨H_spec_l03Span.ps, H_spec_l03Span.cs, H_spec_l03Span.io, H_spec_l03Span.im, H_spec_l03Span.R, H_spec_l03Span.m, spec_l03Span⟩
theorem E_spec_l03Span : fnOf tys [(111, T_spec_l01In), (262, T_spec_StepsOk)] Tryz.f301 H_spec_l03Span = T_spec_l03Span := by kernel_rfl
theorem K_spec_l03Span : SigOk Tryz.prog 301 T_spec_l03Span := (congrArg (SigOk Tryz.prog 301) E_spec_l03Span).mp (fnOf_ok rfl tysOk ⟨K_spec_l01In, K_spec_StepsOk, trivial⟩ Tryz.func301 (by decide) rfl (fun _ h => by cases h) (nilEq_of (by kernel_rfl)))
def spec_TotalCapacity_L0 : (Int × (Int × ((List D_Step) × (Int × Unit)))) → Option (Out (Int × (Int × ((List D_Step) × (Int × Unit)))) ((Bool × (Int × (Int × ((List D_Step) × (Int × Unit))))) ⊕ Empty) (Int × Unit)) :=
  (fun v2 => (if (ltZ v2.1 v2.2.1) = true then (Option.bind ((Option.bind (spec_l03At (v2.2.2.1, (v2.1, ())) ()) fun v3 => (some v3.1)) : (Option Int)) fun v4 => (some (Out.norm ((addZ .i64 v2.1 1), (v2.2.1, (v2.2.2.1, ((addZ .i64 v2.2.2.2.1 v4), ()))))))) else (some (Out.exit (Sum.inl ((ltZ v2.1 v2.2.1), (v2.1, (v2.2.1, (v2.2.2.1, (v2.2.2.2.1, ()))))))))))
def spec_TotalCapacity (x : ((List D_Step) × D_Step)) (c : Unit) : (Option (Int × Unit)) :=
  (Option.bind ((Option.bind (spec_l03Span (x.1, (x.2.1, (x.2.2.1, ()))) ()) fun v0 => (some v0.1)) : (Option Bool)) fun v1 => (if (notB v1) = true then (some (0, ())) else (Option.bind (loopN (A := (Int × (Int × ((List D_Step) × (Int × Unit))))) big spec_TotalCapacity_L0 (x.2.1, (x.2.2.1, (x.1, (0, ()))))) fun v5 => (match v5 with | Out.norm v6 => none | Out.exit v7 => (match ((match v7 with | Sum.inl v10 => (Sum.inl (v10.2.2.2.2.1, ())) | Sum.inr v11 => (Empty.elim v11)) : ((Int × Unit) ⊕ Empty)) with | Sum.inl v8 => (some (v8.1, ())) | Sum.inr v9 => none) | Out.ret v12 => (some v12)))))
def H_spec_TotalCapacity : Hd := ⟨[.sl 228 (.st [.int .i64, .int .i64]), .int .i64, .int .i64], [], none, .p, .int .i64, .p, []⟩
def T_spec_TotalCapacity : FSig := ⟨H_spec_TotalCapacity.ps, H_spec_TotalCapacity.cs, H_spec_TotalCapacity.io, H_spec_TotalCapacity.im, H_spec_TotalCapacity.R, H_spec_TotalCapacity.m, spec_TotalCapacity⟩
theorem E_spec_TotalCapacity : fnOf tys [(221, T_spec_l03At), (301, T_spec_l03Span)] Tryz.f259 H_spec_TotalCapacity = T_spec_TotalCapacity := by kernel_rfl
theorem K_spec_TotalCapacity : SigOk Tryz.prog 259 T_spec_TotalCapacity := (congrArg (SigOk Tryz.prog 259) E_spec_TotalCapacity).mp (fnOf_ok rfl tysOk ⟨K_spec_l03At, K_spec_l03Span, trivial⟩ Tryz.func259 (by decide) rfl (fun _ h => by cases h) (nilEq_of (by kernel_rfl)))
def spec_ConsumptionOf_L0 : (Int × (Int × (D_Project × (D_Schedule × D_Step)))) → Option (Out (Int × (Int × (D_Project × (D_Schedule × D_Step)))) ((Bool × (Int × (Int × (D_Project × (D_Schedule × D_Step))))) ⊕ Empty) (Int × Unit)) :=
  (fun v5 => (if (ltZ v5.1 v5.2.1) = true then (Option.bind ((Option.bind (spec_l09Mode (v5.2.2.1, (v5.2.2.2.1, (v5.1, ()))) ()) fun v6 => (some v6.1)) : (Option D_Mode)) fun v7 => (Option.bind (getI v7.2.2.1 v5.2.2.2.2.1) fun v8 => (some (Out.norm ((addZ .i64 v5.1 1), (v5.2.1, (v5.2.2.1, (v5.2.2.2.1, (v5.2.2.2.2.1, ((addZ .i64 v5.2.2.2.2.2.1 v8), ())))))))))) else (some (Out.exit (Sum.inl ((ltZ v5.1 v5.2.1), (v5.1, (v5.2.1, (v5.2.2.1, (v5.2.2.2.1, (v5.2.2.2.2.1, (v5.2.2.2.2.2.1, ()))))))))))))
def spec_ConsumptionOf (x : (D_Project × (D_Schedule × (Int × Unit)))) (c : Unit) : (Option (Int × Unit)) :=
  (Option.bind ((Option.bind (spec_ScheduleForm (x.1, (x.2.1, ())) ()) fun v0 => (some v0.1)) : (Option Bool)) fun v1 => (Option.bind ((if (notB v1) = true then (some (true, (x.1, (x.2.1, (x.2.2.1, (0, ())))))) else (Option.bind ((Option.bind (spec_l01In (x.2.2.1, (0, ((subZ .i64 (lenI x.1.2.2.2.2.1) 1), ()))) ()) fun v2 => (some v2.1)) : (Option Bool)) fun v3 => (some ((notB v3), (x.1, (x.2.1, (x.2.2.1, (0, ())))))))) : (Option (Bool × (D_Project × (D_Schedule × D_Step))))) fun v4 => (if v4.1 = true then (some (0, ())) else (Option.bind (loopN (A := (Int × (Int × (D_Project × (D_Schedule × D_Step))))) big spec_ConsumptionOf_L0 (0, ((lenI v4.2.1.2.1), (v4.2.1, (v4.2.2.1, (v4.2.2.2.1, (v4.2.2.2.2.1, ()))))))) fun v9 => (match v9 with | Out.norm v10 => none | Out.exit v11 => (match ((match v11 with | Sum.inl v14 => (Sum.inl (v14.2.2.2.2.2.2.1, ())) | Sum.inr v15 => (Empty.elim v15)) : ((Int × Unit) ⊕ Empty)) with | Sum.inl v12 => (some (v12.1, ())) | Sum.inr v13 => none) | Out.ret v16 => (some v16))))))
def H_spec_ConsumptionOf : Hd := ⟨[.st [.int .i64, .sl 159 (.st [.str, .int .i64, .sl 172 (.st [.int .i64, .sl 3 (.int .i64), .sl 3 (.int .i64)])]), .sl 164 (.st [.int .i64, .int .i64, .bool, .int .i64]), .sl 169 (.st [.sl 228 (.st [.int .i64, .int .i64]), .sl 25 (.sl 3 (.int .i64))]), .sl 3 (.int .i64)], .st [.sl 3 (.int .i64), .sl 3 (.int .i64)], .int .i64], [], none, .p, .int .i64, .p, []⟩
def T_spec_ConsumptionOf : FSig := ⟨H_spec_ConsumptionOf.ps, H_spec_ConsumptionOf.cs, H_spec_ConsumptionOf.io, H_spec_ConsumptionOf.im, H_spec_ConsumptionOf.R, H_spec_ConsumptionOf.m, spec_ConsumptionOf⟩
theorem E_spec_ConsumptionOf : fnOf tys [(111, T_spec_l01In), (162, T_spec_ScheduleForm), (204, T_spec_l09Mode)] Tryz.f260 H_spec_ConsumptionOf = T_spec_ConsumptionOf := by kernel_rfl
theorem K_spec_ConsumptionOf : SigOk Tryz.prog 260 T_spec_ConsumptionOf := (congrArg (SigOk Tryz.prog 260) E_spec_ConsumptionOf).mp (fnOf_ok rfl tysOk ⟨K_spec_l01In, K_spec_ScheduleForm, K_spec_l09Mode, trivial⟩ Tryz.func260 (by decide) rfl (fun _ h => by cases h) (nilEq_of (by kernel_rfl)))
def spec_l10Fails_L0 : (Int × (D_Schedule × (Int × (D_Project × (D_Rule × Unit))))) → Option (Out (Int × (D_Schedule × (Int × (D_Project × (D_Rule × Unit))))) ((Bool × (Int × (D_Schedule × (Int × (D_Project × (D_Rule × Unit)))))) ⊕ Empty) (Bool × Unit)) :=
  (fun v24 => (if (ltZ v24.1 v24.2.2.2.2.1.2.2.2.1) = true then (Option.bind ((Option.bind (spec_l09Use (v24.2.2.2.1, (v24.2.1, (v24.2.2.2.2.1.2.1, (v24.1, ())))) ()) fun v25 => (some v25.1)) : (Option Int)) fun v26 => (some (Out.norm ((addZ .i64 v24.1 1), (v24.2.1, ((addZ .i64 v24.2.2.1 v26), (v24.2.2.2.1, (v24.2.2.2.2.1, ())))))))) else (some (Out.exit (Sum.inl ((ltZ v24.1 v24.2.2.2.2.1.2.2.2.1), (v24.1, (v24.2.1, (v24.2.2.1, (v24.2.2.2.1, (v24.2.2.2.2.1, ())))))))))))
def spec_l10Fails (x : (D_Project × (D_Schedule × (D_Rule × Unit)))) (c : Unit) : (Option (Bool × Unit)) :=
  (if (eqZ x.2.2.1.1 1) = true then (Option.bind (getI x.1.2.2.1 x.2.2.1.2.1) fun v0 => (Option.bind (getI x.2.1.1 v0.1) fun v1 => (Option.bind ((if v0.2.2.1 = true then (Option.bind ((Option.bind (spec_l09End (x.1, (x.2.1, (v0.1, ()))) ()) fun v2 => (some v2.1)) : (Option Int)) fun v3 => (some (Out.norm (x.2.1, (v3, (v0, ())))))) else (some (Out.norm (x.2.1, (v1, (v0, ())))))) : (Option (Out (D_Schedule × (Int × (D_Link × Unit))) Empty (Bool × Unit)))) fun v4 => (match ((match v4 with | Out.norm v14 => (Out.norm v14) | Out.exit v15 => (Out.exit v15) | Out.ret v16 => (Out.ret v16)) : (Out (D_Schedule × (Int × (D_Link × Unit))) Empty (Bool × Unit))) with | Out.norm v5 => (Option.bind (getI v5.1.1 v5.2.2.1.2.1) fun v6 => (some ((ltZ v6 (addZ .i64 v5.2.1 v5.2.2.1.2.2.2.1)), ()))) | Out.exit v7 => (match ((Empty.elim (Empty.elim (Empty.elim v7))) : ((D_Schedule × (D_Project × (D_Rule × Unit))) ⊕ Empty)) with | Sum.inl v8 => (Option.bind ((Option.bind (spec_ConsumptionOf (v8.2.1, (v8.1, (v8.2.2.1.2.1, ()))) ()) fun v9 => (some v9.1)) : (Option Int)) fun v10 => (Option.bind (getI v8.2.1.2.2.2.2.1 v8.2.2.1.2.1) fun v11 => (some ((ltZ v11 v10), ())))) | Sum.inr v12 => none) | Out.ret v13 => (some v13))))) else (if (eqZ x.2.2.1.1 2) = true then (Option.bind ((Option.bind (spec_l09End (x.1, (x.2.1, (x.2.2.1.2.1, ()))) ()) fun v17 => (some v17.1)) : (Option Int)) fun v18 => (some ((ltZ x.1.1 v18), ()))) else (if (eqZ x.2.2.1.1 3) = true then (Option.bind ((Option.bind (spec_l09Use (x.1, (x.2.1, (x.2.2.1.2.1, (x.2.2.1.2.2.1, ())))) ()) fun v19 => (some v19.1)) : (Option Int)) fun v20 => (Option.bind (getI x.1.2.2.2.1 x.2.2.1.2.1) fun v21 => (Option.bind ((Option.bind (spec_l03At (v21.1, (x.2.2.1.2.2.1, ())) ()) fun v22 => (some v22.1)) : (Option Int)) fun v23 => (some ((ltZ v23 v20), ()))))) else (if (eqZ x.2.2.1.1 4) = true then (Option.bind (loopN (A := (Int × (D_Schedule × (Int × (D_Project × (D_Rule × Unit)))))) big spec_l10Fails_L0 (x.2.2.1.2.2.1, (x.2.1, (0, (x.1, (x.2.2.1, ())))))) fun v27 => (match v27 with | Out.norm v28 => none | Out.exit v29 => (match ((match v29 with | Sum.inl v40 => (Sum.inl (v40.2.2.2.1, (v40.2.2.2.2.1, (v40.2.2.2.2.2.1, ())))) | Sum.inr v41 => (Empty.elim v41)) : ((Int × (D_Project × (D_Rule × Unit))) ⊕ Empty)) with | Sum.inl v30 => (Option.bind (getI v30.2.1.2.2.2.1 v30.2.2.1.2.1) fun v31 => (Option.bind ((Option.bind (spec_TotalCapacity (v31.1, (v30.2.2.1.2.2.1, (v30.2.2.1.2.2.2.1, ()))) ()) fun v32 => (some v32.1)) : (Option Int)) fun v33 => (some ((ltZ v33 v30.1), ())))) | Sum.inr v34 => (match ((Empty.elim (Empty.elim (Empty.elim v34))) : ((D_Schedule × (D_Project × (D_Rule × Unit))) ⊕ Empty)) with | Sum.inl v35 => (Option.bind ((Option.bind (spec_ConsumptionOf (v35.2.1, (v35.1, (v35.2.2.1.2.1, ()))) ()) fun v36 => (some v36.1)) : (Option Int)) fun v37 => (Option.bind (getI v35.2.1.2.2.2.2.1 v35.2.2.1.2.1) fun v38 => (some ((ltZ v38 v37), ())))) | Sum.inr v39 => none)) | Out.ret v42 => (some v42))) else (if (eqZ x.2.2.1.1 5) = true then (Option.bind ((Option.bind (spec_l10Pair (x.1, (x.2.1, (x.2.2.1, ()))) ()) fun v43 => (some v43.1)) : (Option Bool)) fun v44 => (some (v44, ()))) else (Option.bind ((Option.bind (spec_ConsumptionOf (x.1, (x.2.1, (x.2.2.1.2.1, ()))) ()) fun v45 => (some v45.1)) : (Option Int)) fun v46 => (Option.bind (getI x.1.2.2.2.2.1 x.2.2.1.2.1) fun v47 => (some ((ltZ v47 v46), ())))))))))
def H_spec_l10Fails : Hd := ⟨[.st [.int .i64, .sl 159 (.st [.str, .int .i64, .sl 172 (.st [.int .i64, .sl 3 (.int .i64), .sl 3 (.int .i64)])]), .sl 164 (.st [.int .i64, .int .i64, .bool, .int .i64]), .sl 169 (.st [.sl 228 (.st [.int .i64, .int .i64]), .sl 25 (.sl 3 (.int .i64))]), .sl 3 (.int .i64)], .st [.sl 3 (.int .i64), .sl 3 (.int .i64)], .st [.int .i64, .int .i64, .int .i64, .int .i64]], [], none, .p, .bool, .p, []⟩
def T_spec_l10Fails : FSig := ⟨H_spec_l10Fails.ps, H_spec_l10Fails.cs, H_spec_l10Fails.io, H_spec_l10Fails.im, H_spec_l10Fails.R, H_spec_l10Fails.m, spec_l10Fails⟩
theorem E_spec_l10Fails : fnOf tys [(122, T_spec_l09End), (207, T_spec_l10Pair), (221, T_spec_l03At), (258, T_spec_l09Use), (259, T_spec_TotalCapacity), (260, T_spec_ConsumptionOf)] Tryz.f199 H_spec_l10Fails = T_spec_l10Fails := by kernel_rfl
theorem K_spec_l10Fails : SigOk Tryz.prog 199 T_spec_l10Fails := (congrArg (SigOk Tryz.prog 199) E_spec_l10Fails).mp (fnOf_ok rfl tysOk ⟨K_spec_l09End, K_spec_l10Pair, K_spec_l03At, K_spec_l09Use, K_spec_TotalCapacity, K_spec_ConsumptionOf, trivial⟩ Tryz.func199 (by decide) rfl (fun _ h => by cases h) (nilEq_of (by kernel_rfl)))
def spec_l24Links_L0 : (Int × (Int × ((List D_Link) × (Int × (D_Project × (D_Plan × Unit)))))) → Option (Out (Int × (Int × ((List D_Link) × (Int × (D_Project × (D_Plan × Unit)))))) ((Bool × (Int × (Int × ((List D_Link) × (Int × (D_Project × (D_Plan × Unit))))))) ⊕ Empty) (Bool × Unit)) :=
  (fun v0 => (if (ltZ v0.1 v0.2.1) = true then (Option.bind (getI v0.2.2.1 v0.1) fun v1 => (Option.bind ((if (notB (eqZ v1.1 v0.2.2.2.1)) = true then (Option.bind ((if (notB (eqZ v1.2.1 v0.2.2.2.1)) = true then (some (true, (v0.1, (v0.1, (v0.2.1, (v0.2.2.1, (v0.2.2.2.1, (v0.2.2.2.2.1, (v0.2.2.2.2.2.1, ()))))))))) else (Option.bind ((Option.bind (spec_SetHas (v0.2.2.2.2.2.1.2.1, (v1.1, ())) ()) fun v2 => (some v2.1)) : (Option Bool)) fun v3 => (Option.bind ((if (notB v3) = true then (some (true, (v0.1, (v0.1, (v0.2.1, (v0.2.2.1, (v0.2.2.2.1, (v0.2.2.2.2.1, (v0.2.2.2.2.2.1, ()))))))))) else (Option.bind ((Option.bind (spec_SetHas (v0.2.2.2.2.2.1.2.1, (v1.2.1, ())) ()) fun v4 => (some v4.1)) : (Option Bool)) fun v5 => (some ((notB v5), (v0.1, (v0.1, (v0.2.1, (v0.2.2.1, (v0.2.2.2.1, (v0.2.2.2.2.1, (v0.2.2.2.2.2.1, ()))))))))))) : (Option (Bool × (Int × (Int × (Int × ((List D_Link) × (Int × (D_Project × (D_Plan × Unit)))))))))) fun v6 => (some (v6.1, (v6.2.1, (v6.2.2.1, (v6.2.2.2.1, (v6.2.2.2.2.1, (v6.2.2.2.2.2.1, (v6.2.2.2.2.2.2.1, (v6.2.2.2.2.2.2.2.1, ())))))))))))) : (Option (Bool × (Int × (Int × (Int × ((List D_Link) × (Int × (D_Project × (D_Plan × Unit)))))))))) fun v7 => (some (v7.1, (v7.2.1, (v7.2.2.1, (v7.2.2.2.1, (v7.2.2.2.2.1, (v7.2.2.2.2.2.1, (v7.2.2.2.2.2.2.1, (v7.2.2.2.2.2.2.2.1, ())))))))))) else (Option.bind ((Option.bind ((Option.bind (spec_SetHas (v0.2.2.2.2.2.1.2.1, (v1.1, ())) ()) fun v8 => (some v8.1)) : (Option Bool)) fun v9 => (Option.bind ((if (notB v9) = true then (some (true, (v0.1, (v0.1, (v0.2.1, (v0.2.2.1, (v0.2.2.2.1, (v0.2.2.2.2.1, (v0.2.2.2.2.2.1, ()))))))))) else (Option.bind ((Option.bind (spec_SetHas (v0.2.2.2.2.2.1.2.1, (v1.2.1, ())) ()) fun v10 => (some v10.1)) : (Option Bool)) fun v11 => (some ((notB v11), (v0.1, (v0.1, (v0.2.1, (v0.2.2.1, (v0.2.2.2.1, (v0.2.2.2.2.1, (v0.2.2.2.2.2.1, ()))))))))))) : (Option (Bool × (Int × (Int × (Int × ((List D_Link) × (Int × (D_Project × (D_Plan × Unit)))))))))) fun v12 => (some (v12.1, (v12.2.1, (v12.2.2.1, (v12.2.2.2.1, (v12.2.2.2.2.1, (v12.2.2.2.2.2.1, (v12.2.2.2.2.2.2.1, (v12.2.2.2.2.2.2.2.1, ()))))))))))) : (Option (Bool × (Int × (Int × (Int × ((List D_Link) × (Int × (D_Project × (D_Plan × Unit)))))))))) fun v13 => (some (v13.1, (v13.2.1, (v13.2.2.1, (v13.2.2.2.1, (v13.2.2.2.2.1, (v13.2.2.2.2.2.1, (v13.2.2.2.2.2.2.1, (v13.2.2.2.2.2.2.2.1, ()))))))))))) : (Option (Bool × (Int × (Int × (Int × ((List D_Link) × (Int × (D_Project × (D_Plan × Unit)))))))))) fun v14 => (if v14.1 = true then (some (Out.norm ((addZ .i64 v14.2.2.1 1), (v14.2.2.2.1, (v14.2.2.2.2.1, (v14.2.2.2.2.2.1, (v14.2.2.2.2.2.2.1, (v14.2.2.2.2.2.2.2.1, ())))))))) else (Option.bind ((Option.bind (spec_l10Fails (v14.2.2.2.2.2.2.1, (v14.2.2.2.2.2.2.2.1.1, ((1, (v14.2.1, (0, (0, ())))), ()))) ()) fun v15 => (some v15.1)) : (Option Bool)) fun v16 => (if v16 = true then (some (Out.ret (false, ()))) else (some (Out.norm ((addZ .i64 v14.2.2.1 1), (v14.2.2.2.1, (v14.2.2.2.2.1, (v14.2.2.2.2.2.1, (v14.2.2.2.2.2.2.1, (v14.2.2.2.2.2.2.2.1, ()))))))))))))) else (some (Out.exit (Sum.inl ((ltZ v0.1 v0.2.1), (v0.1, (v0.2.1, (v0.2.2.1, (v0.2.2.2.1, (v0.2.2.2.2.1, (v0.2.2.2.2.2.1, ()))))))))))))
def spec_l24Links (x : (D_Project × (D_Plan × (Int × Unit)))) (c : Unit) : (Option (Bool × Unit)) :=
  (Option.bind (loopN (A := (Int × (Int × ((List D_Link) × (Int × (D_Project × (D_Plan × Unit))))))) big spec_l24Links_L0 (0, ((lenI x.1.2.2.1), (x.1.2.2.1, (x.2.2.1, (x.1, (x.2.1, ()))))))) fun v17 => (match v17 with | Out.norm v18 => none | Out.exit v19 => (match ((match v19 with | Sum.inl v22 => (Sum.inl ()) | Sum.inr v23 => (Empty.elim v23)) : (Unit ⊕ Empty)) with | Sum.inl v20 => (some (true, ())) | Sum.inr v21 => none) | Out.ret v24 => (some v24)))
def H_spec_l24Links : Hd := ⟨[.st [.int .i64, .sl 159 (.st [.str, .int .i64, .sl 172 (.st [.int .i64, .sl 3 (.int .i64), .sl 3 (.int .i64)])]), .sl 164 (.st [.int .i64, .int .i64, .bool, .int .i64]), .sl 169 (.st [.sl 228 (.st [.int .i64, .int .i64]), .sl 25 (.sl 3 (.int .i64))]), .sl 3 (.int .i64)], .st [.st [.sl 3 (.int .i64), .sl 3 (.int .i64)], .sl 3 (.int .i64)], .int .i64], [], none, .p, .bool, .p, []⟩
def T_spec_l24Links : FSig := ⟨H_spec_l24Links.ps, H_spec_l24Links.cs, H_spec_l24Links.io, H_spec_l24Links.im, H_spec_l24Links.R, H_spec_l24Links.m, spec_l24Links⟩
theorem E_spec_l24Links : fnOf tys [(121, T_spec_SetHas), (199, T_spec_l10Fails)] Tryz.f123 H_spec_l24Links = T_spec_l24Links := by kernel_rfl
theorem K_spec_l24Links : SigOk Tryz.prog 123 T_spec_l24Links := (congrArg (SigOk Tryz.prog 123) E_spec_l24Links).mp (fnOf_ok rfl tysOk ⟨K_spec_SetHas, K_spec_l10Fails, trivial⟩ Tryz.func123 (by decide) rfl (fun _ h => by cases h) (nilEq_of (by kernel_rfl)))
def spec_CapacityAt (x : ((List D_Step) × (Int × Unit))) (c : Unit) : (Option (Int × Unit)) :=
  (Option.bind ((Option.bind (spec_StepsOk (x.1, ()) ()) fun v0 => (some v0.1)) : (Option Bool)) fun v1 => (Option.bind ((if (notB v1) = true then (some (true, (x.1, (x.2.1, ())))) else (Option.bind ((Option.bind (spec_l01In (x.2.1, (0, (60, ()))) ()) fun v2 => (some v2.1)) : (Option Bool)) fun v3 => (some ((notB v3), (x.1, (x.2.1, ())))))) : (Option (Bool × ((List D_Step) × (Int × Unit))))) fun v4 => (if v4.1 = true then (some (0, ())) else (Option.bind ((Option.bind (spec_l03At (v4.2.1, (v4.2.2.1, ())) ()) fun v5 => (some v5.1)) : (Option Int)) fun v6 => (some (v6, ()))))))
def H_spec_CapacityAt : Hd := ⟨[.sl 228 (.st [.int .i64, .int .i64]), .int .i64], [], none, .p, .int .i64, .p, []⟩
def T_spec_CapacityAt : FSig := ⟨H_spec_CapacityAt.ps, H_spec_CapacityAt.cs, H_spec_CapacityAt.io, H_spec_CapacityAt.im, H_spec_CapacityAt.R, H_spec_CapacityAt.m, spec_CapacityAt⟩
theorem E_spec_CapacityAt : fnOf tys [(111, T_spec_l01In), (221, T_spec_l03At), (262, T_spec_StepsOk)] Tryz.f205 H_spec_CapacityAt = T_spec_CapacityAt := by kernel_rfl
theorem K_spec_CapacityAt : SigOk Tryz.prog 205 T_spec_CapacityAt := (congrArg (SigOk Tryz.prog 205) E_spec_CapacityAt).mp (fnOf_ok rfl tysOk ⟨K_spec_l01In, K_spec_l03At, K_spec_StepsOk, trivial⟩ Tryz.func205 (by decide) rfl (fun _ h => by cases h) (nilEq_of (by kernel_rfl)))
def spec_IsMachine (x : (D_Project × (Int × Unit))) (c : Unit) : (Option (Bool × Unit)) :=
  (Option.bind ((Option.bind (spec_l01In (x.2.1, (0, ((subZ .i64 (lenI x.1.2.2.2.1) 1), ()))) ()) fun v0 => (some v0.1)) : (Option Bool)) fun v1 => (Option.bind ((if v1 = true then (Option.bind (getI x.1.2.2.2.1 x.2.1) fun v2 => (some ((ltZ 0 (lenI v2.2.1)), ()))) else (some (false, ()))) : (Option (Bool × Unit))) fun v3 => (some (v3.1, ()))))
def H_spec_IsMachine : Hd := ⟨[.st [.int .i64, .sl 159 (.st [.str, .int .i64, .sl 172 (.st [.int .i64, .sl 3 (.int .i64), .sl 3 (.int .i64)])]), .sl 164 (.st [.int .i64, .int .i64, .bool, .int .i64]), .sl 169 (.st [.sl 228 (.st [.int .i64, .int .i64]), .sl 25 (.sl 3 (.int .i64))]), .sl 3 (.int .i64)], .int .i64], [], none, .p, .bool, .p, []⟩
def T_spec_IsMachine : FSig := ⟨H_spec_IsMachine.ps, H_spec_IsMachine.cs, H_spec_IsMachine.io, H_spec_IsMachine.im, H_spec_IsMachine.R, H_spec_IsMachine.m, spec_IsMachine⟩
theorem E_spec_IsMachine : fnOf tys [(111, T_spec_l01In)] Tryz.f206 H_spec_IsMachine = T_spec_IsMachine := by kernel_rfl
theorem K_spec_IsMachine : SigOk Tryz.prog 206 T_spec_IsMachine := (congrArg (SigOk Tryz.prog 206) E_spec_IsMachine).mp (fnOf_ok rfl tysOk ⟨K_spec_l01In, trivial⟩ Tryz.func206 (by decide) rfl (fun _ h => by cases h) (nilEq_of (by kernel_rfl)))
def spec_l24Room_L0 : (Int × (Int × ((List Int) × (Int × (Int × (Int × (Int × (Int × (D_Project × (D_Plan × (Int × Unit))))))))))) → Option (Out (Int × (Int × ((List Int) × (Int × (Int × (Int × (Int × (Int × (D_Project × (D_Plan × (Int × Unit))))))))))) ((Bool × (Int × (Int × ((List Int) × (Int × (Int × (Int × (Int × (Int × (D_Project × (D_Plan × (Int × Unit)))))))))))) ⊕ Empty) (Bool × Unit)) :=
  (fun v5 => (if (ltZ v5.1 v5.2.1) = true then (Option.bind (getI v5.2.2.1 v5.1) fun v6 => (Option.bind (getI v5.2.2.2.2.2.2.2.2.2.1.1.1 v6) fun v7 => (Option.bind ((if (leZ v7 v5.2.2.2.2.1) = true then (Option.bind ((Option.bind (spec_l09End (v5.2.2.2.2.2.2.2.2.1, (v5.2.2.2.2.2.2.2.2.2.1.1, (v6, ()))) ()) fun v8 => (some v8.1)) : (Option Int)) fun v9 => (some ((ltZ v5.2.2.2.2.1 v9), (v6, (v5.1, (v5.2.1, (v5.2.2.1, (v5.2.2.2.1, (v5.2.2.2.2.1, (v5.2.2.2.2.2.1, (v5.2.2.2.2.2.2.1, (v5.2.2.2.2.2.2.2.1, (v5.2.2.2.2.2.2.2.2.1, (v5.2.2.2.2.2.2.2.2.2.1, (v5.2.2.2.2.2.2.2.2.2.2.1, ()))))))))))))))) else (some (false, (v6, (v5.1, (v5.2.1, (v5.2.2.1, (v5.2.2.2.1, (v5.2.2.2.2.1, (v5.2.2.2.2.2.1, (v5.2.2.2.2.2.2.1, (v5.2.2.2.2.2.2.2.1, (v5.2.2.2.2.2.2.2.2.1, (v5.2.2.2.2.2.2.2.2.2.1, (v5.2.2.2.2.2.2.2.2.2.2.1, ()))))))))))))))) : (Option (Bool × (Int × (Int × (Int × ((List Int) × (Int × (Int × (Int × (Int × (Int × (D_Project × (D_Plan × (Int × Unit))))))))))))))) fun v10 => (Option.bind ((if v10.1 = true then (Option.bind ((Option.bind (spec_l09Mode (v10.2.2.2.2.2.2.2.2.2.2.1, (v10.2.2.2.2.2.2.2.2.2.2.2.1.1, (v10.2.1, ()))) ()) fun v11 => (some v11.1)) : (Option D_Mode)) fun v12 => (Option.bind (getI v12.2.1 v10.2.2.2.2.2.2.2.1) fun v13 => (some (Out.norm (v10.2.2.1, (v10.2.2.2.1, (v10.2.2.2.2.1, ((addZ .i64 v10.2.2.2.2.2.1 v13), (v10.2.2.2.2.2.2.1, (v10.2.2.2.2.2.2.2.1, (v10.2.2.2.2.2.2.2.2.1, (v10.2.2.2.2.2.2.2.2.2.1, (v10.2.2.2.2.2.2.2.2.2.2.1, (v10.2.2.2.2.2.2.2.2.2.2.2.1, (v10.2.2.2.2.2.2.2.2.2.2.2.2.1, ()))))))))))))))) else (some (Out.norm (v10.2.2.1, (v10.2.2.2.1, (v10.2.2.2.2.1, (v10.2.2.2.2.2.1, (v10.2.2.2.2.2.2.1, (v10.2.2.2.2.2.2.2.1, (v10.2.2.2.2.2.2.2.2.1, (v10.2.2.2.2.2.2.2.2.2.1, (v10.2.2.2.2.2.2.2.2.2.2.1, (v10.2.2.2.2.2.2.2.2.2.2.2.1, (v10.2.2.2.2.2.2.2.2.2.2.2.2.1, ())))))))))))))) : (Option (Out (Int × (Int × ((List Int) × (Int × (Int × (Int × (Int × (Int × (D_Project × (D_Plan × (Int × Unit))))))))))) Empty (Bool × Unit)))) fun v14 => (match ((match ((match v14 with | Out.norm v23 => (Out.norm v23) | Out.exit v24 => (Out.exit v24) | Out.ret v25 => (Out.ret v25)) : (Out (Int × (Int × ((List Int) × (Int × (Int × (Int × (Int × (Int × (D_Project × (D_Plan × (Int × Unit))))))))))) Empty (Bool × Unit))) with | Out.norm v20 => (Out.norm v20) | Out.exit v21 => (Out.exit v21) | Out.ret v22 => (Out.ret v22)) : (Out (Int × (Int × ((List Int) × (Int × (Int × (Int × (Int × (Int × (D_Project × (D_Plan × (Int × Unit))))))))))) Empty (Bool × Unit))) with | Out.norm v15 => (some (Out.norm ((addZ .i64 v15.1 1), (v15.2.1, (v15.2.2.1, (v15.2.2.2.1, (v15.2.2.2.2.1, (v15.2.2.2.2.2.1, (v15.2.2.2.2.2.2.1, (v15.2.2.2.2.2.2.2.1, (v15.2.2.2.2.2.2.2.2.1, (v15.2.2.2.2.2.2.2.2.2.1, (v15.2.2.2.2.2.2.2.2.2.2.1, ()))))))))))))) | Out.exit v16 => (match ((Empty.elim v16) : ((Int × (Int × ((List Int) × (Int × (Int × (Int × (Int × (Int × (D_Project × (D_Plan × (Int × Unit))))))))))) ⊕ Empty)) with | Sum.inl v17 => (some (Out.norm ((addZ .i64 v17.1 1), (v17.2.1, (v17.2.2.1, (v17.2.2.2.1, (v17.2.2.2.2.1, (v17.2.2.2.2.2.1, (v17.2.2.2.2.2.2.1, (v17.2.2.2.2.2.2.2.1, (v17.2.2.2.2.2.2.2.2.1, (v17.2.2.2.2.2.2.2.2.2.1, (v17.2.2.2.2.2.2.2.2.2.2.1, ()))))))))))))) | Sum.inr v18 => (some (Out.exit (Sum.inr (Empty.elim v18))))) | Out.ret v19 => (some (Out.ret v19))))))) else (some (Out.exit (Sum.inl ((ltZ v5.1 v5.2.1), (v5.1, (v5.2.1, (v5.2.2.1, (v5.2.2.2.1, (v5.2.2.2.2.1, (v5.2.2.2.2.2.1, (v5.2.2.2.2.2.2.1, (v5.2.2.2.2.2.2.2.1, (v5.2.2.2.2.2.2.2.2.1, (v5.2.2.2.2.2.2.2.2.2.1, (v5.2.2.2.2.2.2.2.2.2.2.1, ())))))))))))))))))
def spec_l24Room_L1 : (Int × (Int × (Int × (Int × (D_Project × (D_Plan × (Int × Unit))))))) → Option (Out (Int × (Int × (Int × (Int × (D_Project × (D_Plan × (Int × Unit))))))) ((Bool × (Int × (Int × (Int × (Int × (D_Project × (D_Plan × (Int × Unit)))))))) ⊕ Empty) (Bool × Unit)) :=
  (fun v2 => (Option.bind ((Option.bind (spec_l09End (v2.2.2.2.2.1, (v2.2.2.2.2.2.1.1, (v2.2.2.2.2.2.2.1, ()))) ()) fun v3 => (some v3.1)) : (Option Int)) fun v4 => (if (ltZ v2.1 v4) = true then (Option.bind (loopN (A := (Int × (Int × ((List Int) × (Int × (Int × (Int × (Int × (Int × (D_Project × (D_Plan × (Int × Unit)))))))))))) big spec_l24Room_L0 (0, ((lenI v2.2.2.2.2.2.1.2.1), (v2.2.2.2.2.2.1.2.1, (0, (v2.1, (v2.2.1, (v2.2.2.1, (v2.2.2.2.1, (v2.2.2.2.2.1, (v2.2.2.2.2.2.1, (v2.2.2.2.2.2.2.1, ())))))))))))) fun v26 => (match v26 with | Out.norm v27 => none | Out.exit v28 => (match ((match v28 with | Sum.inl v36 => (Sum.inl (v36.2.2.2.2.1, (v36.2.2.2.2.2.1, (v36.2.2.2.2.2.2.1, (v36.2.2.2.2.2.2.2.1, (v36.2.2.2.2.2.2.2.2.1, (v36.2.2.2.2.2.2.2.2.2.1, (v36.2.2.2.2.2.2.2.2.2.2.1, (v36.2.2.2.2.2.2.2.2.2.2.2.1, ()))))))))) | Sum.inr v37 => (Empty.elim v37)) : ((Int × (Int × (Int × (Int × (Int × (D_Project × (D_Plan × (Int × Unit)))))))) ⊕ Empty)) with | Sum.inl v29 => (Option.bind (getI v29.2.2.2.2.2.1.2.2.2.1 v29.2.2.1) fun v30 => (Option.bind ((Option.bind (spec_CapacityAt (v30.1, (v29.2.1, ())) ()) fun v31 => (some v31.1)) : (Option Int)) fun v32 => (if (ltZ v32 v29.1) = true then (some (Out.ret (false, ()))) else (some (Out.norm ((addZ .i64 v29.2.1 1), (v29.2.2.1, (v29.2.2.2.1, (v29.2.2.2.2.1, (v29.2.2.2.2.2.1, (v29.2.2.2.2.2.2.1, (v29.2.2.2.2.2.2.2.1, ())))))))))))) | Sum.inr v33 => (match ((Empty.elim (Empty.elim v33)) : ((Int × (Int × (Int × (Int × (D_Project × (D_Plan × (Int × Unit))))))) ⊕ Empty)) with | Sum.inl v34 => (some (Out.norm ((addZ .i64 v34.1 1), (v34.2.1, (v34.2.2.1, (v34.2.2.2.1, (v34.2.2.2.2.1, (v34.2.2.2.2.2.1, (v34.2.2.2.2.2.2.1, ()))))))))) | Sum.inr v35 => (some (Out.exit (Sum.inr (Empty.elim v35)))))) | Out.ret v38 => (some (Out.ret v38)))) else (some (Out.exit (Sum.inl ((ltZ v2.1 v4), (v2.1, (v2.2.1, (v2.2.2.1, (v2.2.2.2.1, (v2.2.2.2.2.1, (v2.2.2.2.2.2.1, (v2.2.2.2.2.2.2.1, ()))))))))))))))
def spec_l24Room_L2 : (Int × (Int × ((List Int) × (Int × (Int × (Int × (D_Project × (D_Plan × (Int × Unit))))))))) → Option (Out (Int × (Int × ((List Int) × (Int × (Int × (Int × (D_Project × (D_Plan × (Int × Unit))))))))) ((Bool × (Int × (Int × ((List Int) × (Int × (Int × (Int × (D_Project × (D_Plan × (Int × Unit)))))))))) ⊕ Empty) (Bool × Unit)) :=
  (fun v43 => (if (ltZ v43.1 v43.2.1) = true then (Option.bind (getI v43.2.2.1 v43.1) fun v44 => (Option.bind ((if (notB (eqZ v44 v43.2.2.2.2.2.2.2.2.1)) = true then (Option.bind ((Option.bind (spec_IsMachine (v43.2.2.2.2.2.2.1, (v43.2.2.2.1, ())) ()) fun v45 => (some v45.1)) : (Option Bool)) fun v46 => (Option.bind ((if v46 = true then (Option.bind ((Option.bind (spec_l10Pair (v43.2.2.2.2.2.2.1, (v43.2.2.2.2.2.2.2.1.1, ((0, (v43.2.2.2.1, (v44, (v43.2.2.2.2.2.2.2.2.1, ())))), ()))) ()) fun v47 => (some v47.1)) : (Option Bool)) fun v48 => (some (v48, (v43.1, (v43.2.1, (v43.2.2.1, (v43.2.2.2.1, (v43.2.2.2.2.1, (v43.2.2.2.2.2.1, (v43.2.2.2.2.2.2.1, (v43.2.2.2.2.2.2.2.1, (v43.2.2.2.2.2.2.2.2.1, ())))))))))))) else (some (false, (v43.1, (v43.2.1, (v43.2.2.1, (v43.2.2.2.1, (v43.2.2.2.2.1, (v43.2.2.2.2.2.1, (v43.2.2.2.2.2.2.1, (v43.2.2.2.2.2.2.2.1, (v43.2.2.2.2.2.2.2.2.1, ())))))))))))) : (Option (Bool × (Int × (Int × ((List Int) × (Int × (Int × (Int × (D_Project × (D_Plan × (Int × Unit)))))))))))) fun v49 => (some (v49.1, (v49.2.1, (v49.2.2.1, (v49.2.2.2.1, (v49.2.2.2.2.1, (v49.2.2.2.2.2.1, (v49.2.2.2.2.2.2.1, (v49.2.2.2.2.2.2.2.1, (v49.2.2.2.2.2.2.2.2.1, (v49.2.2.2.2.2.2.2.2.2.1, ()))))))))))))) else (some (false, (v43.1, (v43.2.1, (v43.2.2.1, (v43.2.2.2.1, (v43.2.2.2.2.1, (v43.2.2.2.2.2.1, (v43.2.2.2.2.2.2.1, (v43.2.2.2.2.2.2.2.1, (v43.2.2.2.2.2.2.2.2.1, ())))))))))))) : (Option (Bool × (Int × (Int × ((List Int) × (Int × (Int × (Int × (D_Project × (D_Plan × (Int × Unit)))))))))))) fun v50 => (if v50.1 = true then (some (Out.ret (false, ()))) else (some (Out.norm ((addZ .i64 v50.2.1 1), (v50.2.2.1, (v50.2.2.2.1, (v50.2.2.2.2.1, (v50.2.2.2.2.2.1, (v50.2.2.2.2.2.2.1, (v50.2.2.2.2.2.2.2.1, (v50.2.2.2.2.2.2.2.2.1, (v50.2.2.2.2.2.2.2.2.2.1, ())))))))))))))) else (some (Out.exit (Sum.inl ((ltZ v43.1 v43.2.1), (v43.1, (v43.2.1, (v43.2.2.1, (v43.2.2.2.1, (v43.2.2.2.2.1, (v43.2.2.2.2.2.1, (v43.2.2.2.2.2.2.1, (v43.2.2.2.2.2.2.2.1, (v43.2.2.2.2.2.2.2.2.1, ())))))))))))))))
def spec_l24Room_L3 : (Int × (Int × (D_Project × (D_Plan × (Int × Unit))))) → Option (Out (Int × (Int × (D_Project × (D_Plan × (Int × Unit))))) ((Bool × (Int × (Int × (D_Project × (D_Plan × (Int × Unit)))))) ⊕ Empty) (Bool × Unit)) :=
  (fun v0 => (if (ltZ v0.1 v0.2.1) = true then (Option.bind (getI v0.2.2.2.1.1.1 v0.2.2.2.2.1) fun v1 => (Option.bind (loopN (A := (Int × (Int × (Int × (Int × (D_Project × (D_Plan × (Int × Unit)))))))) big spec_l24Room_L1 (v1, (v0.1, (v0.1, (v0.2.1, (v0.2.2.1, (v0.2.2.2.1, (v0.2.2.2.2.1, ())))))))) fun v39 => (match v39 with | Out.norm v40 => none | Out.exit v41 => (match ((match v41 with | Sum.inl v64 => (Sum.inl (v64.2.2.1, (v64.2.2.2.1, (v64.2.2.2.2.1, (v64.2.2.2.2.2.1, (v64.2.2.2.2.2.2.1, (v64.2.2.2.2.2.2.2.1, ()))))))) | Sum.inr v65 => (Empty.elim v65)) : ((Int × (Int × (Int × (D_Project × (D_Plan × (Int × Unit)))))) ⊕ Empty)) with | Sum.inl v42 => (Option.bind (loopN (A := (Int × (Int × ((List Int) × (Int × (Int × (Int × (D_Project × (D_Plan × (Int × Unit)))))))))) big spec_l24Room_L2 (0, ((lenI v42.2.2.2.2.1.2.1), (v42.2.2.2.2.1.2.1, (v42.1, (v42.2.1, (v42.2.2.1, (v42.2.2.2.1, (v42.2.2.2.2.1, (v42.2.2.2.2.2.1, ())))))))))) fun v51 => (match v51 with | Out.norm v52 => none | Out.exit v53 => (match ((match v53 with | Sum.inl v58 => (Sum.inl (v58.2.2.2.2.2.1, (v58.2.2.2.2.2.2.1, (v58.2.2.2.2.2.2.2.1, (v58.2.2.2.2.2.2.2.2.1, (v58.2.2.2.2.2.2.2.2.2.1, ())))))) | Sum.inr v59 => (Empty.elim v59)) : ((Int × (Int × (D_Project × (D_Plan × (Int × Unit))))) ⊕ Empty)) with | Sum.inl v54 => (some (Out.norm ((addZ .i64 v54.1 1), (v54.2.1, (v54.2.2.1, (v54.2.2.2.1, (v54.2.2.2.2.1, ()))))))) | Sum.inr v55 => (match ((Empty.elim v55) : ((Int × (Int × (D_Project × (D_Plan × (Int × Unit))))) ⊕ Empty)) with | Sum.inl v56 => (some (Out.norm ((addZ .i64 v56.1 1), (v56.2.1, (v56.2.2.1, (v56.2.2.2.1, (v56.2.2.2.2.1, ()))))))) | Sum.inr v57 => (some (Out.exit (Sum.inr (Empty.elim v57)))))) | Out.ret v60 => (some (Out.ret v60)))) | Sum.inr v61 => (match ((Empty.elim (Empty.elim v61)) : ((Int × (Int × (D_Project × (D_Plan × (Int × Unit))))) ⊕ Empty)) with | Sum.inl v62 => (some (Out.norm ((addZ .i64 v62.1 1), (v62.2.1, (v62.2.2.1, (v62.2.2.2.1, (v62.2.2.2.2.1, ()))))))) | Sum.inr v63 => (some (Out.exit (Sum.inr (Empty.elim v63)))))) | Out.ret v66 => (some (Out.ret v66))))) else (some (Out.exit (Sum.inl ((ltZ v0.1 v0.2.1), (v0.1, (v0.2.1, (v0.2.2.1, (v0.2.2.2.1, (v0.2.2.2.2.1, ())))))))))))
def spec_l24Room (x : (D_Project × (D_Plan × (Int × Unit)))) (c : Unit) : (Option (Bool × Unit)) :=
  (Option.bind (loopN (A := (Int × (Int × (D_Project × (D_Plan × (Int × Unit)))))) big spec_l24Room_L3 (0, ((lenI x.1.2.2.2.1), (x.1, (x.2.1, (x.2.2.1, ())))))) fun v67 => (match v67 with | Out.norm v68 => none | Out.exit v69 => (match ((match v69 with | Sum.inl v72 => (Sum.inl ()) | Sum.inr v73 => (Empty.elim v73)) : (Unit ⊕ Empty)) with | Sum.inl v70 => (some (true, ())) | Sum.inr v71 => none) | Out.ret v74 => (some v74)))
def H_spec_l24Room : Hd := ⟨[.st [.int .i64, .sl 159 (.st [.str, .int .i64, .sl 172 (.st [.int .i64, .sl 3 (.int .i64), .sl 3 (.int .i64)])]), .sl 164 (.st [.int .i64, .int .i64, .bool, .int .i64]), .sl 169 (.st [.sl 228 (.st [.int .i64, .int .i64]), .sl 25 (.sl 3 (.int .i64))]), .sl 3 (.int .i64)], .st [.st [.sl 3 (.int .i64), .sl 3 (.int .i64)], .sl 3 (.int .i64)], .int .i64], [], none, .p, .bool, .p, []⟩
def T_spec_l24Room : FSig := ⟨H_spec_l24Room.ps, H_spec_l24Room.cs, H_spec_l24Room.io, H_spec_l24Room.im, H_spec_l24Room.R, H_spec_l24Room.m, spec_l24Room⟩
theorem E_spec_l24Room : fnOf tys [(122, T_spec_l09End), (204, T_spec_l09Mode), (205, T_spec_CapacityAt), (206, T_spec_IsMachine), (207, T_spec_l10Pair)] Tryz.f124 H_spec_l24Room = T_spec_l24Room := by kernel_rfl
theorem K_spec_l24Room : SigOk Tryz.prog 124 T_spec_l24Room := (congrArg (SigOk Tryz.prog 124) E_spec_l24Room).mp (fnOf_ok rfl tysOk ⟨K_spec_l09End, K_spec_l09Mode, K_spec_CapacityAt, K_spec_IsMachine, K_spec_l10Pair, trivial⟩ Tryz.func124 (by decide) rfl (fun _ h => by cases h) (nilEq_of (by kernel_rfl)))
end Go.Proofs.YtafnhdfjcocpgaaGreat