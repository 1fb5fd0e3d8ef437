/-
  The functions of this seat as plain Lean functions, and that the program computes them. No condition.
-/
import Derived.Test.YtafnhdfjcocpgaaGreatN36
import Derived.Test.YtafnhdfjcocpgaaGreatProg
import Derived.KernelRfl
namespace Go.Proofs.YtafnhdfjcocpgaaGreat
open Go.Abs
set_option linter.unusedVariables false
set_option maxRecDepth 100000
abbrev D_Mode : Type := (Int × ((List Int) × ((List Int) × Unit)))
abbrev D_Activity : Type := ((List UInt8) × (Int × ((List D_Mode) × Unit)))
abbrev D_Link : Type := (Int × (Int × (Bool × (Int × Unit))))
abbrev D_Step : Type := (Int × (Int × Unit))
abbrev D_Resource : Type := ((List D_Step) × ((List (List Int)) × Unit))
abbrev D_Project : Type := (Int × ((List D_Activity) × ((List D_Link) × ((List D_Resource) × ((List Int) × Unit)))))
abbrev D_Schedule : Type := ((List Int) × ((List Int) × Unit))
abbrev D_Rule : Type := (Int × (Int × D_Step))
theorem tn3 : TnOk Tryz.prog 3 (.int .i64) := ⟨Tryz.underlying3, fun _ h => (by cases h), Tryz.t3, rfl, rfl, fun _ _ => rfl⟩
theorem tn4 : TnOk Tryz.prog 4 (.bool) := ⟨Tryz.underlying4, fun _ h => (by cases h), Tryz.t4, rfl, rfl, fun _ _ => rfl⟩
theorem tn5 : TnOk Tryz.prog 5 (.int .u8) := ⟨Tryz.underlying5, fun _ h => (by cases h), Tryz.t5, rfl, rfl, fun _ _ => rfl⟩
theorem tn9 : TnOk Tryz.prog 9 (.str) := ⟨Tryz.underlying9, fun _ h => (by cases h), Tryz.t9, rfl, rfl, fun _ _ => rfl⟩
theorem tn22 : TnOk Tryz.prog 22 (.sl 150 (.st [.str, .int .i64, .sl 242 (.st [.int .i64, .sl 3 (.int .i64), .sl 3 (.int .i64)])])) := ⟨⟨Tryz.underlying22, Tryz.t150, _, rfl, rfl, rfl, rfl, by decide, by decide, fun _ _ => rfl, fun k h => by cases h⟩, fun _ h => (by cases h), Tryz.t22, rfl, rfl, fun _ _ => rfl⟩
theorem tn23 : TnOk Tryz.prog 23 (.sl 166 (.st [.int .i64, .int .i64, .bool, .int .i64])) := ⟨⟨Tryz.underlying23, Tryz.t166, _, rfl, rfl, rfl, rfl, by decide, by decide, fun _ _ => rfl, fun k h => by cases h⟩, fun _ h => (by cases h), Tryz.t23, rfl, rfl, fun _ _ => rfl⟩
theorem tn24 : TnOk Tryz.prog 24 (.sl 154 (.st [.sl 247 (.st [.int .i64, .int .i64]), .sl 25 (.sl 3 (.int .i64))])) := ⟨⟨Tryz.underlying24, Tryz.t154, _, rfl, rfl, rfl, rfl, by decide, by decide, fun _ _ => rfl, fun k h => by cases h⟩, fun _ h => (by cases h), Tryz.t24, rfl, rfl, fun _ _ => rfl⟩
theorem tn25 : TnOk Tryz.prog 25 (.sl 3 (.int .i64)) := ⟨⟨Tryz.underlying25, Tryz.t3, _, rfl, rfl, rfl, rfl, by decide, by decide, fun _ _ => rfl, fun k h => by cases h; exact Tryz.underlying3⟩, fun _ h => (by cases h), Tryz.t25, rfl, rfl, fun _ _ => rfl⟩
theorem tn26 : TnOk Tryz.prog 26 (.st [.int .i64, .sl 150 (.st [.str, .int .i64, .sl 242 (.st [.int .i64, .sl 3 (.int .i64), .sl 3 (.int .i64)])]), .sl 166 (.st [.int .i64, .int .i64, .bool, .int .i64]), .sl 154 (.st [.sl 247 (.st [.int .i64, .int .i64]), .sl 25 (.sl 3 (.int .i64))]), .sl 3 (.int .i64)]) := ⟨⟨_, Tryz.underlying26, Tryz.eqGuardType26, Tryz.stoodInHeld26, rfl, fun j τ h => by
    cases j with
    | zero => cases h; exact ⟨_, _, rfl, rfl, by decide, by decide, Tryz.underlying3, rfl, fun us h => by cases h⟩
    | succ j =>
     cases j with
     | zero => cases h; exact ⟨_, _, rfl, rfl, by decide, by decide, Tryz.underlying22, rfl, fun us h => by cases h⟩
     | succ j =>
      cases j with
      | zero => cases h; exact ⟨_, _, rfl, rfl, by decide, by decide, Tryz.underlying23, rfl, fun us h => by cases h⟩
      | succ j =>
       cases j with
       | zero => cases h; exact ⟨_, _, rfl, rfl, by decide, by decide, Tryz.underlying24, rfl, fun us h => by cases h⟩
       | succ j =>
        cases j with
        | zero => cases h; exact ⟨_, _, rfl, rfl, by decide, by decide, Tryz.underlying25, rfl, fun us h => by cases h⟩
        | succ j =>
         cases h⟩, (fun us hus fs hfs j τ h f hf => by
    cases hus
    rw [Tryz.underlying26] at hfs
    cases hfs
    cases j with
    | zero => cases h; cases hf; exact ⟨fun k e => by cases e; exact Tryz.underlying3, fun e => (by cases e), fun e => (by cases e)⟩
    | succ j =>
     cases j with
     | zero => cases h; cases hf; exact ⟨fun k e => (by cases e), fun e => (by cases e), fun e => (by cases e)⟩
     | succ j =>
      cases j with
      | zero => cases h; cases hf; exact ⟨fun k e => (by cases e), fun e => (by cases e), fun e => (by cases e)⟩
      | succ j =>
       cases j with
       | zero => cases h; cases hf; exact ⟨fun k e => (by cases e), fun e => (by cases e), fun e => (by cases e)⟩
       | succ j =>
        cases j with
        | zero => cases h; cases hf; exact ⟨fun k e => (by cases e), fun e => (by cases e), fun e => (by cases e)⟩
        | succ j =>
         cases h), Tryz.t26, rfl, rfl, fun _ _ => rfl⟩
theorem tn27 : TnOk Tryz.prog 27 (.st [.int .i64, .sl 150 (.st [.str, .int .i64, .sl 242 (.st [.int .i64, .sl 3 (.int .i64), .sl 3 (.int .i64)])]), .sl 166 (.st [.int .i64, .int .i64, .bool, .int .i64]), .sl 154 (.st [.sl 247 (.st [.int .i64, .int .i64]), .sl 25 (.sl 3 (.int .i64))]), .sl 3 (.int .i64)]) := ⟨⟨_, Tryz.underlying27, Tryz.eqGuardType27, Tryz.stoodInHeld27, rfl, fun j τ h => by
    cases j with
    | zero => cases h; exact ⟨_, _, rfl, rfl, by decide, by decide, Tryz.underlying3, rfl, fun us h => by cases h⟩
    | succ j =>
     cases j with
     | zero => cases h; exact ⟨_, _, rfl, rfl, by decide, by decide, Tryz.underlying22, rfl, fun us h => by cases h⟩
     | succ j =>
      cases j with
      | zero => cases h; exact ⟨_, _, rfl, rfl, by decide, by decide, Tryz.underlying23, rfl, fun us h => by cases h⟩
      | succ j =>
       cases j with
       | zero => cases h; exact ⟨_, _, rfl, rfl, by decide, by decide, Tryz.underlying24, rfl, fun us h => by cases h⟩
       | succ j =>
        cases j with
        | zero => cases h; exact ⟨_, _, rfl, rfl, by decide, by decide, Tryz.underlying25, rfl, fun us h => by cases h⟩
        | succ j =>
         cases h⟩, (fun us hus fs hfs j τ h f hf => by
    cases hus
    rw [Tryz.underlying27] at hfs
    cases hfs
    cases j with
    | zero => cases h; cases hf; exact ⟨fun k e => by cases e; exact Tryz.underlying3, fun e => (by cases e), fun e => (by cases e)⟩
    | succ j =>
     cases j with
     | zero => cases h; cases hf; exact ⟨fun k e => (by cases e), fun e => (by cases e), fun e => (by cases e)⟩
     | succ j =>
      cases j with
      | zero => cases h; cases hf; exact ⟨fun k e => (by cases e), fun e => (by cases e), fun e => (by cases e)⟩
      | succ j =>
       cases j with
       | zero => cases h; cases hf; exact ⟨fun k e => (by cases e), fun e => (by cases e), fun e => (by cases e)⟩
       | succ j =>
        cases j with
        | zero => cases h; cases hf; exact ⟨fun k e => (by cases e), fun e => (by cases e), fun e => (by cases e)⟩
        | succ j =>
         cases h), Tryz.t27, rfl, rfl, fun _ _ => rfl⟩
theorem tn28 : TnOk Tryz.prog 28 (.st [.sl 3 (.int .i64), .sl 3 (.int .i64)]) := ⟨⟨_, Tryz.underlying28, Tryz.eqGuardType28, Tryz.stoodInHeld28, rfl, fun j τ h => by
    cases j with
    | zero => cases h; exact ⟨_, _, rfl, rfl, by decide, by decide, Tryz.underlying25, rfl, fun us h => by cases h⟩
    | succ j =>
     cases j with
     | zero => cases h; exact ⟨_, _, rfl, rfl, by decide, by decide, Tryz.underlying25, rfl, fun us h => by cases h⟩
     | succ j =>
      cases h⟩, (fun us hus fs hfs j τ h f hf => by
    cases hus
    rw [Tryz.underlying28] at hfs
    cases hfs
    cases j with
    | zero => cases h; cases hf; exact ⟨fun k e => (by cases e), fun e => (by cases e), fun e => (by cases e)⟩
    | succ j =>
     cases j with
     | zero => cases h; cases hf; exact ⟨fun k e => (by cases e), fun e => (by cases e), fun e => (by cases e)⟩
     | succ j =>
      cases h), Tryz.t28, rfl, rfl, fun _ _ => rfl⟩
theorem tn29 : TnOk Tryz.prog 29 (.st [.sl 3 (.int .i64), .sl 3 (.int .i64)]) := ⟨⟨_, Tryz.underlying29, Tryz.eqGuardType29, Tryz.stoodInHeld29, rfl, fun j τ h => by
    cases j with
    | zero => cases h; exact ⟨_, _, rfl, rfl, by decide, by decide, Tryz.underlying25, rfl, fun us h => by cases h⟩
    | succ j =>
     cases j with
     | zero => cases h; exact ⟨_, _, rfl, rfl, by decide, by decide, Tryz.underlying25, rfl, fun us h => by cases h⟩
     | succ j =>
      cases h⟩, (fun us hus fs hfs j τ h f hf => by
    cases hus
    rw [Tryz.underlying29] at hfs
    cases hfs
    cases j with
    | zero => cases h; cases hf; exact ⟨fun k e => (by cases e), fun e => (by cases e), fun e => (by cases e)⟩
    | succ j =>
     cases j with
     | zero => cases h; cases hf; exact ⟨fun k e => (by cases e), fun e => (by cases e), fun e => (by cases e)⟩
     | succ j =>
      cases h), Tryz.t29, rfl, rfl, fun _ _ => rfl⟩
theorem tn32 : TnOk Tryz.prog 32 (.fn [.st [.int .i64, .sl 150 (.st [.str, .int .i64, .sl 242 (.st [.int .i64, .sl 3 (.int .i64), .sl 3 (.int .i64)])]), .sl 166 (.st [.int .i64, .int .i64, .bool, .int .i64]), .sl 154 (.st [.sl 247 (.st [.int .i64, .int .i64]), .sl 25 (.sl 3 (.int .i64))]), .sl 3 (.int .i64)], .int .i64] (.int .i64)) := ⟨⟨_, _, _, Tryz.underlying32⟩, fun _ h => (by cases h), Tryz.t32, rfl, rfl, fun _ h => by cases h⟩
theorem tn36 : TnOk Tryz.prog 36 (.sl 159 (.st [.str, .int .i64, .sl 172 (.st [.int .i64, .sl 3 (.int .i64), .sl 3 (.int .i64)])])) := ⟨⟨Tryz.underlying36, Tryz.t159, _, rfl, rfl, rfl, rfl, by decide, by decide, fun _ _ => rfl, fun k h => by cases h⟩, fun _ h => (by cases h), Tryz.t36, rfl, rfl, fun _ _ => rfl⟩
theorem tn37 : TnOk Tryz.prog 37 (.sl 164 (.st [.int .i64, .int .i64, .bool, .int .i64])) := ⟨⟨Tryz.underlying37, Tryz.t164, _, rfl, rfl, rfl, rfl, by decide, by decide, fun _ _ => rfl, fun k h => by cases h⟩, fun _ h => (by cases h), Tryz.t37, rfl, rfl, fun _ _ => rfl⟩
theorem tn38 : TnOk Tryz.prog 38 (.sl 169 (.st [.sl 228 (.st [.int .i64, .int .i64]), .sl 25 (.sl 3 (.int .i64))])) := ⟨⟨Tryz.underlying38, Tryz.t169, _, rfl, rfl, rfl, rfl, by decide, by decide, fun _ _ => rfl, fun k h => by cases h⟩, fun _ h => (by cases h), Tryz.t38, rfl, rfl, fun _ _ => rfl⟩
theorem tn39 : TnOk Tryz.prog 39 (.st [.int .i64, .sl 159 (.st [.str, .int .i64, .sl 172 (.st [.int .i64, .sl 3 (.int .i64), .sl 3 (.int .i64)])]), .sl 164 (.st [.int .i64, .int .i64, .bool, .int .i64]), .sl 169 (.st [.sl 228 (.st [.int .i64, .int .i64]), .sl 25 (.sl 3 (.int .i64))]), .sl 3 (.int .i64)]) := ⟨⟨_, Tryz.underlying39, Tryz.eqGuardType39, Tryz.stoodInHeld39, rfl, fun j τ h => by
    cases j with
    | zero => cases h; exact ⟨_, _, rfl, rfl, by decide, by decide, Tryz.underlying3, rfl, fun us h => by cases h⟩
    | succ j =>
     cases j with
     | zero => cases h; exact ⟨_, _, rfl, rfl, by decide, by decide, Tryz.underlying36, rfl, fun us h => by cases h⟩
     | succ j =>
      cases j with
      | zero => cases h; exact ⟨_, _, rfl, rfl, by decide, by decide, Tryz.underlying37, rfl, fun us h => by cases h⟩
      | succ j =>
       cases j with
       | zero => cases h; exact ⟨_, _, rfl, rfl, by decide, by decide, Tryz.underlying38, rfl, fun us h => by cases h⟩
       | succ j =>
        cases j with
        | zero => cases h; exact ⟨_, _, rfl, rfl, by decide, by decide, Tryz.underlying25, rfl, fun us h => by cases h⟩
        | succ j =>
         cases h⟩, (fun us hus fs hfs j τ h f hf => by
    cases hus
    rw [Tryz.underlying39] at hfs
    cases hfs
    cases j with
    | zero => cases h; cases hf; exact ⟨fun k e => by cases e; exact Tryz.underlying3, fun e => (by cases e), fun e => (by cases e)⟩
    | succ j =>
     cases j with
     | zero => cases h; cases hf; exact ⟨fun k e => (by cases e), fun e => (by cases e), fun e => (by cases e)⟩
     | succ j =>
      cases j with
      | zero => cases h; cases hf; exact ⟨fun k e => (by cases e), fun e => (by cases e), fun e => (by cases e)⟩
      | succ j =>
       cases j with
       | zero => cases h; cases hf; exact ⟨fun k e => (by cases e), fun e => (by cases e), fun e => (by cases e)⟩
       | succ j =>
        cases j with
        | zero => cases h; cases hf; exact ⟨fun k e => (by cases e), fun e => (by cases e), fun e => (by cases e)⟩
        | succ j =>
         cases h), Tryz.t39, rfl, rfl, fun _ _ => rfl⟩
theorem tn40 : TnOk Tryz.prog 40 (.st [.int .i64, .sl 159 (.st [.str, .int .i64, .sl 172 (.st [.int .i64, .sl 3 (.int .i64), .sl 3 (.int .i64)])]), .sl 164 (.st [.int .i64, .int .i64, .bool, .int .i64]), .sl 169 (.st [.sl 228 (.st [.int .i64, .int .i64]), .sl 25 (.sl 3 (.int .i64))]), .sl 3 (.int .i64)]) := ⟨⟨_, Tryz.underlying40, Tryz.eqGuardType40, Tryz.stoodInHeld40, rfl, fun j τ h => by
    cases j with
    | zero => cases h; exact ⟨_, _, rfl, rfl, by decide, by decide, Tryz.underlying3, rfl, fun us h => by cases h⟩
    | succ j =>
     cases j with
     | zero => cases h; exact ⟨_, _, rfl, rfl, by decide, by decide, Tryz.underlying36, rfl, fun us h => by cases h⟩
     | succ j =>
      cases j with
      | zero => cases h; exact ⟨_, _, rfl, rfl, by decide, by decide, Tryz.underlying37, rfl, fun us h => by cases h⟩
      | succ j =>
       cases j with
       | zero => cases h; exact ⟨_, _, rfl, rfl, by decide, by decide, Tryz.underlying38, rfl, fun us h => by cases h⟩
       | succ j =>
        cases j with
        | zero => cases h; exact ⟨_, _, rfl, rfl, by decide, by decide, Tryz.underlying25, rfl, fun us h => by cases h⟩
        | succ j =>
         cases h⟩, (fun us hus fs hfs j τ h f hf => by
    cases hus
    rw [Tryz.underlying40] at hfs
    cases hfs
    cases j with
    | zero => cases h; cases hf; exact ⟨fun k e => by cases e; exact Tryz.underlying3, fun e => (by cases e), fun e => (by cases e)⟩
    | succ j =>
     cases j with
     | zero => cases h; cases hf; exact ⟨fun k e => (by cases e), fun e => (by cases e), fun e => (by cases e)⟩
     | succ j =>
      cases j with
      | zero => cases h; cases hf; exact ⟨fun k e => (by cases e), fun e => (by cases e), fun e => (by cases e)⟩
      | succ j =>
       cases j with
       | zero => cases h; cases hf; exact ⟨fun k e => (by cases e), fun e => (by cases e), fun e => (by cases e)⟩
       | succ j =>
        cases j with
        | zero => cases h; cases hf; exact ⟨fun k e => (by cases e), fun e => (by cases e), fun e => (by cases e)⟩
        | succ j =>
         cases h), Tryz.t40, rfl, rfl, fun _ _ => rfl⟩
theorem tn41 : TnOk Tryz.prog 41 (.fn [.st [.int .i64, .sl 150 (.st [.str, .int .i64, .sl 242 (.st [.int .i64, .sl 3 (.int .i64), .sl 3 (.int .i64)])]), .sl 166 (.st [.int .i64, .int .i64, .bool, .int .i64]), .sl 154 (.st [.sl 247 (.st [.int .i64, .int .i64]), .sl 25 (.sl 3 (.int .i64))]), .sl 3 (.int .i64)]] (.st [.int .i64, .sl 159 (.st [.str, .int .i64, .sl 172 (.st [.int .i64, .sl 3 (.int .i64), .sl 3 (.int .i64)])]), .sl 164 (.st [.int .i64, .int .i64, .bool, .int .i64]), .sl 169 (.st [.sl 228 (.st [.int .i64, .int .i64]), .sl 25 (.sl 3 (.int .i64))]), .sl 3 (.int .i64)])) := ⟨⟨_, _, _, Tryz.underlying41⟩, fun _ h => (by cases h), Tryz.t41, rfl, rfl, fun _ h => by cases h⟩
theorem tn42 : TnOk Tryz.prog 42 (.st [.sl 3 (.int .i64), .sl 3 (.int .i64)]) := ⟨⟨_, Tryz.underlying42, Tryz.eqGuardType42, Tryz.stoodInHeld42, rfl, fun j τ h => by
    cases j with
    | zero => cases h; exact ⟨_, _, rfl, rfl, by decide, by decide, Tryz.underlying25, rfl, fun us h => by cases h⟩
    | succ j =>
     cases j with
     | zero => cases h; exact ⟨_, _, rfl, rfl, by decide, by decide, Tryz.underlying25, rfl, fun us h => by cases h⟩
     | succ j =>
      cases h⟩, (fun us hus fs hfs j τ h f hf => by
    cases hus
    rw [Tryz.underlying42] at hfs
    cases hfs
    cases j with
    | zero => cases h; cases hf; exact ⟨fun k e => (by cases e), fun e => (by cases e), fun e => (by cases e)⟩
    | succ j =>
     cases j with
     | zero => cases h; cases hf; exact ⟨fun k e => (by cases e), fun e => (by cases e), fun e => (by cases e)⟩
     | succ j =>
      cases h), Tryz.t42, rfl, rfl, fun _ _ => rfl⟩
theorem tn46 : TnOk Tryz.prog 46 (.fn [.st [.int .i64, .sl 159 (.st [.str, .int .i64, .sl 172 (.st [.int .i64, .sl 3 (.int .i64), .sl 3 (.int .i64)])]), .sl 164 (.st [.int .i64, .int .i64, .bool, .int .i64]), .sl 169 (.st [.sl 228 (.st [.int .i64, .int .i64]), .sl 25 (.sl 3 (.int .i64))]), .sl 3 (.int .i64)], .st [.int .i64, .sl 159 (.st [.str, .int .i64, .sl 172 (.st [.int .i64, .sl 3 (.int .i64), .sl 3 (.int .i64)])]), .sl 164 (.st [.int .i64, .int .i64, .bool, .int .i64]), .sl 169 (.st [.sl 228 (.st [.int .i64, .int .i64]), .sl 25 (.sl 3 (.int .i64))]), .sl 3 (.int .i64)]] (.bool)) := ⟨⟨_, _, _, Tryz.underlying46⟩, fun _ h => (by cases h), Tryz.t46, rfl, rfl, fun _ h => by cases h⟩
theorem tn49 : TnOk Tryz.prog 49 (.st [.int .i64, .int .i64, .int .i64, .int .i64]) := ⟨⟨_, Tryz.underlying49, Tryz.eqGuardType49, Tryz.stoodInHeld49, rfl, fun j τ h => by
    cases j with
    | zero => cases h; exact ⟨_, _, rfl, rfl, by decide, by decide, Tryz.underlying3, rfl, fun us h => by cases h⟩
    | succ j =>
     cases j with
     | zero => cases h; exact ⟨_, _, rfl, rfl, by decide, by decide, Tryz.underlying3, rfl, fun us h => by cases h⟩
     | succ j =>
      cases j with
      | zero => cases h; exact ⟨_, _, rfl, rfl, by decide, by decide, Tryz.underlying3, rfl, fun us h => by cases h⟩
      | succ j =>
       cases j with
       | zero => cases h; exact ⟨_, _, rfl, rfl, by decide, by decide, Tryz.underlying3, rfl, fun us h => by cases h⟩
       | succ j =>
        cases h⟩, (fun us hus fs hfs j τ h f hf => by
    cases hus
    rw [Tryz.underlying49] at hfs
    cases hfs
    cases j with
    | zero => cases h; cases hf; exact ⟨fun k e => by cases e; exact Tryz.underlying3, fun e => (by cases e), fun e => (by cases e)⟩
    | succ j =>
     cases j with
     | zero => cases h; cases hf; exact ⟨fun k e => by cases e; exact Tryz.underlying3, fun e => (by cases e), fun e => (by cases e)⟩
     | succ j =>
      cases j with
      | zero => cases h; cases hf; exact ⟨fun k e => by cases e; exact Tryz.underlying3, fun e => (by cases e), fun e => (by cases e)⟩
      | succ j =>
       cases j with
       | zero => cases h; cases hf; exact ⟨fun k e => by cases e; exact Tryz.underlying3, fun e => (by cases e), fun e => (by cases e)⟩
       | succ j =>
        cases h), Tryz.t49, rfl, rfl, fun _ _ => rfl⟩
theorem tn54 : TnOk Tryz.prog 54 (.st [.int .i64, .int .i64, .int .i64, .int .i64]) := ⟨⟨_, Tryz.underlying54, Tryz.eqGuardType54, Tryz.stoodInHeld54, rfl, fun j τ h => by
    cases j with
    | zero => cases h; exact ⟨_, _, rfl, rfl, by decide, by decide, Tryz.underlying3, rfl, fun us h => by cases h⟩
    | succ j =>
     cases j with
     | zero => cases h; exact ⟨_, _, rfl, rfl, by decide, by decide, Tryz.underlying3, rfl, fun us h => by cases h⟩
     | succ j =>
      cases j with
      | zero => cases h; exact ⟨_, _, rfl, rfl, by decide, by decide, Tryz.underlying3, rfl, fun us h => by cases h⟩
      | succ j =>
       cases j with
       | zero => cases h; exact ⟨_, _, rfl, rfl, by decide, by decide, Tryz.underlying3, rfl, fun us h => by cases h⟩
       | succ j =>
        cases h⟩, (fun us hus fs hfs j τ h f hf => by
    cases hus
    rw [Tryz.underlying54] at hfs
    cases hfs
    cases j with
    | zero => cases h; cases hf; exact ⟨fun k e => by cases e; exact Tryz.underlying3, fun e => (by cases e), fun e => (by cases e)⟩
    | succ j =>
     cases j with
     | zero => cases h; cases hf; exact ⟨fun k e => by cases e; exact Tryz.underlying3, fun e => (by cases e), fun e => (by cases e)⟩
     | succ j =>
      cases j with
      | zero => cases h; cases hf; exact ⟨fun k e => by cases e; exact Tryz.underlying3, fun e => (by cases e), fun e => (by cases e)⟩
      | succ j =>
       cases j with
       | zero => cases h; cases hf; exact ⟨fun k e => by cases e; exact Tryz.underlying3, fun e => (by cases e), fun e => (by cases e)⟩
       | succ j =>
        cases h), Tryz.t54, rfl, rfl, fun _ _ => rfl⟩
theorem tn62 : TnOk Tryz.prog 62 (.fn [.st [.int .i64, .sl 159 (.st [.str, .int .i64, .sl 172 (.st [.int .i64, .sl 3 (.int .i64), .sl 3 (.int .i64)])]), .sl 164 (.st [.int .i64, .int .i64, .bool, .int .i64]), .sl 169 (.st [.sl 228 (.st [.int .i64, .int .i64]), .sl 25 (.sl 3 (.int .i64))]), .sl 3 (.int .i64)], .int .i64] (.int .i64)) := ⟨⟨_, _, _, Tryz.underlying62⟩, fun _ h => (by cases h), Tryz.t62, rfl, rfl, fun _ h => by cases h⟩
theorem tn64 : TnOk Tryz.prog 64 (.fn [.st [.sl 3 (.int .i64), .sl 3 (.int .i64)], .int .i64] (.int .i64)) := ⟨⟨_, _, _, Tryz.underlying64⟩, fun _ h => (by cases h), Tryz.t64, rfl, rfl, fun _ h => by cases h⟩
theorem tn66 : TnOk Tryz.prog 66 (.fn [.st [.int .i64, .sl 159 (.st [.str, .int .i64, .sl 172 (.st [.int .i64, .sl 3 (.int .i64), .sl 3 (.int .i64)])]), .sl 164 (.st [.int .i64, .int .i64, .bool, .int .i64]), .sl 169 (.st [.sl 228 (.st [.int .i64, .int .i64]), .sl 25 (.sl 3 (.int .i64))]), .sl 3 (.int .i64)], .st [.sl 3 (.int .i64), .sl 3 (.int .i64)]] (.tup [.st [.sl 3 (.int .i64), .sl 3 (.int .i64)], .bool])) := ⟨⟨_, _, _, Tryz.underlying66⟩, fun _ h => (by cases h), Tryz.t66, rfl, rfl, fun _ h => by cases h⟩
theorem tn67 : TnOk Tryz.prog 67 (.fn [.st [.sl 3 (.int .i64), .sl 3 (.int .i64)]] (.st [.sl 3 (.int .i64), .sl 3 (.int .i64)])) := ⟨⟨_, _, _, Tryz.underlying67⟩, fun _ h => (by cases h), Tryz.t67, rfl, rfl, fun _ h => by cases h⟩
theorem tn68 : TnOk Tryz.prog 68 (.fn [.st [.sl 3 (.int .i64), .sl 3 (.int .i64)], .st [.sl 3 (.int .i64), .sl 3 (.int .i64)]] (.bool)) := ⟨⟨_, _, _, Tryz.underlying68⟩, fun _ h => (by cases h), Tryz.t68, rfl, rfl, fun _ h => by cases h⟩
theorem tn69 : TnOk Tryz.prog 69 (.fn [.st [.sl 3 (.int .i64), .sl 3 (.int .i64)], .int .i64] (.int .i64)) := ⟨⟨_, _, _, Tryz.underlying69⟩, fun _ h => (by cases h), Tryz.t69, rfl, rfl, fun _ h => by cases h⟩
theorem tn70 : TnOk Tryz.prog 70 (.fn [.st [.int .i64, .sl 150 (.st [.str, .int .i64, .sl 242 (.st [.int .i64, .sl 3 (.int .i64), .sl 3 (.int .i64)])]), .sl 166 (.st [.int .i64, .int .i64, .bool, .int .i64]), .sl 154 (.st [.sl 247 (.st [.int .i64, .int .i64]), .sl 25 (.sl 3 (.int .i64))]), .sl 3 (.int .i64)], .st [.sl 3 (.int .i64), .sl 3 (.int .i64)]] (.bool)) := ⟨⟨_, _, _, Tryz.underlying70⟩, fun _ h => (by cases h), Tryz.t70, rfl, rfl, fun _ h => by cases h⟩
theorem tn74 : TnOk Tryz.prog 74 (.sl 25 (.sl 3 (.int .i64))) := ⟨⟨Tryz.underlying74, Tryz.t25, _, rfl, rfl, rfl, rfl, by decide, by decide, fun _ _ => rfl, fun k h => by cases h⟩, fun _ h => (by cases h), Tryz.t74, rfl, rfl, fun _ _ => rfl⟩
theorem tn92 : TnOk Tryz.prog 92 (.fn [.sl 150 (.st [.str, .int .i64, .sl 242 (.st [.int .i64, .sl 3 (.int .i64), .sl 3 (.int .i64)])]), .int .i64] (.int .i64)) := ⟨⟨_, _, _, Tryz.underlying92⟩, fun _ h => (by cases h), Tryz.t92, rfl, rfl, fun _ h => by cases h⟩
theorem tn93 : TnOk Tryz.prog 93 (.fn [.sl 166 (.st [.int .i64, .int .i64, .bool, .int .i64]), .int .i64] (.int .i64)) := ⟨⟨_, _, _, Tryz.underlying93⟩, fun _ h => (by cases h), Tryz.t93, rfl, rfl, fun _ h => by cases h⟩
theorem tn94 : TnOk Tryz.prog 94 (.fn [.sl 154 (.st [.sl 247 (.st [.int .i64, .int .i64]), .sl 25 (.sl 3 (.int .i64))]), .int .i64] (.int .i64)) := ⟨⟨_, _, _, Tryz.underlying94⟩, fun _ h => (by cases h), Tryz.t94, rfl, rfl, fun _ h => by cases h⟩
theorem tn95 : TnOk Tryz.prog 95 (.fn [.sl 3 (.int .i64), .int .i64] (.int .i64)) := ⟨⟨_, _, _, Tryz.underlying95⟩, fun _ h => (by cases h), Tryz.t95, rfl, rfl, fun _ h => by cases h⟩
theorem tn97 : TnOk Tryz.prog 97 (.fn [.int .i64, .int .i64] (.int .i64)) := ⟨⟨_, _, _, Tryz.underlying97⟩, fun _ h => (by cases h), Tryz.t97, rfl, rfl, fun _ h => by cases h⟩
theorem tn99 : TnOk Tryz.prog 99 (.fn [.sl 150 (.st [.str, .int .i64, .sl 242 (.st [.int .i64, .sl 3 (.int .i64), .sl 3 (.int .i64)])])] (.sl 159 (.st [.str, .int .i64, .sl 172 (.st [.int .i64, .sl 3 (.int .i64), .sl 3 (.int .i64)])]))) := ⟨⟨_, _, _, Tryz.underlying99⟩, fun _ h => (by cases h), Tryz.t99, rfl, rfl, fun _ h => by cases h⟩
theorem tn100 : TnOk Tryz.prog 100 (.fn [.sl 166 (.st [.int .i64, .int .i64, .bool, .int .i64])] (.sl 164 (.st [.int .i64, .int .i64, .bool, .int .i64]))) := ⟨⟨_, _, _, Tryz.underlying100⟩, fun _ h => (by cases h), Tryz.t100, rfl, rfl, fun _ h => by cases h⟩
theorem tn101 : TnOk Tryz.prog 101 (.fn [.sl 154 (.st [.sl 247 (.st [.int .i64, .int .i64]), .sl 25 (.sl 3 (.int .i64))])] (.sl 169 (.st [.sl 228 (.st [.int .i64, .int .i64]), .sl 25 (.sl 3 (.int .i64))]))) := ⟨⟨_, _, _, Tryz.underlying101⟩, fun _ h => (by cases h), Tryz.t101, rfl, rfl, fun _ h => by cases h⟩
theorem tn102 : TnOk Tryz.prog 102 (.fn [.sl 3 (.int .i64)] (.sl 3 (.int .i64))) := ⟨⟨_, _, _, Tryz.underlying102⟩, fun _ h => (by cases h), Tryz.t102, rfl, rfl, fun _ h => by cases h⟩
theorem tn103 : TnOk Tryz.prog 103 (.fn [.sl 159 (.st [.str, .int .i64, .sl 172 (.st [.int .i64, .sl 3 (.int .i64), .sl 3 (.int .i64)])]), .sl 159 (.st [.str, .int .i64, .sl 172 (.st [.int .i64, .sl 3 (.int .i64), .sl 3 (.int .i64)])])] (.bool)) := ⟨⟨_, _, _, Tryz.underlying103⟩, fun _ h => (by cases h), Tryz.t103, rfl, rfl, fun _ h => by cases h⟩
theorem tn104 : TnOk Tryz.prog 104 (.fn [.sl 164 (.st [.int .i64, .int .i64, .bool, .int .i64]), .sl 164 (.st [.int .i64, .int .i64, .bool, .int .i64])] (.bool)) := ⟨⟨_, _, _, Tryz.underlying104⟩, fun _ h => (by cases h), Tryz.t104, rfl, rfl, fun _ h => by cases h⟩
theorem tn105 : TnOk Tryz.prog 105 (.fn [.sl 169 (.st [.sl 228 (.st [.int .i64, .int .i64]), .sl 25 (.sl 3 (.int .i64))]), .sl 169 (.st [.sl 228 (.st [.int .i64, .int .i64]), .sl 25 (.sl 3 (.int .i64))])] (.bool)) := ⟨⟨_, _, _, Tryz.underlying105⟩, fun _ h => (by cases h), Tryz.t105, rfl, rfl, fun _ h => by cases h⟩
theorem tn106 : TnOk Tryz.prog 106 (.fn [.sl 3 (.int .i64), .sl 3 (.int .i64)] (.bool)) := ⟨⟨_, _, _, Tryz.underlying106⟩, fun _ h => (by cases h), Tryz.t106, rfl, rfl, fun _ h => by cases h⟩
theorem tn118 : TnOk Tryz.prog 118 (.fn [.sl 159 (.st [.str, .int .i64, .sl 172 (.st [.int .i64, .sl 3 (.int .i64), .sl 3 (.int .i64)])]), .int .i64] (.int .i64)) := ⟨⟨_, _, _, Tryz.underlying118⟩, fun _ h => (by cases h), Tryz.t118, rfl, rfl, fun _ h => by cases h⟩
theorem tn119 : TnOk Tryz.prog 119 (.fn [.sl 164 (.st [.int .i64, .int .i64, .bool, .int .i64]), .int .i64] (.int .i64)) := ⟨⟨_, _, _, Tryz.underlying119⟩, fun _ h => (by cases h), Tryz.t119, rfl, rfl, fun _ h => by cases h⟩
theorem tn120 : TnOk Tryz.prog 120 (.fn [.sl 169 (.st [.sl 228 (.st [.int .i64, .int .i64]), .sl 25 (.sl 3 (.int .i64))]), .int .i64] (.int .i64)) := ⟨⟨_, _, _, Tryz.underlying120⟩, fun _ h => (by cases h), Tryz.t120, rfl, rfl, fun _ h => by cases h⟩
theorem tn121 : TnOk Tryz.prog 121 (.fn [.st [.int .i64, .sl 159 (.st [.str, .int .i64, .sl 172 (.st [.int .i64, .sl 3 (.int .i64), .sl 3 (.int .i64)])]), .sl 164 (.st [.int .i64, .int .i64, .bool, .int .i64]), .sl 169 (.st [.sl 228 (.st [.int .i64, .int .i64]), .sl 25 (.sl 3 (.int .i64))]), .sl 3 (.int .i64)], .st [.sl 3 (.int .i64), .sl 3 (.int .i64)]] (.bool)) := ⟨⟨_, _, _, Tryz.underlying121⟩, fun _ h => (by cases h), Tryz.t121, rfl, rfl, fun _ h => by cases h⟩
theorem tn122 : TnOk Tryz.prog 122 (.fn [.st [.int .i64, .sl 159 (.st [.str, .int .i64, .sl 172 (.st [.int .i64, .sl 3 (.int .i64), .sl 3 (.int .i64)])]), .sl 164 (.st [.int .i64, .int .i64, .bool, .int .i64]), .sl 169 (.st [.sl 228 (.st [.int .i64, .int .i64]), .sl 25 (.sl 3 (.int .i64))]), .sl 3 (.int .i64)], .st [.sl 3 (.int .i64), .sl 3 (.int .i64)]] (.st [.sl 3 (.int .i64), .sl 3 (.int .i64)])) := ⟨⟨_, _, _, Tryz.underlying122⟩, fun _ h => (by cases h), Tryz.t122, rfl, rfl, fun _ h => by cases h⟩
theorem tn123 : TnOk Tryz.prog 123 (.fn [] (.st [.sl 3 (.int .i64), .sl 3 (.int .i64)])) := ⟨⟨_, _, _, Tryz.underlying123⟩, fun _ h => (by cases h), Tryz.t123, rfl, rfl, fun _ h => by cases h⟩
theorem tn124 : TnOk Tryz.prog 124 (.fn [.st [.sl 3 (.int .i64), .sl 3 (.int .i64)]] (.sl 3 (.int .i64))) := ⟨⟨_, _, _, Tryz.underlying124⟩, fun _ h => (by cases h), Tryz.t124, rfl, rfl, fun _ h => by cases h⟩
theorem tn128 : TnOk Tryz.prog 128 (.fn [.sl 25 (.sl 3 (.int .i64)), .int .i64] (.int .i64)) := ⟨⟨_, _, _, Tryz.underlying128⟩, fun _ h => (by cases h), Tryz.t128, rfl, rfl, fun _ h => by cases h⟩
theorem tn135 : TnOk Tryz.prog 135 (.fn [.sl 25 (.sl 3 (.int .i64))] (.sl 25 (.sl 3 (.int .i64)))) := ⟨⟨_, _, _, Tryz.underlying135⟩, fun _ h => (by cases h), Tryz.t135, rfl, rfl, fun _ h => by cases h⟩
theorem tn140 : TnOk Tryz.prog 140 (.fn [.sl 25 (.sl 3 (.int .i64)), .sl 25 (.sl 3 (.int .i64))] (.bool)) := ⟨⟨_, _, _, Tryz.underlying140⟩, fun _ h => (by cases h), Tryz.t140, rfl, rfl, fun _ h => by cases h⟩
theorem tn142 : TnOk Tryz.prog 142 (.fn [.int .i64, .int .i64, .int .i64] (.bool)) := ⟨⟨_, _, _, Tryz.underlying142⟩, fun _ h => (by cases h), Tryz.t142, rfl, rfl, fun _ h => by cases h⟩
theorem tn143 : TnOk Tryz.prog 143 (.fn [.st [.sl 3 (.int .i64), .sl 3 (.int .i64)]] (.st [.sl 3 (.int .i64), .sl 3 (.int .i64)])) := ⟨⟨_, _, _, Tryz.underlying143⟩, fun _ h => (by cases h), Tryz.t143, rfl, rfl, fun _ h => by cases h⟩
theorem tn144 : TnOk Tryz.prog 144 (.fn [.int .i64] (.bool)) := ⟨⟨_, _, _, Tryz.underlying144⟩, fun _ h => (by cases h), Tryz.t144, rfl, rfl, fun _ h => by cases h⟩
theorem tn147 : TnOk Tryz.prog 147 (.fn [.st [.str, .int .i64, .sl 242 (.st [.int .i64, .sl 3 (.int .i64), .sl 3 (.int .i64)])], .int .i64] (.int .i64)) := ⟨⟨_, _, _, Tryz.underlying147⟩, fun _ h => (by cases h), Tryz.t147, rfl, rfl, fun _ h => by cases h⟩
theorem tn148 : TnOk Tryz.prog 148 (.sl 242 (.st [.int .i64, .sl 3 (.int .i64), .sl 3 (.int .i64)])) := ⟨⟨Tryz.underlying148, Tryz.t242, _, rfl, rfl, rfl, rfl, by decide, by decide, fun _ _ => rfl, fun k h => by cases h⟩, fun _ h => (by cases h), Tryz.t148, rfl, rfl, fun _ _ => rfl⟩
theorem tn149 : TnOk Tryz.prog 149 (.st [.str, .int .i64, .sl 242 (.st [.int .i64, .sl 3 (.int .i64), .sl 3 (.int .i64)])]) := ⟨⟨_, Tryz.underlying149, Tryz.eqGuardType149, Tryz.stoodInHeld149, rfl, fun j τ h => by
    cases j with
    | zero => cases h; exact ⟨_, _, rfl, rfl, by decide, by decide, Tryz.underlying9, rfl, fun us h => by cases h⟩
    | succ j =>
     cases j with
     | zero => cases h; exact ⟨_, _, rfl, rfl, by decide, by decide, Tryz.underlying3, rfl, fun us h => by cases h⟩
     | succ j =>
      cases j with
      | zero => cases h; exact ⟨_, _, rfl, rfl, by decide, by decide, Tryz.underlying148, rfl, fun us h => by cases h⟩
      | succ j =>
       cases h⟩, (fun us hus fs hfs j τ h f hf => by
    cases hus
    rw [Tryz.underlying149] at hfs
    cases hfs
    cases j with
    | zero => cases h; cases hf; exact ⟨fun k e => (by cases e), fun e => (by cases e), fun _ => Tryz.underlying9⟩
    | succ j =>
     cases j with
     | zero => cases h; cases hf; exact ⟨fun k e => by cases e; exact Tryz.underlying3, fun e => (by cases e), fun e => (by cases e)⟩
     | succ j =>
      cases j with
      | zero => cases h; cases hf; exact ⟨fun k e => (by cases e), fun e => (by cases e), fun e => (by cases e)⟩
      | succ j =>
       cases h), Tryz.t149, rfl, rfl, fun _ _ => rfl⟩
theorem tn150 : TnOk Tryz.prog 150 (.st [.str, .int .i64, .sl 242 (.st [.int .i64, .sl 3 (.int .i64), .sl 3 (.int .i64)])]) := ⟨⟨_, Tryz.underlying150, Tryz.eqGuardType150, Tryz.stoodInHeld150, rfl, fun j τ h => by
    cases j with
    | zero => cases h; exact ⟨_, _, rfl, rfl, by decide, by decide, Tryz.underlying9, rfl, fun us h => by cases h⟩
    | succ j =>
     cases j with
     | zero => cases h; exact ⟨_, _, rfl, rfl, by decide, by decide, Tryz.underlying3, rfl, fun us h => by cases h⟩
     | succ j =>
      cases j with
      | zero => cases h; exact ⟨_, _, rfl, rfl, by decide, by decide, Tryz.underlying148, rfl, fun us h => by cases h⟩
      | succ j =>
       cases h⟩, (fun us hus fs hfs j τ h f hf => by
    cases hus
    rw [Tryz.underlying150] at hfs
    cases hfs
    cases j with
    | zero => cases h; cases hf; exact ⟨fun k e => (by cases e), fun e => (by cases e), fun _ => Tryz.underlying9⟩
    | succ j =>
     cases j with
     | zero => cases h; cases hf; exact ⟨fun k e => by cases e; exact Tryz.underlying3, fun e => (by cases e), fun e => (by cases e)⟩
     | succ j =>
      cases j with
      | zero => cases h; cases hf; exact ⟨fun k e => (by cases e), fun e => (by cases e), fun e => (by cases e)⟩
      | succ j =>
       cases h), Tryz.t150, rfl, rfl, fun _ _ => rfl⟩
theorem tn151 : TnOk Tryz.prog 151 (.fn [.st [.sl 247 (.st [.int .i64, .int .i64]), .sl 25 (.sl 3 (.int .i64))], .int .i64] (.int .i64)) := ⟨⟨_, _, _, Tryz.underlying151⟩, fun _ h => (by cases h), Tryz.t151, rfl, rfl, fun _ h => by cases h⟩
theorem tn152 : TnOk Tryz.prog 152 (.sl 247 (.st [.int .i64, .int .i64])) := ⟨⟨Tryz.underlying152, Tryz.t247, _, rfl, rfl, rfl, rfl, by decide, by decide, fun _ _ => rfl, fun k h => by cases h⟩, fun _ h => (by cases h), Tryz.t152, rfl, rfl, fun _ _ => rfl⟩
theorem tn153 : TnOk Tryz.prog 153 (.st [.sl 247 (.st [.int .i64, .int .i64]), .sl 25 (.sl 3 (.int .i64))]) := ⟨⟨_, Tryz.underlying153, Tryz.eqGuardType153, Tryz.stoodInHeld153, rfl, fun j τ h => by
    cases j with
    | zero => cases h; exact ⟨_, _, rfl, rfl, by decide, by decide, Tryz.underlying152, rfl, fun us h => by cases h⟩
    | succ j =>
     cases j with
     | zero => cases h; exact ⟨_, _, rfl, rfl, by decide, by decide, Tryz.underlying74, rfl, fun us h => by cases h⟩
     | succ j =>
      cases h⟩, (fun us hus fs hfs j τ h f hf => by
    cases hus
    rw [Tryz.underlying153] at hfs
    cases hfs
    cases j with
    | zero => cases h; cases hf; exact ⟨fun k e => (by cases e), fun e => (by cases e), fun e => (by cases e)⟩
    | succ j =>
     cases j with
     | zero => cases h; cases hf; exact ⟨fun k e => (by cases e), fun e => (by cases e), fun e => (by cases e)⟩
     | succ j =>
      cases h), Tryz.t153, rfl, rfl, fun _ _ => rfl⟩
theorem tn154 : TnOk Tryz.prog 154 (.st [.sl 247 (.st [.int .i64, .int .i64]), .sl 25 (.sl 3 (.int .i64))]) := ⟨⟨_, Tryz.underlying154, Tryz.eqGuardType154, Tryz.stoodInHeld154, rfl, fun j τ h => by
    cases j with
    | zero => cases h; exact ⟨_, _, rfl, rfl, by decide, by decide, Tryz.underlying152, rfl, fun us h => by cases h⟩
    | succ j =>
     cases j with
     | zero => cases h; exact ⟨_, _, rfl, rfl, by decide, by decide, Tryz.underlying74, rfl, fun us h => by cases h⟩
     | succ j =>
      cases h⟩, (fun us hus fs hfs j τ h f hf => by
    cases hus
    rw [Tryz.underlying154] at hfs
    cases hfs
    cases j with
    | zero => cases h; cases hf; exact ⟨fun k e => (by cases e), fun e => (by cases e), fun e => (by cases e)⟩
    | succ j =>
     cases j with
     | zero => cases h; cases hf; exact ⟨fun k e => (by cases e), fun e => (by cases e), fun e => (by cases e)⟩
     | succ j =>
      cases h), Tryz.t154, rfl, rfl, fun _ _ => rfl⟩
theorem tn156 : TnOk Tryz.prog 156 (.fn [.sl 3 (.int .i64), .int .i64] (.bool)) := ⟨⟨_, _, _, Tryz.underlying156⟩, fun _ h => (by cases h), Tryz.t156, rfl, rfl, fun _ h => by cases h⟩
theorem tn157 : TnOk Tryz.prog 157 (.sl 172 (.st [.int .i64, .sl 3 (.int .i64), .sl 3 (.int .i64)])) := ⟨⟨Tryz.underlying157, Tryz.t172, _, rfl, rfl, rfl, rfl, by decide, by decide, fun _ _ => rfl, fun k h => by cases h⟩, fun _ h => (by cases h), Tryz.t157, rfl, rfl, fun _ _ => rfl⟩
theorem tn158 : TnOk Tryz.prog 158 (.st [.str, .int .i64, .sl 172 (.st [.int .i64, .sl 3 (.int .i64), .sl 3 (.int .i64)])]) := ⟨⟨_, Tryz.underlying158, Tryz.eqGuardType158, Tryz.stoodInHeld158, rfl, fun j τ h => by
    cases j with
    | zero => cases h; exact ⟨_, _, rfl, rfl, by decide, by decide, Tryz.underlying9, rfl, fun us h => by cases h⟩
    | succ j =>
     cases j with
     | zero => cases h; exact ⟨_, _, rfl, rfl, by decide, by decide, Tryz.underlying3, rfl, fun us h => by cases h⟩
     | succ j =>
      cases j with
      | zero => cases h; exact ⟨_, _, rfl, rfl, by decide, by decide, Tryz.underlying157, rfl, fun us h => by cases h⟩
      | succ j =>
       cases h⟩, (fun us hus fs hfs j τ h f hf => by
    cases hus
    rw [Tryz.underlying158] at hfs
    cases hfs
    cases j with
    | zero => cases h; cases hf; exact ⟨fun k e => (by cases e), fun e => (by cases e), fun _ => Tryz.underlying9⟩
    | succ j =>
     cases j with
     | zero => cases h; cases hf; exact ⟨fun k e => by cases e; exact Tryz.underlying3, fun e => (by cases e), fun e => (by cases e)⟩
     | succ j =>
      cases j with
      | zero => cases h; cases hf; exact ⟨fun k e => (by cases e), fun e => (by cases e), fun e => (by cases e)⟩
      | succ j =>
       cases h), Tryz.t158, rfl, rfl, fun _ _ => rfl⟩
theorem tn159 : TnOk Tryz.prog 159 (.st [.str, .int .i64, .sl 172 (.st [.int .i64, .sl 3 (.int .i64), .sl 3 (.int .i64)])]) := ⟨⟨_, Tryz.underlying159, Tryz.eqGuardType159, Tryz.stoodInHeld159, rfl, fun j τ h => by
    cases j with
    | zero => cases h; exact ⟨_, _, rfl, rfl, by decide, by decide, Tryz.underlying9, rfl, fun us h => by cases h⟩
    | succ j =>
     cases j with
     | zero => cases h; exact ⟨_, _, rfl, rfl, by decide, by decide, Tryz.underlying3, rfl, fun us h => by cases h⟩
     | succ j =>
      cases j with
      | zero => cases h; exact ⟨_, _, rfl, rfl, by decide, by decide, Tryz.underlying157, rfl, fun us h => by cases h⟩
      | succ j =>
       cases h⟩, (fun us hus fs hfs j τ h f hf => by
    cases hus
    rw [Tryz.underlying159] at hfs
    cases hfs
    cases j with
    | zero => cases h; cases hf; exact ⟨fun k e => (by cases e), fun e => (by cases e), fun _ => Tryz.underlying9⟩
    | succ j =>
     cases j with
     | zero => cases h; cases hf; exact ⟨fun k e => by cases e; exact Tryz.underlying3, fun e => (by cases e), fun e => (by cases e)⟩
     | succ j =>
      cases j with
      | zero => cases h; cases hf; exact ⟨fun k e => (by cases e), fun e => (by cases e), fun e => (by cases e)⟩
      | succ j =>
       cases h), Tryz.t159, rfl, rfl, fun _ _ => rfl⟩
theorem tn160 : TnOk Tryz.prog 160 (.fn [.st [.int .i64, .sl 159 (.st [.str, .int .i64, .sl 172 (.st [.int .i64, .sl 3 (.int .i64), .sl 3 (.int .i64)])]), .sl 164 (.st [.int .i64, .int .i64, .bool, .int .i64]), .sl 169 (.st [.sl 228 (.st [.int .i64, .int .i64]), .sl 25 (.sl 3 (.int .i64))]), .sl 3 (.int .i64)], .st [.sl 3 (.int .i64), .sl 3 (.int .i64)], .int .i64] (.int .i64)) := ⟨⟨_, _, _, Tryz.underlying160⟩, fun _ h => (by cases h), Tryz.t160, rfl, rfl, fun _ h => by cases h⟩
theorem tn162 : TnOk Tryz.prog 162 (.fn [.st [.str, .int .i64, .sl 242 (.st [.int .i64, .sl 3 (.int .i64), .sl 3 (.int .i64)])]] (.st [.str, .int .i64, .sl 172 (.st [.int .i64, .sl 3 (.int .i64), .sl 3 (.int .i64)])])) := ⟨⟨_, _, _, Tryz.underlying162⟩, fun _ h => (by cases h), Tryz.t162, rfl, rfl, fun _ h => by cases h⟩
theorem tn163 : TnOk Tryz.prog 163 (.st [.int .i64, .int .i64, .bool, .int .i64]) := ⟨⟨_, Tryz.underlying163, Tryz.eqGuardType163, Tryz.stoodInHeld163, rfl, fun j τ h => by
    cases j with
    | zero => cases h; exact ⟨_, _, rfl, rfl, by decide, by decide, Tryz.underlying3, rfl, fun us h => by cases h⟩
    | succ j =>
     cases j with
     | zero => cases h; exact ⟨_, _, rfl, rfl, by decide, by decide, Tryz.underlying3, rfl, fun us h => by cases h⟩
     | succ j =>
      cases j with
      | zero => cases h; exact ⟨_, _, rfl, rfl, by decide, by decide, Tryz.underlying4, rfl, fun us h => by cases h⟩
      | succ j =>
       cases j with
       | zero => cases h; exact ⟨_, _, rfl, rfl, by decide, by decide, Tryz.underlying3, rfl, fun us h => by cases h⟩
       | succ j =>
        cases h⟩, (fun us hus fs hfs j τ h f hf => by
    cases hus
    rw [Tryz.underlying163] at hfs
    cases hfs
    cases j with
    | zero => cases h; cases hf; exact ⟨fun k e => by cases e; exact Tryz.underlying3, fun e => (by cases e), fun e => (by cases e)⟩
    | succ j =>
     cases j with
     | zero => cases h; cases hf; exact ⟨fun k e => by cases e; exact Tryz.underlying3, fun e => (by cases e), fun e => (by cases e)⟩
     | succ j =>
      cases j with
      | zero => cases h; cases hf; exact ⟨fun k e => (by cases e), fun _ => Tryz.underlying4, fun e => (by cases e)⟩
      | succ j =>
       cases j with
       | zero => cases h; cases hf; exact ⟨fun k e => by cases e; exact Tryz.underlying3, fun e => (by cases e), fun e => (by cases e)⟩
       | succ j =>
        cases h), Tryz.t163, rfl, rfl, fun _ _ => rfl⟩
theorem tn164 : TnOk Tryz.prog 164 (.st [.int .i64, .int .i64, .bool, .int .i64]) := ⟨⟨_, Tryz.underlying164, Tryz.eqGuardType164, Tryz.stoodInHeld164, rfl, fun j τ h => by
    cases j with
    | zero => cases h; exact ⟨_, _, rfl, rfl, by decide, by decide, Tryz.underlying3, rfl, fun us h => by cases h⟩
    | succ j =>
     cases j with
     | zero => cases h; exact ⟨_, _, rfl, rfl, by decide, by decide, Tryz.underlying3, rfl, fun us h => by cases h⟩
     | succ j =>
      cases j with
      | zero => cases h; exact ⟨_, _, rfl, rfl, by decide, by decide, Tryz.underlying4, rfl, fun us h => by cases h⟩
      | succ j =>
       cases j with
       | zero => cases h; exact ⟨_, _, rfl, rfl, by decide, by decide, Tryz.underlying3, rfl, fun us h => by cases h⟩
       | succ j =>
        cases h⟩, (fun us hus fs hfs j τ h f hf => by
    cases hus
    rw [Tryz.underlying164] at hfs
    cases hfs
    cases j with
    | zero => cases h; cases hf; exact ⟨fun k e => by cases e; exact Tryz.underlying3, fun e => (by cases e), fun e => (by cases e)⟩
    | succ j =>
     cases j with
     | zero => cases h; cases hf; exact ⟨fun k e => by cases e; exact Tryz.underlying3, fun e => (by cases e), fun e => (by cases e)⟩
     | succ j =>
      cases j with
      | zero => cases h; cases hf; exact ⟨fun k e => (by cases e), fun _ => Tryz.underlying4, fun e => (by cases e)⟩
      | succ j =>
       cases j with
       | zero => cases h; cases hf; exact ⟨fun k e => by cases e; exact Tryz.underlying3, fun e => (by cases e), fun e => (by cases e)⟩
       | succ j =>
        cases h), Tryz.t164, rfl, rfl, fun _ _ => rfl⟩
theorem tn165 : TnOk Tryz.prog 165 (.fn [.st [.int .i64, .int .i64, .bool, .int .i64]] (.st [.int .i64, .int .i64, .bool, .int .i64])) := ⟨⟨_, _, _, Tryz.underlying165⟩, fun _ h => (by cases h), Tryz.t165, rfl, rfl, fun _ h => by cases h⟩
theorem tn166 : TnOk Tryz.prog 166 (.st [.int .i64, .int .i64, .bool, .int .i64]) := ⟨⟨_, Tryz.underlying166, Tryz.eqGuardType166, Tryz.stoodInHeld166, rfl, fun j τ h => by
    cases j with
    | zero => cases h; exact ⟨_, _, rfl, rfl, by decide, by decide, Tryz.underlying3, rfl, fun us h => by cases h⟩
    | succ j =>
     cases j with
     | zero => cases h; exact ⟨_, _, rfl, rfl, by decide, by decide, Tryz.underlying3, rfl, fun us h => by cases h⟩
     | succ j =>
      cases j with
      | zero => cases h; exact ⟨_, _, rfl, rfl, by decide, by decide, Tryz.underlying4, rfl, fun us h => by cases h⟩
      | succ j =>
       cases j with
       | zero => cases h; exact ⟨_, _, rfl, rfl, by decide, by decide, Tryz.underlying3, rfl, fun us h => by cases h⟩
       | succ j =>
        cases h⟩, (fun us hus fs hfs j τ h f hf => by
    cases hus
    rw [Tryz.underlying166] at hfs
    cases hfs
    cases j with
    | zero => cases h; cases hf; exact ⟨fun k e => by cases e; exact Tryz.underlying3, fun e => (by cases e), fun e => (by cases e)⟩
    | succ j =>
     cases j with
     | zero => cases h; cases hf; exact ⟨fun k e => by cases e; exact Tryz.underlying3, fun e => (by cases e), fun e => (by cases e)⟩
     | succ j =>
      cases j with
      | zero => cases h; cases hf; exact ⟨fun k e => (by cases e), fun _ => Tryz.underlying4, fun e => (by cases e)⟩
      | succ j =>
       cases j with
       | zero => cases h; cases hf; exact ⟨fun k e => by cases e; exact Tryz.underlying3, fun e => (by cases e), fun e => (by cases e)⟩
       | succ j =>
        cases h), Tryz.t166, rfl, rfl, fun _ _ => rfl⟩
theorem tn167 : TnOk Tryz.prog 167 (.sl 228 (.st [.int .i64, .int .i64])) := ⟨⟨Tryz.underlying167, Tryz.t228, _, rfl, rfl, rfl, rfl, by decide, by decide, fun _ _ => rfl, fun k h => by cases h⟩, fun _ h => (by cases h), Tryz.t167, rfl, rfl, fun _ _ => rfl⟩
theorem tn168 : TnOk Tryz.prog 168 (.st [.sl 228 (.st [.int .i64, .int .i64]), .sl 25 (.sl 3 (.int .i64))]) := ⟨⟨_, Tryz.underlying168, Tryz.eqGuardType168, Tryz.stoodInHeld168, rfl, fun j τ h => by
    cases j with
    | zero => cases h; exact ⟨_, _, rfl, rfl, by decide, by decide, Tryz.underlying167, rfl, fun us h => by cases h⟩
    | succ j =>
     cases j with
     | zero => cases h; exact ⟨_, _, rfl, rfl, by decide, by decide, Tryz.underlying74, rfl, fun us h => by cases h⟩
     | succ j =>
      cases h⟩, (fun us hus fs hfs j τ h f hf => by
    cases hus
    rw [Tryz.underlying168] at hfs
    cases hfs
    cases j with
    | zero => cases h; cases hf; exact ⟨fun k e => (by cases e), fun e => (by cases e), fun e => (by cases e)⟩
    | succ j =>
     cases j with
     | zero => cases h; cases hf; exact ⟨fun k e => (by cases e), fun e => (by cases e), fun e => (by cases e)⟩
     | succ j =>
      cases h), Tryz.t168, rfl, rfl, fun _ _ => rfl⟩
theorem tn169 : TnOk Tryz.prog 169 (.st [.sl 228 (.st [.int .i64, .int .i64]), .sl 25 (.sl 3 (.int .i64))]) := ⟨⟨_, Tryz.underlying169, Tryz.eqGuardType169, Tryz.stoodInHeld169, rfl, fun j τ h => by
    cases j with
    | zero => cases h; exact ⟨_, _, rfl, rfl, by decide, by decide, Tryz.underlying167, rfl, fun us h => by cases h⟩
    | succ j =>
     cases j with
     | zero => cases h; exact ⟨_, _, rfl, rfl, by decide, by decide, Tryz.underlying74, rfl, fun us h => by cases h⟩
     | succ j =>
      cases h⟩, (fun us hus fs hfs j τ h f hf => by
    cases hus
    rw [Tryz.underlying169] at hfs
    cases hfs
    cases j with
    | zero => cases h; cases hf; exact ⟨fun k e => (by cases e), fun e => (by cases e), fun e => (by cases e)⟩
    | succ j =>
     cases j with
     | zero => cases h; cases hf; exact ⟨fun k e => (by cases e), fun e => (by cases e), fun e => (by cases e)⟩
     | succ j =>
      cases h), Tryz.t169, rfl, rfl, fun _ _ => rfl⟩
theorem tn170 : TnOk Tryz.prog 170 (.fn [.st [.sl 247 (.st [.int .i64, .int .i64]), .sl 25 (.sl 3 (.int .i64))]] (.st [.sl 228 (.st [.int .i64, .int .i64]), .sl 25 (.sl 3 (.int .i64))])) := ⟨⟨_, _, _, Tryz.underlying170⟩, fun _ h => (by cases h), Tryz.t170, rfl, rfl, fun _ h => by cases h⟩
theorem tn171 : TnOk Tryz.prog 171 (.st [.int .i64, .sl 3 (.int .i64), .sl 3 (.int .i64)]) := ⟨⟨_, Tryz.underlying171, Tryz.eqGuardType171, Tryz.stoodInHeld171, rfl, fun j τ h => by
    cases j with
    | zero => cases h; exact ⟨_, _, rfl, rfl, by decide, by decide, Tryz.underlying3, rfl, fun us h => by cases h⟩
    | succ j =>
     cases j with
     | zero => cases h; exact ⟨_, _, rfl, rfl, by decide, by decide, Tryz.underlying25, rfl, fun us h => by cases h⟩
     | succ j =>
      cases j with
      | zero => cases h; exact ⟨_, _, rfl, rfl, by decide, by decide, Tryz.underlying25, rfl, fun us h => by cases h⟩
      | succ j =>
       cases h⟩, (fun us hus fs hfs j τ h f hf => by
    cases hus
    rw [Tryz.underlying171] at hfs
    cases hfs
    cases j with
    | zero => cases h; cases hf; exact ⟨fun k e => by cases e; exact Tryz.underlying3, fun e => (by cases e), fun e => (by cases e)⟩
    | succ j =>
     cases j with
     | zero => cases h; cases hf; exact ⟨fun k e => (by cases e), fun e => (by cases e), fun e => (by cases e)⟩
     | succ j =>
      cases j with
      | zero => cases h; cases hf; exact ⟨fun k e => (by cases e), fun e => (by cases e), fun e => (by cases e)⟩
      | succ j =>
       cases h), Tryz.t171, rfl, rfl, fun _ _ => rfl⟩
theorem tn172 : TnOk Tryz.prog 172 (.st [.int .i64, .sl 3 (.int .i64), .sl 3 (.int .i64)]) := ⟨⟨_, Tryz.underlying172, Tryz.eqGuardType172, Tryz.stoodInHeld172, rfl, fun j τ h => by
    cases j with
    | zero => cases h; exact ⟨_, _, rfl, rfl, by decide, by decide, Tryz.underlying3, rfl, fun us h => by cases h⟩
    | succ j =>
     cases j with
     | zero => cases h; exact ⟨_, _, rfl, rfl, by decide, by decide, Tryz.underlying25, rfl, fun us h => by cases h⟩
     | succ j =>
      cases j with
      | zero => cases h; exact ⟨_, _, rfl, rfl, by decide, by decide, Tryz.underlying25, rfl, fun us h => by cases h⟩
      | succ j =>
       cases h⟩, (fun us hus fs hfs j τ h f hf => by
    cases hus
    rw [Tryz.underlying172] at hfs
    cases hfs
    cases j with
    | zero => cases h; cases hf; exact ⟨fun k e => by cases e; exact Tryz.underlying3, fun e => (by cases e), fun e => (by cases e)⟩
    | succ j =>
     cases j with
     | zero => cases h; cases hf; exact ⟨fun k e => (by cases e), fun e => (by cases e), fun e => (by cases e)⟩
     | succ j =>
      cases j with
      | zero => cases h; cases hf; exact ⟨fun k e => (by cases e), fun e => (by cases e), fun e => (by cases e)⟩
      | succ j =>
       cases h), Tryz.t172, rfl, rfl, fun _ _ => rfl⟩
theorem tn173 : TnOk Tryz.prog 173 (.fn [.st [.int .i64, .sl 159 (.st [.str, .int .i64, .sl 172 (.st [.int .i64, .sl 3 (.int .i64), .sl 3 (.int .i64)])]), .sl 164 (.st [.int .i64, .int .i64, .bool, .int .i64]), .sl 169 (.st [.sl 228 (.st [.int .i64, .int .i64]), .sl 25 (.sl 3 (.int .i64))]), .sl 3 (.int .i64)], .int .i64] (.bool)) := ⟨⟨_, _, _, Tryz.underlying173⟩, fun _ h => (by cases h), Tryz.t173, rfl, rfl, fun _ h => by cases h⟩
theorem tn174 : TnOk Tryz.prog 174 (.fn [.st [.str, .int .i64, .sl 172 (.st [.int .i64, .sl 3 (.int .i64), .sl 3 (.int .i64)])], .st [.str, .int .i64, .sl 172 (.st [.int .i64, .sl 3 (.int .i64), .sl 3 (.int .i64)])]] (.bool)) := ⟨⟨_, _, _, Tryz.underlying174⟩, fun _ h => (by cases h), Tryz.t174, rfl, rfl, fun _ h => by cases h⟩
theorem tn175 : TnOk Tryz.prog 175 (.fn [.st [.int .i64, .int .i64, .bool, .int .i64], .st [.int .i64, .int .i64, .bool, .int .i64]] (.bool)) := ⟨⟨_, _, _, Tryz.underlying175⟩, fun _ h => (by cases h), Tryz.t175, rfl, rfl, fun _ h => by cases h⟩
theorem tn176 : TnOk Tryz.prog 176 (.fn [.st [.sl 228 (.st [.int .i64, .int .i64]), .sl 25 (.sl 3 (.int .i64))], .st [.sl 228 (.st [.int .i64, .int .i64]), .sl 25 (.sl 3 (.int .i64))]] (.bool)) := ⟨⟨_, _, _, Tryz.underlying176⟩, fun _ h => (by cases h), Tryz.t176, rfl, rfl, fun _ h => by cases h⟩
theorem tn180 : TnOk Tryz.prog 180 (.fn [.st [.int .i64, .sl 159 (.st [.str, .int .i64, .sl 172 (.st [.int .i64, .sl 3 (.int .i64), .sl 3 (.int .i64)])]), .sl 164 (.st [.int .i64, .int .i64, .bool, .int .i64]), .sl 169 (.st [.sl 228 (.st [.int .i64, .int .i64]), .sl 25 (.sl 3 (.int .i64))]), .sl 3 (.int .i64)]] (.bool)) := ⟨⟨_, _, _, Tryz.underlying180⟩, fun _ h => (by cases h), Tryz.t180, rfl, rfl, fun _ h => by cases h⟩
theorem tn185 : TnOk Tryz.prog 185 (.fn [.sl 228 (.st [.int .i64, .int .i64]), .int .i64] (.int .i64)) := ⟨⟨_, _, _, Tryz.underlying185⟩, fun _ h => (by cases h), Tryz.t185, rfl, rfl, fun _ h => by cases h⟩
theorem tn190 : TnOk Tryz.prog 190 (.fn [.int .i64] (.str)) := ⟨⟨_, _, _, Tryz.underlying190⟩, fun _ h => (by cases h), Tryz.t190, rfl, rfl, fun _ h => by cases h⟩
theorem tn191 : TnOk Tryz.prog 191 (.fn [.sl 172 (.st [.int .i64, .sl 3 (.int .i64), .sl 3 (.int .i64)]), .int .i64] (.int .i64)) := ⟨⟨_, _, _, Tryz.underlying191⟩, fun _ h => (by cases h), Tryz.t191, rfl, rfl, fun _ h => by cases h⟩
theorem tn192 : TnOk Tryz.prog 192 (.sl 54 (.st [.int .i64, .int .i64, .int .i64, .int .i64])) := ⟨⟨Tryz.underlying192, Tryz.t54, _, rfl, rfl, rfl, rfl, by decide, by decide, fun _ _ => rfl, fun k h => by cases h⟩, fun _ h => (by cases h), Tryz.t192, rfl, rfl, fun _ _ => rfl⟩
theorem tn193 : TnOk Tryz.prog 193 (.fn [.st [.int .i64, .sl 159 (.st [.str, .int .i64, .sl 172 (.st [.int .i64, .sl 3 (.int .i64), .sl 3 (.int .i64)])]), .sl 164 (.st [.int .i64, .int .i64, .bool, .int .i64]), .sl 169 (.st [.sl 228 (.st [.int .i64, .int .i64]), .sl 25 (.sl 3 (.int .i64))]), .sl 3 (.int .i64)], .st [.sl 3 (.int .i64), .sl 3 (.int .i64)]] (.sl 54 (.st [.int .i64, .int .i64, .int .i64, .int .i64]))) := ⟨⟨_, _, _, Tryz.underlying193⟩, fun _ h => (by cases h), Tryz.t193, rfl, rfl, fun _ h => by cases h⟩
theorem tn194 : TnOk Tryz.prog 194 (.fn [.sl 3 (.int .i64), .fn [.int .i64, .int .i64] (.int .i64)] (.tup [])) := ⟨⟨_, _, _, Tryz.underlying194⟩, fun _ h => (by cases h), Tryz.t194, rfl, rfl, fun _ h => by cases h⟩
theorem tn203 : TnOk Tryz.prog 203 (.fn [.sl 3 (.int .i64), .fn [.int .i64] (.bool)] (.sl 3 (.int .i64))) := ⟨⟨_, _, _, Tryz.underlying203⟩, fun _ h => (by cases h), Tryz.t203, rfl, rfl, fun _ h => by cases h⟩
theorem tn204 : TnOk Tryz.prog 204 (.fn [.st [.int .i64, .sl 159 (.st [.str, .int .i64, .sl 172 (.st [.int .i64, .sl 3 (.int .i64), .sl 3 (.int .i64)])]), .sl 164 (.st [.int .i64, .int .i64, .bool, .int .i64]), .sl 169 (.st [.sl 228 (.st [.int .i64, .int .i64]), .sl 25 (.sl 3 (.int .i64))]), .sl 3 (.int .i64)], .st [.sl 3 (.int .i64), .sl 3 (.int .i64)], .st [.int .i64, .int .i64, .int .i64, .int .i64]] (.bool)) := ⟨⟨_, _, _, Tryz.underlying204⟩, fun _ h => (by cases h), Tryz.t204, rfl, rfl, fun _ h => by cases h⟩
theorem tn205 : TnOk Tryz.prog 205 (.fn [.st [.sl 3 (.int .i64), .sl 3 (.int .i64)], .st [.int .i64, .int .i64, .bool, .int .i64]] (.bool)) := ⟨⟨_, _, _, Tryz.underlying205⟩, fun _ h => (by cases h), Tryz.t205, rfl, rfl, fun _ h => by cases h⟩
theorem tn206 : TnOk Tryz.prog 206 (.fn [.sl 242 (.st [.int .i64, .sl 3 (.int .i64), .sl 3 (.int .i64)]), .int .i64] (.int .i64)) := ⟨⟨_, _, _, Tryz.underlying206⟩, fun _ h => (by cases h), Tryz.t206, rfl, rfl, fun _ h => by cases h⟩
theorem tn207 : TnOk Tryz.prog 207 (.fn [.sl 247 (.st [.int .i64, .int .i64]), .int .i64] (.int .i64)) := ⟨⟨_, _, _, Tryz.underlying207⟩, fun _ h => (by cases h), Tryz.t207, rfl, rfl, fun _ h => by cases h⟩
theorem tn208 : TnOk Tryz.prog 208 (.fn [.int .i64] (.sl 3 (.int .i64))) := ⟨⟨_, _, _, Tryz.underlying208⟩, fun _ h => (by cases h), Tryz.t208, rfl, rfl, fun _ h => by cases h⟩
theorem tn209 : TnOk Tryz.prog 209 (.fn [.st [.int .i64, .sl 159 (.st [.str, .int .i64, .sl 172 (.st [.int .i64, .sl 3 (.int .i64), .sl 3 (.int .i64)])]), .sl 164 (.st [.int .i64, .int .i64, .bool, .int .i64]), .sl 169 (.st [.sl 228 (.st [.int .i64, .int .i64]), .sl 25 (.sl 3 (.int .i64))]), .sl 3 (.int .i64)], .st [.sl 3 (.int .i64), .sl 3 (.int .i64)], .int .i64] (.st [.int .i64, .sl 3 (.int .i64), .sl 3 (.int .i64)])) := ⟨⟨_, _, _, Tryz.underlying209⟩, fun _ h => (by cases h), Tryz.t209, rfl, rfl, fun _ h => by cases h⟩
theorem tn210 : TnOk Tryz.prog 210 (.fn [.sl 242 (.st [.int .i64, .sl 3 (.int .i64), .sl 3 (.int .i64)])] (.sl 172 (.st [.int .i64, .sl 3 (.int .i64), .sl 3 (.int .i64)]))) := ⟨⟨_, _, _, Tryz.underlying210⟩, fun _ h => (by cases h), Tryz.t210, rfl, rfl, fun _ h => by cases h⟩
theorem tn211 : TnOk Tryz.prog 211 (.fn [.sl 247 (.st [.int .i64, .int .i64])] (.sl 228 (.st [.int .i64, .int .i64]))) := ⟨⟨_, _, _, Tryz.underlying211⟩, fun _ h => (by cases h), Tryz.t211, rfl, rfl, fun _ h => by cases h⟩
theorem tn212 : TnOk Tryz.prog 212 (.fn [.st [.sl 3 (.int .i64), .sl 3 (.int .i64)], .int .i64] (.st [.int .i64, .sl 3 (.int .i64), .sl 3 (.int .i64)])) := ⟨⟨_, _, _, Tryz.underlying212⟩, fun _ h => (by cases h), Tryz.t212, rfl, rfl, fun _ h => by cases h⟩
theorem tn213 : TnOk Tryz.prog 213 (.fn [.st [.sl 3 (.int .i64), .sl 3 (.int .i64)], .int .i64, .int .i64, .int .i64] (.bool)) := ⟨⟨_, _, _, Tryz.underlying213⟩, fun _ h => (by cases h), Tryz.t213, rfl, rfl, fun _ h => by cases h⟩
theorem tn214 : TnOk Tryz.prog 214 (.fn [.sl 172 (.st [.int .i64, .sl 3 (.int .i64), .sl 3 (.int .i64)]), .sl 172 (.st [.int .i64, .sl 3 (.int .i64), .sl 3 (.int .i64)])] (.bool)) := ⟨⟨_, _, _, Tryz.underlying214⟩, fun _ h => (by cases h), Tryz.t214, rfl, rfl, fun _ h => by cases h⟩
theorem tn215 : TnOk Tryz.prog 215 (.fn [.sl 228 (.st [.int .i64, .int .i64]), .sl 228 (.st [.int .i64, .int .i64])] (.bool)) := ⟨⟨_, _, _, Tryz.underlying215⟩, fun _ h => (by cases h), Tryz.t215, rfl, rfl, fun _ h => by cases h⟩
theorem tn219 : TnOk Tryz.prog 219 (.fn [.st [.str, .int .i64, .sl 172 (.st [.int .i64, .sl 3 (.int .i64), .sl 3 (.int .i64)])], .int .i64, .int .i64] (.bool)) := ⟨⟨_, _, _, Tryz.underlying219⟩, fun _ h => (by cases h), Tryz.t219, rfl, rfl, fun _ h => by cases h⟩
theorem tn220 : TnOk Tryz.prog 220 (.fn [.st [.int .i64, .sl 159 (.st [.str, .int .i64, .sl 172 (.st [.int .i64, .sl 3 (.int .i64), .sl 3 (.int .i64)])]), .sl 164 (.st [.int .i64, .int .i64, .bool, .int .i64]), .sl 169 (.st [.sl 228 (.st [.int .i64, .int .i64]), .sl 25 (.sl 3 (.int .i64))]), .sl 3 (.int .i64)], .str] (.int .i64)) := ⟨⟨_, _, _, Tryz.underlying220⟩, fun _ h => (by cases h), Tryz.t220, rfl, rfl, fun _ h => by cases h⟩
theorem tn221 : TnOk Tryz.prog 221 (.fn [.st [.sl 228 (.st [.int .i64, .int .i64]), .sl 25 (.sl 3 (.int .i64))]] (.bool)) := ⟨⟨_, _, _, Tryz.underlying221⟩, fun _ h => (by cases h), Tryz.t221, rfl, rfl, fun _ h => by cases h⟩
theorem tn227 : TnOk Tryz.prog 227 (.st [.int .i64, .int .i64]) := ⟨⟨_, Tryz.underlying227, Tryz.eqGuardType227, Tryz.stoodInHeld227, rfl, fun j τ h => by
    cases j with
    | zero => cases h; exact ⟨_, _, rfl, rfl, by decide, by decide, Tryz.underlying3, rfl, fun us h => by cases h⟩
    | succ j =>
     cases j with
     | zero => cases h; exact ⟨_, _, rfl, rfl, by decide, by decide, Tryz.underlying3, rfl, fun us h => by cases h⟩
     | succ j =>
      cases h⟩, (fun us hus fs hfs j τ h f hf => by
    cases hus
    rw [Tryz.underlying227] at hfs
    cases hfs
    cases j with
    | zero => cases h; cases hf; exact ⟨fun k e => by cases e; exact Tryz.underlying3, fun e => (by cases e), fun e => (by cases e)⟩
    | succ j =>
     cases j with
     | zero => cases h; cases hf; exact ⟨fun k e => by cases e; exact Tryz.underlying3, fun e => (by cases e), fun e => (by cases e)⟩
     | succ j =>
      cases h), Tryz.t227, rfl, rfl, fun _ _ => rfl⟩
theorem tn228 : TnOk Tryz.prog 228 (.st [.int .i64, .int .i64]) := ⟨⟨_, Tryz.underlying228, Tryz.eqGuardType228, Tryz.stoodInHeld228, rfl, fun j τ h => by
    cases j with
    | zero => cases h; exact ⟨_, _, rfl, rfl, by decide, by decide, Tryz.underlying3, rfl, fun us h => by cases h⟩
    | succ j =>
     cases j with
     | zero => cases h; exact ⟨_, _, rfl, rfl, by decide, by decide, Tryz.underlying3, rfl, fun us h => by cases h⟩
     | succ j =>
      cases h⟩, (fun us hus fs hfs j τ h f hf => by
    cases hus
    rw [Tryz.underlying228] at hfs
    cases hfs
    cases j with
    | zero => cases h; cases hf; exact ⟨fun k e => by cases e; exact Tryz.underlying3, fun e => (by cases e), fun e => (by cases e)⟩
    | succ j =>
     cases j with
     | zero => cases h; cases hf; exact ⟨fun k e => by cases e; exact Tryz.underlying3, fun e => (by cases e), fun e => (by cases e)⟩
     | succ j =>
      cases h), Tryz.t228, rfl, rfl, fun _ _ => rfl⟩
theorem tn230 : TnOk Tryz.prog 230 (.fn [.sl 228 (.st [.int .i64, .int .i64]), .int .i64, .int .i64] (.int .i64)) := ⟨⟨_, _, _, Tryz.underlying230⟩, fun _ h => (by cases h), Tryz.t230, rfl, rfl, fun _ h => by cases h⟩
theorem tn231 : TnOk Tryz.prog 231 (.sl 5 (.int .u8)) := ⟨⟨Tryz.underlying231, Tryz.t5, _, rfl, rfl, rfl, rfl, by decide, by decide, fun _ _ => rfl, fun k h => by cases h; exact Tryz.underlying5⟩, fun _ h => (by cases h), Tryz.t231, rfl, rfl, fun _ _ => rfl⟩
theorem tn232 : TnOk Tryz.prog 232 (.fn [.st [.int .i64, .sl 159 (.st [.str, .int .i64, .sl 172 (.st [.int .i64, .sl 3 (.int .i64), .sl 3 (.int .i64)])]), .sl 164 (.st [.int .i64, .int .i64, .bool, .int .i64]), .sl 169 (.st [.sl 228 (.st [.int .i64, .int .i64]), .sl 25 (.sl 3 (.int .i64))]), .sl 3 (.int .i64)]] (.sl 54 (.st [.int .i64, .int .i64, .int .i64, .int .i64]))) := ⟨⟨_, _, _, Tryz.underlying232⟩, fun _ h => (by cases h), Tryz.t232, rfl, rfl, fun _ h => by cases h⟩
theorem tn233 : TnOk Tryz.prog 233 (.fn [] (.sl 54 (.st [.int .i64, .int .i64, .int .i64, .int .i64]))) := ⟨⟨_, _, _, Tryz.underlying233⟩, fun _ h => (by cases h), Tryz.t233, rfl, rfl, fun _ h => by cases h⟩
theorem tn234 : TnOk Tryz.prog 234 (.fn [.st [.sl 3 (.int .i64), .sl 3 (.int .i64)], .st [.int .i64, .int .i64, .int .i64, .int .i64]] (.bool)) := ⟨⟨_, _, _, Tryz.underlying234⟩, fun _ h => (by cases h), Tryz.t234, rfl, rfl, fun _ h => by cases h⟩
theorem tn235 : TnOk Tryz.prog 235 (.fn [.sl 3 (.int .i64), .int .i64, .fn [.int .i64, .int .i64] (.int .i64)] (.tup [])) := ⟨⟨_, _, _, Tryz.underlying235⟩, fun _ h => (by cases h), Tryz.t235, rfl, rfl, fun _ h => by cases h⟩
theorem tn236 : TnOk Tryz.prog 236 (.fn [.sl 164 (.st [.int .i64, .int .i64, .bool, .int .i64]), .fn [.st [.int .i64, .int .i64, .bool, .int .i64]] (.bool)] (.bool)) := ⟨⟨_, _, _, Tryz.underlying236⟩, fun _ h => (by cases h), Tryz.t236, rfl, rfl, fun _ h => by cases h⟩
theorem tn237 : TnOk Tryz.prog 237 (.fn [.st [.int .i64, .int .i64, .bool, .int .i64]] (.bool)) := ⟨⟨_, _, _, Tryz.underlying237⟩, fun _ h => (by cases h), Tryz.t237, rfl, rfl, fun _ h => by cases h⟩
theorem tn240 : TnOk Tryz.prog 240 (.fn [.st [.int .i64, .sl 159 (.st [.str, .int .i64, .sl 172 (.st [.int .i64, .sl 3 (.int .i64), .sl 3 (.int .i64)])]), .sl 164 (.st [.int .i64, .int .i64, .bool, .int .i64]), .sl 169 (.st [.sl 228 (.st [.int .i64, .int .i64]), .sl 25 (.sl 3 (.int .i64))]), .sl 3 (.int .i64)], .st [.sl 3 (.int .i64), .sl 3 (.int .i64)], .int .i64, .int .i64] (.int .i64)) := ⟨⟨_, _, _, Tryz.underlying240⟩, fun _ h => (by cases h), Tryz.t240, rfl, rfl, fun _ h => by cases h⟩
theorem tn241 : TnOk Tryz.prog 241 (.fn [.st [.int .i64, .sl 3 (.int .i64), .sl 3 (.int .i64)], .int .i64] (.int .i64)) := ⟨⟨_, _, _, Tryz.underlying241⟩, fun _ h => (by cases h), Tryz.t241, rfl, rfl, fun _ h => by cases h⟩
theorem tn242 : TnOk Tryz.prog 242 (.st [.int .i64, .sl 3 (.int .i64), .sl 3 (.int .i64)]) := ⟨⟨_, Tryz.underlying242, Tryz.eqGuardType242, Tryz.stoodInHeld242, rfl, fun j τ h => by
    cases j with
    | zero => cases h; exact ⟨_, _, rfl, rfl, by decide, by decide, Tryz.underlying3, rfl, fun us h => by cases h⟩
    | succ j =>
     cases j with
     | zero => cases h; exact ⟨_, _, rfl, rfl, by decide, by decide, Tryz.underlying25, rfl, fun us h => by cases h⟩
     | succ j =>
      cases j with
      | zero => cases h; exact ⟨_, _, rfl, rfl, by decide, by decide, Tryz.underlying25, rfl, fun us h => by cases h⟩
      | succ j =>
       cases h⟩, (fun us hus fs hfs j τ h f hf => by
    cases hus
    rw [Tryz.underlying242] at hfs
    cases hfs
    cases j with
    | zero => cases h; cases hf; exact ⟨fun k e => by cases e; exact Tryz.underlying3, fun e => (by cases e), fun e => (by cases e)⟩
    | succ j =>
     cases j with
     | zero => cases h; cases hf; exact ⟨fun k e => (by cases e), fun e => (by cases e), fun e => (by cases e)⟩
     | succ j =>
      cases j with
      | zero => cases h; cases hf; exact ⟨fun k e => (by cases e), fun e => (by cases e), fun e => (by cases e)⟩
      | succ j =>
       cases h), Tryz.t242, rfl, rfl, fun _ _ => rfl⟩
theorem tn243 : TnOk Tryz.prog 243 (.fn [.sl 228 (.st [.int .i64, .int .i64])] (.bool)) := ⟨⟨_, _, _, Tryz.underlying243⟩, fun _ h => (by cases h), Tryz.t243, rfl, rfl, fun _ h => by cases h⟩
theorem tn244 : TnOk Tryz.prog 244 (.fn [.st [.int .i64, .sl 159 (.st [.str, .int .i64, .sl 172 (.st [.int .i64, .sl 3 (.int .i64), .sl 3 (.int .i64)])]), .sl 164 (.st [.int .i64, .int .i64, .bool, .int .i64]), .sl 169 (.st [.sl 228 (.st [.int .i64, .int .i64]), .sl 25 (.sl 3 (.int .i64))]), .sl 3 (.int .i64)], .st [.sl 3 (.int .i64), .sl 3 (.int .i64)], .int .i64, .int .i64, .int .i64] (.bool)) := ⟨⟨_, _, _, Tryz.underlying244⟩, fun _ h => (by cases h), Tryz.t244, rfl, rfl, fun _ h => by cases h⟩
theorem tn245 : TnOk Tryz.prog 245 (.fn [.st [.int .i64, .sl 3 (.int .i64), .sl 3 (.int .i64)]] (.st [.int .i64, .sl 3 (.int .i64), .sl 3 (.int .i64)])) := ⟨⟨_, _, _, Tryz.underlying245⟩, fun _ h => (by cases h), Tryz.t245, rfl, rfl, fun _ h => by cases h⟩
theorem tn246 : TnOk Tryz.prog 246 (.fn [.st [.int .i64, .int .i64]] (.st [.int .i64, .int .i64])) := ⟨⟨_, _, _, Tryz.underlying246⟩, fun _ h => (by cases h), Tryz.t246, rfl, rfl, fun _ h => by cases h⟩
theorem tn247 : TnOk Tryz.prog 247 (.st [.int .i64, .int .i64]) := ⟨⟨_, Tryz.underlying247, Tryz.eqGuardType247, Tryz.stoodInHeld247, rfl, fun j τ h => by
    cases j with
    | zero => cases h; exact ⟨_, _, rfl, rfl, by decide, by decide, Tryz.underlying3, rfl, fun us h => by cases h⟩
    | succ j =>
     cases j with
     | zero => cases h; exact ⟨_, _, rfl, rfl, by decide, by decide, Tryz.underlying3, rfl, fun us h => by cases h⟩
     | succ j =>
      cases h⟩, (fun us hus fs hfs j τ h f hf => by
    cases hus
    rw [Tryz.underlying247] at hfs
    cases hfs
    cases j with
    | zero => cases h; cases hf; exact ⟨fun k e => by cases e; exact Tryz.underlying3, fun e => (by cases e), fun e => (by cases e)⟩
    | succ j =>
     cases j with
     | zero => cases h; cases hf; exact ⟨fun k e => by cases e; exact Tryz.underlying3, fun e => (by cases e), fun e => (by cases e)⟩
     | succ j =>
      cases h), Tryz.t247, rfl, rfl, fun _ _ => rfl⟩
theorem tn248 : TnOk Tryz.prog 248 (.fn [.st [.int .i64, .sl 159 (.st [.str, .int .i64, .sl 172 (.st [.int .i64, .sl 3 (.int .i64), .sl 3 (.int .i64)])]), .sl 164 (.st [.int .i64, .int .i64, .bool, .int .i64]), .sl 169 (.st [.sl 228 (.st [.int .i64, .int .i64]), .sl 25 (.sl 3 (.int .i64))]), .sl 3 (.int .i64)], .int .i64, .int .i64, .int .i64] (.int .i64)) := ⟨⟨_, _, _, Tryz.underlying248⟩, fun _ h => (by cases h), Tryz.t248, rfl, rfl, fun _ h => by cases h⟩
theorem tn249 : TnOk Tryz.prog 249 (.fn [.st [.int .i64, .sl 3 (.int .i64), .sl 3 (.int .i64)], .st [.int .i64, .sl 3 (.int .i64), .sl 3 (.int .i64)]] (.bool)) := ⟨⟨_, _, _, Tryz.underlying249⟩, fun _ h => (by cases h), Tryz.t249, rfl, rfl, fun _ h => by cases h⟩
theorem tn250 : TnOk Tryz.prog 250 (.fn [.st [.int .i64, .int .i64], .st [.int .i64, .int .i64]] (.bool)) := ⟨⟨_, _, _, Tryz.underlying250⟩, fun _ h => (by cases h), Tryz.t250, rfl, rfl, fun _ h => by cases h⟩
theorem tn253 : TnOk Tryz.prog 253 (.fn [.st [.int .i64, .sl 3 (.int .i64), .sl 3 (.int .i64)], .int .i64, .int .i64] (.bool)) := ⟨⟨_, _, _, Tryz.underlying253⟩, fun _ h => (by cases h), Tryz.t253, rfl, rfl, fun _ h => by cases h⟩
theorem tn254 : TnOk Tryz.prog 254 (.fn [.str] (.bool)) := ⟨⟨_, _, _, Tryz.underlying254⟩, fun _ h => (by cases h), Tryz.t254, rfl, rfl, fun _ h => by cases h⟩
theorem tn261 : TnOk Tryz.prog 261 (.fn [.st [.sl 3 (.int .i64), .sl 3 (.int .i64)], .int .i64, .int .i64] (.int .i64)) := ⟨⟨_, _, _, Tryz.underlying261⟩, fun _ h => (by cases h), Tryz.t261, rfl, rfl, fun _ h => by cases h⟩
theorem tn262 : TnOk Tryz.prog 262 (.fn [.st [.sl 3 (.int .i64), .sl 3 (.int .i64)], .int .i64, .int .i64, .int .i64] (.int .i64)) := ⟨⟨_, _, _, Tryz.underlying262⟩, fun _ h => (by cases h), Tryz.t262, rfl, rfl, fun _ h => by cases h⟩
theorem tn263 : TnOk Tryz.prog 263 (.fn [.sl 3 (.int .i64), .int .i64, .int .i64, .fn [.int .i64, .int .i64] (.int .i64)] (.tup [])) := ⟨⟨_, _, _, Tryz.underlying263⟩, fun _ h => (by cases h), Tryz.t263, rfl, rfl, fun _ h => by cases h⟩
theorem tn264 : TnOk Tryz.prog 264 (.fn [.sl 3 (.int .i64), .int .i64, .int .i64, .int .i64, .fn [.int .i64, .int .i64] (.int .i64)] (.tup [])) := ⟨⟨_, _, _, Tryz.underlying264⟩, fun _ h => (by cases h), Tryz.t264, rfl, rfl, fun _ h => by cases h⟩
theorem tn265 : TnOk Tryz.prog 265 (.fn [.sl 159 (.st [.str, .int .i64, .sl 172 (.st [.int .i64, .sl 3 (.int .i64), .sl 3 (.int .i64)])]), .fn [.st [.str, .int .i64, .sl 172 (.st [.int .i64, .sl 3 (.int .i64), .sl 3 (.int .i64)])]] (.bool)] (.int .i64)) := ⟨⟨_, _, _, Tryz.underlying265⟩, fun _ h => (by cases h), Tryz.t265, rfl, rfl, fun _ h => by cases h⟩
theorem tn266 : TnOk Tryz.prog 266 (.fn [.st [.str, .int .i64, .sl 172 (.st [.int .i64, .sl 3 (.int .i64), .sl 3 (.int .i64)])]] (.bool)) := ⟨⟨_, _, _, Tryz.underlying266⟩, fun _ h => (by cases h), Tryz.t266, rfl, rfl, fun _ h => by cases h⟩
theorem tn267 : TnOk Tryz.prog 267 (.fn [.sl 164 (.st [.int .i64, .int .i64, .bool, .int .i64]), .fn [.st [.int .i64, .int .i64, .bool, .int .i64]] (.bool)] (.int .i64)) := ⟨⟨_, _, _, Tryz.underlying267⟩, fun _ h => (by cases h), Tryz.t267, rfl, rfl, fun _ h => by cases h⟩
theorem tn268 : TnOk Tryz.prog 268 (.fn [.sl 228 (.st [.int .i64, .int .i64]), .int .i64, .int .i64] (.bool)) := ⟨⟨_, _, _, Tryz.underlying268⟩, fun _ h => (by cases h), Tryz.t268, rfl, rfl, fun _ h => by cases h⟩
theorem tn273 : TnOk Tryz.prog 273 (.int .u64) := ⟨Tryz.underlying273, fun _ h => (by cases h), Tryz.t273, rfl, rfl, fun _ _ => rfl⟩
theorem tn274 : TnOk Tryz.prog 274 (.fn [.st [.sl 3 (.int .i64), .sl 3 (.int .i64)], .int .i64] (.sl 3 (.int .i64))) := ⟨⟨_, _, _, Tryz.underlying274⟩, fun _ h => (by cases h), Tryz.t274, rfl, rfl, fun _ h => by cases h⟩
def tys : List (Nat × Ty) := [(3, .int .i64), (4, .bool), (5, .int .u8), (9, .str), (22, .sl 150 (.st [.str, .int .i64, .sl 242 (.st [.int .i64, .sl 3 (.int .i64), .sl 3 (.int .i64)])])), (23, .sl 166 (.st [.int .i64, .int .i64, .bool, .int .i64])), (24, .sl 154 (.st [.sl 247 (.st [.int .i64, .int .i64]), .sl 25 (.sl 3 (.int .i64))])), (25, .sl 3 (.int .i64)), (26, .st [.int .i64, .sl 150 (.st [.str, .int .i64, .sl 242 (.st [.int .i64, .sl 3 (.int .i64), .sl 3 (.int .i64)])]), .sl 166 (.st [.int .i64, .int .i64, .bool, .int .i64]), .sl 154 (.st [.sl 247 (.st [.int .i64, .int .i64]), .sl 25 (.sl 3 (.int .i64))]), .sl 3 (.int .i64)]), (27, .st [.int .i64, .sl 150 (.st [.str, .int .i64, .sl 242 (.st [.int .i64, .sl 3 (.int .i64), .sl 3 (.int .i64)])]), .sl 166 (.st [.int .i64, .int .i64, .bool, .int .i64]), .sl 154 (.st [.sl 247 (.st [.int .i64, .int .i64]), .sl 25 (.sl 3 (.int .i64))]), .sl 3 (.int .i64)]), (28, .st [.sl 3 (.int .i64), .sl 3 (.int .i64)]), (29, .st [.sl 3 (.int .i64), .sl 3 (.int .i64)]), (32, .fn [.st [.int .i64, .sl 150 (.st [.str, .int .i64, .sl 242 (.st [.int .i64, .sl 3 (.int .i64), .sl 3 (.int .i64)])]), .sl 166 (.st [.int .i64, .int .i64, .bool, .int .i64]), .sl 154 (.st [.sl 247 (.st [.int .i64, .int .i64]), .sl 25 (.sl 3 (.int .i64))]), .sl 3 (.int .i64)], .int .i64] (.int .i64)), (36, .sl 159 (.st [.str, .int .i64, .sl 172 (.st [.int .i64, .sl 3 (.int .i64), .sl 3 (.int .i64)])])), (37, .sl 164 (.st [.int .i64, .int .i64, .bool, .int .i64])), (38, .sl 169 (.st [.sl 228 (.st [.int .i64, .int .i64]), .sl 25 (.sl 3 (.int .i64))])), (39, .st [.int .i64, .sl 159 (.st [.str, .int .i64, .sl 172 (.st [.int .i64, .sl 3 (.int .i64), .sl 3 (.int .i64)])]), .sl 164 (.st [.int .i64, .int .i64, .bool, .int .i64]), .sl 169 (.st [.sl 228 (.st [.int .i64, .int .i64]), .sl 25 (.sl 3 (.int .i64))]), .sl 3 (.int .i64)]), (40, .st [.int .i64, .sl 159 (.st [.str, .int .i64, .sl 172 (.st [.int .i64, .sl 3 (.int .i64), .sl 3 (.int .i64)])]), .sl 164 (.st [.int .i64, .int .i64, .bool, .int .i64]), .sl 169 (.st [.sl 228 (.st [.int .i64, .int .i64]), .sl 25 (.sl 3 (.int .i64))]), .sl 3 (.int .i64)]), (41, .fn [.st [.int .i64, .sl 150 (.st [.str, .int .i64, .sl 242 (.st [.int .i64, .sl 3 (.int .i64), .sl 3 (.int .i64)])]), .sl 166 (.st [.int .i64, .int .i64, .bool, .int .i64]), .sl 154 (.st [.sl 247 (.st [.int .i64, .int .i64]), .sl 25 (.sl 3 (.int .i64))]), .sl 3 (.int .i64)]] (.st [.int .i64, .sl 159 (.st [.str, .int .i64, .sl 172 (.st [.int .i64, .sl 3 (.int .i64), .sl 3 (.int .i64)])]), .sl 164 (.st [.int .i64, .int .i64, .bool, .int .i64]), .sl 169 (.st [.sl 228 (.st [.int .i64, .int .i64]), .sl 25 (.sl 3 (.int .i64))]), .sl 3 (.int .i64)])), (42, .st [.sl 3 (.int .i64), .sl 3 (.int .i64)]), (46, .fn [.st [.int .i64, .sl 159 (.st [.str, .int .i64, .sl 172 (.st [.int .i64, .sl 3 (.int .i64), .sl 3 (.int .i64)])]), .sl 164 (.st [.int .i64, .int .i64, .bool, .int .i64]), .sl 169 (.st [.sl 228 (.st [.int .i64, .int .i64]), .sl 25 (.sl 3 (.int .i64))]), .sl 3 (.int .i64)], .st [.int .i64, .sl 159 (.st [.str, .int .i64, .sl 172 (.st [.int .i64, .sl 3 (.int .i64), .sl 3 (.int .i64)])]), .sl 164 (.st [.int .i64, .int .i64, .bool, .int .i64]), .sl 169 (.st [.sl 228 (.st [.int .i64, .int .i64]), .sl 25 (.sl 3 (.int .i64))]), .sl 3 (.int .i64)]] (.bool)), (49, .st [.int .i64, .int .i64, .int .i64, .int .i64]), (54, .st [.int .i64, .int .i64, .int .i64, .int .i64]), (62, .fn [.st [.int .i64, .sl 159 (.st [.str, .int .i64, .sl 172 (.st [.int .i64, .sl 3 (.int .i64), .sl 3 (.int .i64)])]), .sl 164 (.st [.int .i64, .int .i64, .bool, .int .i64]), .sl 169 (.st [.sl 228 (.st [.int .i64, .int .i64]), .sl 25 (.sl 3 (.int .i64))]), .sl 3 (.int .i64)], .int .i64] (.int .i64)), (64, .fn [.st [.sl 3 (.int .i64), .sl 3 (.int .i64)], .int .i64] (.int .i64)), (66, .fn [.st [.int .i64, .sl 159 (.st [.str, .int .i64, .sl 172 (.st [.int .i64, .sl 3 (.int .i64), .sl 3 (.int .i64)])]), .sl 164 (.st [.int .i64, .int .i64, .bool, .int .i64]), .sl 169 (.st [.sl 228 (.st [.int .i64, .int .i64]), .sl 25 (.sl 3 (.int .i64))]), .sl 3 (.int .i64)], .st [.sl 3 (.int .i64), .sl 3 (.int .i64)]] (.tup [.st [.sl 3 (.int .i64), .sl 3 (.int .i64)], .bool])), (67, .fn [.st [.sl 3 (.int .i64), .sl 3 (.int .i64)]] (.st [.sl 3 (.int .i64), .sl 3 (.int .i64)])), (68, .fn [.st [.sl 3 (.int .i64), .sl 3 (.int .i64)], .st [.sl 3 (.int .i64), .sl 3 (.int .i64)]] (.bool)), (69, .fn [.st [.sl 3 (.int .i64), .sl 3 (.int .i64)], .int .i64] (.int .i64)), (70, .fn [.st [.int .i64, .sl 150 (.st [.str, .int .i64, .sl 242 (.st [.int .i64, .sl 3 (.int .i64), .sl 3 (.int .i64)])]), .sl 166 (.st [.int .i64, .int .i64, .bool, .int .i64]), .sl 154 (.st [.sl 247 (.st [.int .i64, .int .i64]), .sl 25 (.sl 3 (.int .i64))]), .sl 3 (.int .i64)], .st [.sl 3 (.int .i64), .sl 3 (.int .i64)]] (.bool)), (74, .sl 25 (.sl 3 (.int .i64))), (92, .fn [.sl 150 (.st [.str, .int .i64, .sl 242 (.st [.int .i64, .sl 3 (.int .i64), .sl 3 (.int .i64)])]), .int .i64] (.int .i64)), (93, .fn [.sl 166 (.st [.int .i64, .int .i64, .bool, .int .i64]), .int .i64] (.int .i64)), (94, .fn [.sl 154 (.st [.sl 247 (.st [.int .i64, .int .i64]), .sl 25 (.sl 3 (.int .i64))]), .int .i64] (.int .i64)), (95, .fn [.sl 3 (.int .i64), .int .i64] (.int .i64)), (97, .fn [.int .i64, .int .i64] (.int .i64)), (99, .fn [.sl 150 (.st [.str, .int .i64, .sl 242 (.st [.int .i64, .sl 3 (.int .i64), .sl 3 (.int .i64)])])] (.sl 159 (.st [.str, .int .i64, .sl 172 (.st [.int .i64, .sl 3 (.int .i64), .sl 3 (.int .i64)])]))), (100, .fn [.sl 166 (.st [.int .i64, .int .i64, .bool, .int .i64])] (.sl 164 (.st [.int .i64, .int .i64, .bool, .int .i64]))), (101, .fn [.sl 154 (.st [.sl 247 (.st [.int .i64, .int .i64]), .sl 25 (.sl 3 (.int .i64))])] (.sl 169 (.st [.sl 228 (.st [.int .i64, .int .i64]), .sl 25 (.sl 3 (.int .i64))]))), (102, .fn [.sl 3 (.int .i64)] (.sl 3 (.int .i64))), (103, .fn [.sl 159 (.st [.str, .int .i64, .sl 172 (.st [.int .i64, .sl 3 (.int .i64), .sl 3 (.int .i64)])]), .sl 159 (.st [.str, .int .i64, .sl 172 (.st [.int .i64, .sl 3 (.int .i64), .sl 3 (.int .i64)])])] (.bool)), (104, .fn [.sl 164 (.st [.int .i64, .int .i64, .bool, .int .i64]), .sl 164 (.st [.int .i64, .int .i64, .bool, .int .i64])] (.bool)), (105, .fn [.sl 169 (.st [.sl 228 (.st [.int .i64, .int .i64]), .sl 25 (.sl 3 (.int .i64))]), .sl 169 (.st [.sl 228 (.st [.int .i64, .int .i64]), .sl 25 (.sl 3 (.int .i64))])] (.bool)), (106, .fn [.sl 3 (.int .i64), .sl 3 (.int .i64)] (.bool)), (118, .fn [.sl 159 (.st [.str, .int .i64, .sl 172 (.st [.int .i64, .sl 3 (.int .i64), .sl 3 (.int .i64)])]), .int .i64] (.int .i64)), (119, .fn [.sl 164 (.st [.int .i64, .int .i64, .bool, .int .i64]), .int .i64] (.int .i64)), (120, .fn [.sl 169 (.st [.sl 228 (.st [.int .i64, .int .i64]), .sl 25 (.sl 3 (.int .i64))]), .int .i64] (.int .i64)), (121, .fn [.st [.int .i64, .sl 159 (.st [.str, .int .i64, .sl 172 (.st [.int .i64, .sl 3 (.int .i64), .sl 3 (.int .i64)])]), .sl 164 (.st [.int .i64, .int .i64, .bool, .int .i64]), .sl 169 (.st [.sl 228 (.st [.int .i64, .int .i64]), .sl 25 (.sl 3 (.int .i64))]), .sl 3 (.int .i64)], .st [.sl 3 (.int .i64), .sl 3 (.int .i64)]] (.bool)), (122, .fn [.st [.int .i64, .sl 159 (.st [.str, .int .i64, .sl 172 (.st [.int .i64, .sl 3 (.int .i64), .sl 3 (.int .i64)])]), .sl 164 (.st [.int .i64, .int .i64, .bool, .int .i64]), .sl 169 (.st [.sl 228 (.st [.int .i64, .int .i64]), .sl 25 (.sl 3 (.int .i64))]), .sl 3 (.int .i64)], .st [.sl 3 (.int .i64), .sl 3 (.int .i64)]] (.st [.sl 3 (.int .i64), .sl 3 (.int .i64)])), (123, .fn [] (.st [.sl 3 (.int .i64), .sl 3 (.int .i64)])), (124, .fn [.st [.sl 3 (.int .i64), .sl 3 (.int .i64)]] (.sl 3 (.int .i64))), (128, .fn [.sl 25 (.sl 3 (.int .i64)), .int .i64] (.int .i64)), (135, .fn [.sl 25 (.sl 3 (.int .i64))] (.sl 25 (.sl 3 (.int .i64)))), (140, .fn [.sl 25 (.sl 3 (.int .i64)), .sl 25 (.sl 3 (.int .i64))] (.bool)), (142, .fn [.int .i64, .int .i64, .int .i64] (.bool)), (143, .fn [.st [.sl 3 (.int .i64), .sl 3 (.int .i64)]] (.st [.sl 3 (.int .i64), .sl 3 (.int .i64)])), (144, .fn [.int .i64] (.bool)), (147, .fn [.st [.str, .int .i64, .sl 242 (.st [.int .i64, .sl 3 (.int .i64), .sl 3 (.int .i64)])], .int .i64] (.int .i64)), (148, .sl 242 (.st [.int .i64, .sl 3 (.int .i64), .sl 3 (.int .i64)])), (149, .st [.str, .int .i64, .sl 242 (.st [.int .i64, .sl 3 (.int .i64), .sl 3 (.int .i64)])]), (150, .st [.str, .int .i64, .sl 242 (.st [.int .i64, .sl 3 (.int .i64), .sl 3 (.int .i64)])]), (151, .fn [.st [.sl 247 (.st [.int .i64, .int .i64]), .sl 25 (.sl 3 (.int .i64))], .int .i64] (.int .i64)), (152, .sl 247 (.st [.int .i64, .int .i64])), (153, .st [.sl 247 (.st [.int .i64, .int .i64]), .sl 25 (.sl 3 (.int .i64))]), (154, .st [.sl 247 (.st [.int .i64, .int .i64]), .sl 25 (.sl 3 (.int .i64))]), (156, .fn [.sl 3 (.int .i64), .int .i64] (.bool)), (157, .sl 172 (.st [.int .i64, .sl 3 (.int .i64), .sl 3 (.int .i64)])), (158, .st [.str, .int .i64, .sl 172 (.st [.int .i64, .sl 3 (.int .i64), .sl 3 (.int .i64)])]), (159, .st [.str, .int .i64, .sl 172 (.st [.int .i64, .sl 3 (.int .i64), .sl 3 (.int .i64)])]), (160, .fn [.st [.int .i64, .sl 159 (.st [.str, .int .i64, .sl 172 (.st [.int .i64, .sl 3 (.int .i64), .sl 3 (.int .i64)])]), .sl 164 (.st [.int .i64, .int .i64, .bool, .int .i64]), .sl 169 (.st [.sl 228 (.st [.int .i64, .int .i64]), .sl 25 (.sl 3 (.int .i64))]), .sl 3 (.int .i64)], .st [.sl 3 (.int .i64), .sl 3 (.int .i64)], .int .i64] (.int .i64)), (162, .fn [.st [.str, .int .i64, .sl 242 (.st [.int .i64, .sl 3 (.int .i64), .sl 3 (.int .i64)])]] (.st [.str, .int .i64, .sl 172 (.st [.int .i64, .sl 3 (.int .i64), .sl 3 (.int .i64)])])), (163, .st [.int .i64, .int .i64, .bool, .int .i64]), (164, .st [.int .i64, .int .i64, .bool, .int .i64]), (165, .fn [.st [.int .i64, .int .i64, .bool, .int .i64]] (.st [.int .i64, .int .i64, .bool, .int .i64])), (166, .st [.int .i64, .int .i64, .bool, .int .i64]), (167, .sl 228 (.st [.int .i64, .int .i64])), (168, .st [.sl 228 (.st [.int .i64, .int .i64]), .sl 25 (.sl 3 (.int .i64))]), (169, .st [.sl 228 (.st [.int .i64, .int .i64]), .sl 25 (.sl 3 (.int .i64))]), (170, .fn [.st [.sl 247 (.st [.int .i64, .int .i64]), .sl 25 (.sl 3 (.int .i64))]] (.st [.sl 228 (.st [.int .i64, .int .i64]), .sl 25 (.sl 3 (.int .i64))])), (171, .st [.int .i64, .sl 3 (.int .i64), .sl 3 (.int .i64)]), (172, .st [.int .i64, .sl 3 (.int .i64), .sl 3 (.int .i64)]), (173, .fn [.st [.int .i64, .sl 159 (.st [.str, .int .i64, .sl 172 (.st [.int .i64, .sl 3 (.int .i64), .sl 3 (.int .i64)])]), .sl 164 (.st [.int .i64, .int .i64, .bool, .int .i64]), .sl 169 (.st [.sl 228 (.st [.int .i64, .int .i64]), .sl 25 (.sl 3 (.int .i64))]), .sl 3 (.int .i64)], .int .i64] (.bool)), (174, .fn [.st [.str, .int .i64, .sl 172 (.st [.int .i64, .sl 3 (.int .i64), .sl 3 (.int .i64)])], .st [.str, .int .i64, .sl 172 (.st [.int .i64, .sl 3 (.int .i64), .sl 3 (.int .i64)])]] (.bool)), (175, .fn [.st [.int .i64, .int .i64, .bool, .int .i64], .st [.int .i64, .int .i64, .bool, .int .i64]] (.bool)), (176, .fn [.st [.sl 228 (.st [.int .i64, .int .i64]), .sl 25 (.sl 3 (.int .i64))], .st [.sl 228 (.st [.int .i64, .int .i64]), .sl 25 (.sl 3 (.int .i64))]] (.bool)), (180, .fn [.st [.int .i64, .sl 159 (.st [.str, .int .i64, .sl 172 (.st [.int .i64, .sl 3 (.int .i64), .sl 3 (.int .i64)])]), .sl 164 (.st [.int .i64, .int .i64, .bool, .int .i64]), .sl 169 (.st [.sl 228 (.st [.int .i64, .int .i64]), .sl 25 (.sl 3 (.int .i64))]), .sl 3 (.int .i64)]] (.bool)), (185, .fn [.sl 228 (.st [.int .i64, .int .i64]), .int .i64] (.int .i64)), (190, .fn [.int .i64] (.str)), (191, .fn [.sl 172 (.st [.int .i64, .sl 3 (.int .i64), .sl 3 (.int .i64)]), .int .i64] (.int .i64)), (192, .sl 54 (.st [.int .i64, .int .i64, .int .i64, .int .i64])), (193, .fn [.st [.int .i64, .sl 159 (.st [.str, .int .i64, .sl 172 (.st [.int .i64, .sl 3 (.int .i64), .sl 3 (.int .i64)])]), .sl 164 (.st [.int .i64, .int .i64, .bool, .int .i64]), .sl 169 (.st [.sl 228 (.st [.int .i64, .int .i64]), .sl 25 (.sl 3 (.int .i64))]), .sl 3 (.int .i64)], .st [.sl 3 (.int .i64), .sl 3 (.int .i64)]] (.sl 54 (.st [.int .i64, .int .i64, .int .i64, .int .i64]))), (194, .fn [.sl 3 (.int .i64), .fn [.int .i64, .int .i64] (.int .i64)] (.tup [])), (203, .fn [.sl 3 (.int .i64), .fn [.int .i64] (.bool)] (.sl 3 (.int .i64))), (204, .fn [.st [.int .i64, .sl 159 (.st [.str, .int .i64, .sl 172 (.st [.int .i64, .sl 3 (.int .i64), .sl 3 (.int .i64)])]), .sl 164 (.st [.int .i64, .int .i64, .bool, .int .i64]), .sl 169 (.st [.sl 228 (.st [.int .i64, .int .i64]), .sl 25 (.sl 3 (.int .i64))]), .sl 3 (.int .i64)], .st [.sl 3 (.int .i64), .sl 3 (.int .i64)], .st [.int .i64, .int .i64, .int .i64, .int .i64]] (.bool)), (205, .fn [.st [.sl 3 (.int .i64), .sl 3 (.int .i64)], .st [.int .i64, .int .i64, .bool, .int .i64]] (.bool)), (206, .fn [.sl 242 (.st [.int .i64, .sl 3 (.int .i64), .sl 3 (.int .i64)]), .int .i64] (.int .i64)), (207, .fn [.sl 247 (.st [.int .i64, .int .i64]), .int .i64] (.int .i64)), (208, .fn [.int .i64] (.sl 3 (.int .i64))), (209, .fn [.st [.int .i64, .sl 159 (.st [.str, .int .i64, .sl 172 (.st [.int .i64, .sl 3 (.int .i64), .sl 3 (.int .i64)])]), .sl 164 (.st [.int .i64, .int .i64, .bool, .int .i64]), .sl 169 (.st [.sl 228 (.st [.int .i64, .int .i64]), .sl 25 (.sl 3 (.int .i64))]), .sl 3 (.int .i64)], .st [.sl 3 (.int .i64), .sl 3 (.int .i64)], .int .i64] (.st [.int .i64, .sl 3 (.int .i64), .sl 3 (.int .i64)])), (210, .fn [.sl 242 (.st [.int .i64, .sl 3 (.int .i64), .sl 3 (.int .i64)])] (.sl 172 (.st [.int .i64, .sl 3 (.int .i64), .sl 3 (.int .i64)]))), (211, .fn [.sl 247 (.st [.int .i64, .int .i64])] (.sl 228 (.st [.int .i64, .int .i64]))), (212, .fn [.st [.sl 3 (.int .i64), .sl 3 (.int .i64)], .int .i64] (.st [.int .i64, .sl 3 (.int .i64), .sl 3 (.int .i64)])), (213, .fn [.st [.sl 3 (.int .i64), .sl 3 (.int .i64)], .int .i64, .int .i64, .int .i64] (.bool)), (214, .fn [.sl 172 (.st [.int .i64, .sl 3 (.int .i64), .sl 3 (.int .i64)]), .sl 172 (.st [.int .i64, .sl 3 (.int .i64), .sl 3 (.int .i64)])] (.bool)), (215, .fn [.sl 228 (.st [.int .i64, .int .i64]), .sl 228 (.st [.int .i64, .int .i64])] (.bool)), (219, .fn [.st [.str, .int .i64, .sl 172 (.st [.int .i64, .sl 3 (.int .i64), .sl 3 (.int .i64)])], .int .i64, .int .i64] (.bool)), (220, .fn [.st [.int .i64, .sl 159 (.st [.str, .int .i64, .sl 172 (.st [.int .i64, .sl 3 (.int .i64), .sl 3 (.int .i64)])]), .sl 164 (.st [.int .i64, .int .i64, .bool, .int .i64]), .sl 169 (.st [.sl 228 (.st [.int .i64, .int .i64]), .sl 25 (.sl 3 (.int .i64))]), .sl 3 (.int .i64)], .str] (.int .i64)), (221, .fn [.st [.sl 228 (.st [.int .i64, .int .i64]), .sl 25 (.sl 3 (.int .i64))]] (.bool)), (227, .st [.int .i64, .int .i64]), (228, .st [.int .i64, .int .i64]), (230, .fn [.sl 228 (.st [.int .i64, .int .i64]), .int .i64, .int .i64] (.int .i64)), (231, .sl 5 (.int .u8)), (232, .fn [.st [.int .i64, .sl 159 (.st [.str, .int .i64, .sl 172 (.st [.int .i64, .sl 3 (.int .i64), .sl 3 (.int .i64)])]), .sl 164 (.st [.int .i64, .int .i64, .bool, .int .i64]), .sl 169 (.st [.sl 228 (.st [.int .i64, .int .i64]), .sl 25 (.sl 3 (.int .i64))]), .sl 3 (.int .i64)]] (.sl 54 (.st [.int .i64, .int .i64, .int .i64, .int .i64]))), (233, .fn [] (.sl 54 (.st [.int .i64, .int .i64, .int .i64, .int .i64]))), (234, .fn [.st [.sl 3 (.int .i64), .sl 3 (.int .i64)], .st [.int .i64, .int .i64, .int .i64, .int .i64]] (.bool)), (235, .fn [.sl 3 (.int .i64), .int .i64, .fn [.int .i64, .int .i64] (.int .i64)] (.tup [])), (236, .fn [.sl 164 (.st [.int .i64, .int .i64, .bool, .int .i64]), .fn [.st [.int .i64, .int .i64, .bool, .int .i64]] (.bool)] (.bool)), (237, .fn [.st [.int .i64, .int .i64, .bool, .int .i64]] (.bool)), (240, .fn [.st [.int .i64, .sl 159 (.st [.str, .int .i64, .sl 172 (.st [.int .i64, .sl 3 (.int .i64), .sl 3 (.int .i64)])]), .sl 164 (.st [.int .i64, .int .i64, .bool, .int .i64]), .sl 169 (.st [.sl 228 (.st [.int .i64, .int .i64]), .sl 25 (.sl 3 (.int .i64))]), .sl 3 (.int .i64)], .st [.sl 3 (.int .i64), .sl 3 (.int .i64)], .int .i64, .int .i64] (.int .i64)), (241, .fn [.st [.int .i64, .sl 3 (.int .i64), .sl 3 (.int .i64)], .int .i64] (.int .i64)), (242, .st [.int .i64, .sl 3 (.int .i64), .sl 3 (.int .i64)]), (243, .fn [.sl 228 (.st [.int .i64, .int .i64])] (.bool)), (244, .fn [.st [.int .i64, .sl 159 (.st [.str, .int .i64, .sl 172 (.st [.int .i64, .sl 3 (.int .i64), .sl 3 (.int .i64)])]), .sl 164 (.st [.int .i64, .int .i64, .bool, .int .i64]), .sl 169 (.st [.sl 228 (.st [.int .i64, .int .i64]), .sl 25 (.sl 3 (.int .i64))]), .sl 3 (.int .i64)], .st [.sl 3 (.int .i64), .sl 3 (.int .i64)], .int .i64, .int .i64, .int .i64] (.bool)), (245, .fn [.st [.int .i64, .sl 3 (.int .i64), .sl 3 (.int .i64)]] (.st [.int .i64, .sl 3 (.int .i64), .sl 3 (.int .i64)])), (246, .fn [.st [.int .i64, .int .i64]] (.st [.int .i64, .int .i64])), (247, .st [.int .i64, .int .i64]), (248, .fn [.st [.int .i64, .sl 159 (.st [.str, .int .i64, .sl 172 (.st [.int .i64, .sl 3 (.int .i64), .sl 3 (.int .i64)])]), .sl 164 (.st [.int .i64, .int .i64, .bool, .int .i64]), .sl 169 (.st [.sl 228 (.st [.int .i64, .int .i64]), .sl 25 (.sl 3 (.int .i64))]), .sl 3 (.int .i64)], .int .i64, .int .i64, .int .i64] (.int .i64)), (249, .fn [.st [.int .i64, .sl 3 (.int .i64), .sl 3 (.int .i64)], .st [.int .i64, .sl 3 (.int .i64), .sl 3 (.int .i64)]] (.bool)), (250, .fn [.st [.int .i64, .int .i64], .st [.int .i64, .int .i64]] (.bool)), (253, .fn [.st [.int .i64, .sl 3 (.int .i64), .sl 3 (.int .i64)], .int .i64, .int .i64] (.bool)), (254, .fn [.str] (.bool)), (261, .fn [.st [.sl 3 (.int .i64), .sl 3 (.int .i64)], .int .i64, .int .i64] (.int .i64)), (262, .fn [.st [.sl 3 (.int .i64), .sl 3 (.int .i64)], .int .i64, .int .i64, .int .i64] (.int .i64)), (263, .fn [.sl 3 (.int .i64), .int .i64, .int .i64, .fn [.int .i64, .int .i64] (.int .i64)] (.tup [])), (264, .fn [.sl 3 (.int .i64), .int .i64, .int .i64, .int .i64, .fn [.int .i64, .int .i64] (.int .i64)] (.tup [])), (265, .fn [.sl 159 (.st [.str, .int .i64, .sl 172 (.st [.int .i64, .sl 3 (.int .i64), .sl 3 (.int .i64)])]), .fn [.st [.str, .int .i64, .sl 172 (.st [.int .i64, .sl 3 (.int .i64), .sl 3 (.int .i64)])]] (.bool)] (.int .i64)), (266, .fn [.st [.str, .int .i64, .sl 172 (.st [.int .i64, .sl 3 (.int .i64), .sl 3 (.int .i64)])]] (.bool)), (267, .fn [.sl 164 (.st [.int .i64, .int .i64, .bool, .int .i64]), .fn [.st [.int .i64, .int .i64, .bool, .int .i64]] (.bool)] (.int .i64)), (268, .fn [.sl 228 (.st [.int .i64, .int .i64]), .int .i64, .int .i64] (.bool)), (273, .int .u64), (274, .fn [.st [.sl 3 (.int .i64), .sl 3 (.int .i64)], .int .i64] (.sl 3 (.int .i64)))]
theorem tysOk : LkAll (TnOk Tryz.prog) tys := ⟨tn3, tn4, tn5, tn9, tn22, tn23, tn24, tn25, tn26, tn27, tn28, tn29, tn32, tn36, tn37, tn38, tn39, tn40, tn41, tn42, tn46, tn49, tn54, tn62, tn64, tn66, tn67, tn68, tn69, tn70, tn74, tn92, tn93, tn94, tn95, tn97, tn99, tn100, tn101, tn102, tn103, tn104, tn105, tn106, tn118, tn119, tn120, tn121, tn122, tn123, tn124, tn128, tn135, tn140, tn142, tn143, tn144, tn147, tn148, tn149, tn150, tn151, tn152, tn153, tn154, tn156, tn157, tn158, tn159, tn160, tn162, tn163, tn164, tn165, tn166, tn167, tn168, tn169, tn170, tn171, tn172, tn173, tn174, tn175, tn176, tn180, tn185, tn190, tn191, tn192, tn193, tn194, tn203, tn204, tn205, tn206, tn207, tn208, tn209, tn210, tn211, tn212, tn213, tn214, tn215, tn219, tn220, tn221, tn227, tn228, tn230, tn231, tn232, tn233, tn234, tn235, tn236, tn237, tn240, tn241, tn242, tn243, tn244, tn245, tn246, tn247, tn248, tn249, tn250, tn253, tn254, tn261, tn262, tn263, tn264, tn265, tn266, tn267, tn268, tn273, tn274, trivial⟩
def laws_szIntS (x : ((List Int) × (Int × Unit))) (c : Unit) : (Option (Int × Unit)) :=
  (if (ltZ (subZ .i64 x.2.1 (lenI x.1)) 0) = true then (some ((-1), ())) else (some ((subZ .i64 x.2.1 (lenI x.1)), ())))
def H_laws_szIntS : Hd := ⟨[.sl 3 (.int .i64), .int .i64], [], none, .p, .int .i64, .p, []⟩
def T_laws_szIntS : FSig := ⟨H_laws_szIntS.ps, H_laws_szIntS.cs, H_laws_szIntS.io, H_laws_szIntS.im, H_laws_szIntS.R, H_laws_szIntS.m, laws_szIntS⟩
theorem E_laws_szIntS : fnOf tys [] Tryz.f54 H_laws_szIntS = T_laws_szIntS := by kernel_rfl
theorem K_laws_szIntS : SigOk Tryz.prog 54 T_laws_szIntS := (congrArg (SigOk Tryz.prog 54) E_laws_szIntS).mp (fnOf_ok rfl tysOk trivial Tryz.func54 (by decide) rfl (fun _ h => by cases h) (nilEq_of (by kernel_rfl)))
def laws_szMode (x : (D_Mode × (Int × Unit))) (c : Unit) : (Option (Int × Unit)) :=
  (Option.bind ((Option.bind (laws_szIntS (x.1.2.1, (x.2.1, ())) ()) fun v0 => (some v0.1)) : (Option Int)) fun v1 => (if (ltZ v1 0) = true then (some ((-1), ())) else (Option.bind ((Option.bind (laws_szIntS (x.1.2.2.1, (v1, ())) ()) fun v2 => (some v2.1)) : (Option Int)) fun v3 => (if (ltZ v3 0) = true then (some ((-1), ())) else (some (v3, ()))))))
def H_laws_szMode : Hd := ⟨[.st [.int .i64, .sl 3 (.int .i64), .sl 3 (.int .i64)], .int .i64], [], none, .p, .int .i64, .p, []⟩
def T_laws_szMode : FSig := ⟨H_laws_szMode.ps, H_laws_szMode.cs, H_laws_szMode.io, H_laws_szMode.im, H_laws_szMode.R, H_laws_szMode.m, laws_szMode⟩
theorem E_laws_szMode : fnOf tys [(54, T_laws_szIntS)] Tryz.f261 H_laws_szMode = T_laws_szMode := by kernel_rfl
theorem K_laws_szMode : SigOk Tryz.prog 261 T_laws_szMode := (congrArg (SigOk Tryz.prog 261) E_laws_szMode).mp (fnOf_ok rfl tysOk ⟨K_laws_szIntS, trivial⟩ Tryz.func261 (by decide) rfl (fun _ h => by cases h) (nilEq_of (by kernel_rfl)))
def laws_szModeS_L0 : (Int × ((List D_Mode) × (Int × Unit))) → Option (Out (Int × ((List D_Mode) × (Int × Unit))) ((Bool × (Int × ((List D_Mode) × (Int × Unit)))) ⊕ Empty) (Int × Unit)) :=
  (fun v0 => (if (ltZ v0.1 (lenI v0.2.1)) = true then (Option.bind (getI v0.2.1 v0.1) fun v1 => (Option.bind ((Option.bind (laws_szMode (v1, (v0.2.2.1, ())) ()) fun v2 => (some v2.1)) : (Option Int)) fun v3 => (if (ltZ v3 0) = true then (some (Out.ret ((-1), ()))) else (some (Out.norm ((addZ .i64 v0.1 1), (v0.2.1, (v3, ())))))))) else (some (Out.exit (Sum.inl ((ltZ v0.1 (lenI v0.2.1)), (v0.1, (v0.2.1, (v0.2.2.1, ())))))))))
def laws_szModeS (x : ((List D_Mode) × (Int × Unit))) (c : Unit) : (Option (Int × Unit)) :=
  (if (ltZ (subZ .i64 x.2.1 (lenI x.1)) 0) = true then (some ((-1), ())) else (Option.bind (loopN (A := (Int × ((List D_Mode) × (Int × Unit)))) big laws_szModeS_L0 (0, (x.1, ((subZ .i64 x.2.1 (lenI x.1)), ())))) fun v4 => (match v4 with | Out.norm v5 => none | Out.exit v6 => (match ((match v6 with | Sum.inl v9 => (Sum.inl (v9.2.2.2.1, ())) | Sum.inr v10 => (Empty.elim v10)) : ((Int × Unit) ⊕ Empty)) with | Sum.inl v7 => (some (v7.1, ())) | Sum.inr v8 => none) | Out.ret v11 => (some v11))))
def H_laws_szModeS : Hd := ⟨[.sl 242 (.st [.int .i64, .sl 3 (.int .i64), .sl 3 (.int .i64)]), .int .i64], [], none, .p, .int .i64, .p, []⟩
def T_laws_szModeS : FSig := ⟨H_laws_szModeS.ps, H_laws_szModeS.cs, H_laws_szModeS.io, H_laws_szModeS.im, H_laws_szModeS.R, H_laws_szModeS.m, laws_szModeS⟩
theorem E_laws_szModeS : fnOf tys [(261, T_laws_szMode)] Tryz.f201 H_laws_szModeS = T_laws_szModeS := by kernel_rfl
theorem K_laws_szModeS : SigOk Tryz.prog 201 T_laws_szModeS := (congrArg (SigOk Tryz.prog 201) E_laws_szModeS).mp (fnOf_ok rfl tysOk ⟨K_laws_szMode, trivial⟩ Tryz.func201 (by decide) rfl (fun _ h => by cases h) (nilEq_of (by kernel_rfl)))
def laws_szActivity (x : (D_Activity × (Int × Unit))) (c : Unit) : (Option (Int × Unit)) :=
  (if (ltZ (subZ .i64 x.2.1 (lenI x.1.1)) 0) = true then (some ((-1), ())) else (Option.bind ((Option.bind (laws_szModeS (x.1.2.2.1, ((subZ .i64 x.2.1 (lenI x.1.1)), ())) ()) fun v0 => (some v0.1)) : (Option Int)) fun v1 => (if (ltZ v1 0) = true then (some ((-1), ())) else (some (v1, ())))))
def H_laws_szActivity : Hd := ⟨[.st [.str, .int .i64, .sl 242 (.st [.int .i64, .sl 3 (.int .i64), .sl 3 (.int .i64)])], .int .i64], [], none, .p, .int .i64, .p, []⟩
def T_laws_szActivity : FSig := ⟨H_laws_szActivity.ps, H_laws_szActivity.cs, H_laws_szActivity.io, H_laws_szActivity.im, H_laws_szActivity.R, H_laws_szActivity.m, laws_szActivity⟩
theorem E_laws_szActivity : fnOf tys [(201, T_laws_szModeS)] Tryz.f118 H_laws_szActivity = T_laws_szActivity := by kernel_rfl
theorem K_laws_szActivity : SigOk Tryz.prog 118 T_laws_szActivity := (congrArg (SigOk Tryz.prog 118) E_laws_szActivity).mp (fnOf_ok rfl tysOk ⟨K_laws_szModeS, trivial⟩ Tryz.func118 (by decide) rfl (fun _ h => by cases h) (nilEq_of (by kernel_rfl)))
def laws_szActivityS_L0 : (Int × ((List D_Activity) × (Int × Unit))) → Option (Out (Int × ((List D_Activity) × (Int × Unit))) ((Bool × (Int × ((List D_Activity) × (Int × Unit)))) ⊕ Empty) (Int × Unit)) :=
  (fun v0 => (if (ltZ v0.1 (lenI v0.2.1)) = true then (Option.bind (getI v0.2.1 v0.1) fun v1 => (Option.bind ((Option.bind (laws_szActivity (v1, (v0.2.2.1, ())) ()) fun v2 => (some v2.1)) : (Option Int)) fun v3 => (if (ltZ v3 0) = true then (some (Out.ret ((-1), ()))) else (some (Out.norm ((addZ .i64 v0.1 1), (v0.2.1, (v3, ())))))))) else (some (Out.exit (Sum.inl ((ltZ v0.1 (lenI v0.2.1)), (v0.1, (v0.2.1, (v0.2.2.1, ())))))))))
def laws_szActivityS (x : ((List D_Activity) × (Int × Unit))) (c : Unit) : (Option (Int × Unit)) :=
  (if (ltZ (subZ .i64 x.2.1 (lenI x.1)) 0) = true then (some ((-1), ())) else (Option.bind (loopN (A := (Int × ((List D_Activity) × (Int × Unit)))) big laws_szActivityS_L0 (0, (x.1, ((subZ .i64 x.2.1 (lenI x.1)), ())))) fun v4 => (match v4 with | Out.norm v5 => none | Out.exit v6 => (match ((match v6 with | Sum.inl v9 => (Sum.inl (v9.2.2.2.1, ())) | Sum.inr v10 => (Empty.elim v10)) : ((Int × Unit) ⊕ Empty)) with | Sum.inl v7 => (some (v7.1, ())) | Sum.inr v8 => none) | Out.ret v11 => (some v11))))
def H_laws_szActivityS : Hd := ⟨[.sl 150 (.st [.str, .int .i64, .sl 242 (.st [.int .i64, .sl 3 (.int .i64), .sl 3 (.int .i64)])]), .int .i64], [], none, .p, .int .i64, .p, []⟩
def T_laws_szActivityS : FSig := ⟨H_laws_szActivityS.ps, H_laws_szActivityS.cs, H_laws_szActivityS.io, H_laws_szActivityS.im, H_laws_szActivityS.R, H_laws_szActivityS.m, laws_szActivityS⟩
theorem E_laws_szActivityS : fnOf tys [(118, T_laws_szActivity)] Tryz.f51 H_laws_szActivityS = T_laws_szActivityS := by kernel_rfl
theorem K_laws_szActivityS : SigOk Tryz.prog 51 T_laws_szActivityS := (congrArg (SigOk Tryz.prog 51) E_laws_szActivityS).mp (fnOf_ok rfl tysOk ⟨K_laws_szActivity, trivial⟩ Tryz.func51 (by decide) rfl (fun _ h => by cases h) (nilEq_of (by kernel_rfl)))
def laws_szLinkS (x : ((List D_Link) × (Int × Unit))) (c : Unit) : (Option (Int × Unit)) :=
  (if (ltZ (subZ .i64 x.2.1 (lenI x.1)) 0) = true then (some ((-1), ())) else (some ((subZ .i64 x.2.1 (lenI x.1)), ())))
def H_laws_szLinkS : Hd := ⟨[.sl 166 (.st [.int .i64, .int .i64, .bool, .int .i64]), .int .i64], [], none, .p, .int .i64, .p, []⟩
def T_laws_szLinkS : FSig := ⟨H_laws_szLinkS.ps, H_laws_szLinkS.cs, H_laws_szLinkS.io, H_laws_szLinkS.im, H_laws_szLinkS.R, H_laws_szLinkS.m, laws_szLinkS⟩
theorem E_laws_szLinkS : fnOf tys [] Tryz.f52 H_laws_szLinkS = T_laws_szLinkS := by kernel_rfl
theorem K_laws_szLinkS : SigOk Tryz.prog 52 T_laws_szLinkS := (congrArg (SigOk Tryz.prog 52) E_laws_szLinkS).mp (fnOf_ok rfl tysOk trivial Tryz.func52 (by decide) rfl (fun _ h => by cases h) (nilEq_of (by kernel_rfl)))
def laws_szIntSS_L0 : (Int × ((List (List Int)) × (Int × Unit))) → Option (Out (Int × ((List (List Int)) × (Int × Unit))) ((Bool × (Int × ((List (List Int)) × (Int × Unit)))) ⊕ Empty) (Int × Unit)) :=
  (fun v0 => (if (ltZ v0.1 (lenI v0.2.1)) = true then (Option.bind (getI v0.2.1 v0.1) fun v1 => (Option.bind ((Option.bind (laws_szIntS (v1, (v0.2.2.1, ())) ()) fun v2 => (some v2.1)) : (Option Int)) fun v3 => (if (ltZ v3 0) = true then (some (Out.ret ((-1), ()))) else (some (Out.norm ((addZ .i64 v0.1 1), (v0.2.1, (v3, ())))))))) else (some (Out.exit (Sum.inl ((ltZ v0.1 (lenI v0.2.1)), (v0.1, (v0.2.1, (v0.2.2.1, ())))))))))
def laws_szIntSS (x : ((List (List Int)) × (Int × Unit))) (c : Unit) : (Option (Int × Unit)) :=
  (if (ltZ (subZ .i64 x.2.1 (lenI x.1)) 0) = true then (some ((-1), ())) else (Option.bind (loopN (A := (Int × ((List (List Int)) × (Int × Unit)))) big laws_szIntSS_L0 (0, (x.1, ((subZ .i64 x.2.1 (lenI x.1)), ())))) fun v4 => (match v4 with | Out.norm v5 => none | Out.exit v6 => (match ((match v6 with | Sum.inl v9 => (Sum.inl (v9.2.2.2.1, ())) | Sum.inr v10 => (Empty.elim v10)) : ((Int × Unit) ⊕ Empty)) with | Sum.inl v7 => (some (v7.1, ())) | Sum.inr v8 => none) | Out.ret v11 => (some v11))))
def H_laws_szIntSS : Hd := ⟨[.sl 25 (.sl 3 (.int .i64)), .int .i64], [], none, .p, .int .i64, .p, []⟩
def T_laws_szIntSS : FSig := ⟨H_laws_szIntSS.ps, H_laws_szIntSS.cs, H_laws_szIntSS.io, H_laws_szIntSS.im, H_laws_szIntSS.R, H_laws_szIntSS.m, laws_szIntSS⟩
theorem E_laws_szIntSS : fnOf tys [(54, T_laws_szIntS)] Tryz.f93 H_laws_szIntSS = T_laws_szIntSS := by kernel_rfl
theorem K_laws_szIntSS : SigOk Tryz.prog 93 T_laws_szIntSS := (congrArg (SigOk Tryz.prog 93) E_laws_szIntSS).mp (fnOf_ok rfl tysOk ⟨K_laws_szIntS, trivial⟩ Tryz.func93 (by decide) rfl (fun _ h => by cases h) (nilEq_of (by kernel_rfl)))
def laws_szStepS (x : ((List D_Step) × (Int × Unit))) (c : Unit) : (Option (Int × Unit)) :=
  (if (ltZ (subZ .i64 x.2.1 (lenI x.1)) 0) = true then (some ((-1), ())) else (some ((subZ .i64 x.2.1 (lenI x.1)), ())))
def H_laws_szStepS : Hd := ⟨[.sl 247 (.st [.int .i64, .int .i64]), .int .i64], [], none, .p, .int .i64, .p, []⟩
def T_laws_szStepS : FSig := ⟨H_laws_szStepS.ps, H_laws_szStepS.cs, H_laws_szStepS.io, H_laws_szStepS.im, H_laws_szStepS.R, H_laws_szStepS.m, laws_szStepS⟩
theorem E_laws_szStepS : fnOf tys [] Tryz.f202 H_laws_szStepS = T_laws_szStepS := by kernel_rfl
theorem K_laws_szStepS : SigOk Tryz.prog 202 T_laws_szStepS := (congrArg (SigOk Tryz.prog 202) E_laws_szStepS).mp (fnOf_ok rfl tysOk trivial Tryz.func202 (by decide) rfl (fun _ h => by cases h) (nilEq_of (by kernel_rfl)))
def laws_szResource (x : (D_Resource × (Int × Unit))) (c : Unit) : (Option (Int × Unit)) :=
  (Option.bind ((Option.bind (laws_szStepS (x.1.1, (x.2.1, ())) ()) fun v0 => (some v0.1)) : (Option Int)) fun v1 => (if (ltZ v1 0) = true then (some ((-1), ())) else (Option.bind ((Option.bind (laws_szIntSS (x.1.2.1, (v1, ())) ()) fun v2 => (some v2.1)) : (Option Int)) fun v3 => (if (ltZ v3 0) = true then (some ((-1), ())) else (some (v3, ()))))))
def H_laws_szResource : Hd := ⟨[.st [.sl 247 (.st [.int .i64, .int .i64]), .sl 25 (.sl 3 (.int .i64))], .int .i64], [], none, .p, .int .i64, .p, []⟩
def T_laws_szResource : FSig := ⟨H_laws_szResource.ps, H_laws_szResource.cs, H_laws_szResource.io, H_laws_szResource.im, H_laws_szResource.R, H_laws_szResource.m, laws_szResource⟩
theorem E_laws_szResource : fnOf tys [(93, T_laws_szIntSS), (202, T_laws_szStepS)] Tryz.f119 H_laws_szResource = T_laws_szResource := by kernel_rfl
theorem K_laws_szResource : SigOk Tryz.prog 119 T_laws_szResource := (congrArg (SigOk Tryz.prog 119) E_laws_szResource).mp (fnOf_ok rfl tysOk ⟨K_laws_szIntSS, K_laws_szStepS, trivial⟩ Tryz.func119 (by decide) rfl (fun _ h => by cases h) (nilEq_of (by kernel_rfl)))
def laws_szResourceS_L0 : (Int × ((List D_Resource) × (Int × Unit))) → Option (Out (Int × ((List D_Resource) × (Int × Unit))) ((Bool × (Int × ((List D_Resource) × (Int × Unit)))) ⊕ Empty) (Int × Unit)) :=
  (fun v0 => (if (ltZ v0.1 (lenI v0.2.1)) = true then (Option.bind (getI v0.2.1 v0.1) fun v1 => (Option.bind ((Option.bind (laws_szResource (v1, (v0.2.2.1, ())) ()) fun v2 => (some v2.1)) : (Option Int)) fun v3 => (if (ltZ v3 0) = true then (some (Out.ret ((-1), ()))) else (some (Out.norm ((addZ .i64 v0.1 1), (v0.2.1, (v3, ())))))))) else (some (Out.exit (Sum.inl ((ltZ v0.1 (lenI v0.2.1)), (v0.1, (v0.2.1, (v0.2.2.1, ())))))))))
def laws_szResourceS (x : ((List D_Resource) × (Int × Unit))) (c : Unit) : (Option (Int × Unit)) :=
  (if (ltZ (subZ .i64 x.2.1 (lenI x.1)) 0) = true then (some ((-1), ())) else (Option.bind (loopN (A := (Int × ((List D_Resource) × (Int × Unit)))) big laws_szResourceS_L0 (0, (x.1, ((subZ .i64 x.2.1 (lenI x.1)), ())))) fun v4 => (match v4 with | Out.norm v5 => none | Out.exit v6 => (match ((match v6 with | Sum.inl v9 => (Sum.inl (v9.2.2.2.1, ())) | Sum.inr v10 => (Empty.elim v10)) : ((Int × Unit) ⊕ Empty)) with | Sum.inl v7 => (some (v7.1, ())) | Sum.inr v8 => none) | Out.ret v11 => (some v11))))
def H_laws_szResourceS : Hd := ⟨[.sl 154 (.st [.sl 247 (.st [.int .i64, .int .i64]), .sl 25 (.sl 3 (.int .i64))]), .int .i64], [], none, .p, .int .i64, .p, []⟩
def T_laws_szResourceS : FSig := ⟨H_laws_szResourceS.ps, H_laws_szResourceS.cs, H_laws_szResourceS.io, H_laws_szResourceS.im, H_laws_szResourceS.R, H_laws_szResourceS.m, laws_szResourceS⟩
theorem E_laws_szResourceS : fnOf tys [(119, T_laws_szResource)] Tryz.f53 H_laws_szResourceS = T_laws_szResourceS := by kernel_rfl
theorem K_laws_szResourceS : SigOk Tryz.prog 53 T_laws_szResourceS := (congrArg (SigOk Tryz.prog 53) E_laws_szResourceS).mp (fnOf_ok rfl tysOk ⟨K_laws_szResource, trivial⟩ Tryz.func53 (by decide) rfl (fun _ h => by cases h) (nilEq_of (by kernel_rfl)))
def laws_szProject (x : (D_Project × (Int × Unit))) (c : Unit) : (Option (Int × Unit)) :=
  (Option.bind ((Option.bind (laws_szActivityS (x.1.2.1, (x.2.1, ())) ()) fun v0 => (some v0.1)) : (Option Int)) fun v1 => (if (ltZ v1 0) = true then (some ((-1), ())) else (Option.bind ((Option.bind (laws_szLinkS (x.1.2.2.1, (v1, ())) ()) fun v2 => (some v2.1)) : (Option Int)) fun v3 => (if (ltZ v3 0) = true then (some ((-1), ())) else (Option.bind ((Option.bind (laws_szResourceS (x.1.2.2.2.1, (v3, ())) ()) fun v4 => (some v4.1)) : (Option Int)) fun v5 => (if (ltZ v5 0) = true then (some ((-1), ())) else (Option.bind ((Option.bind (laws_szIntS (x.1.2.2.2.2.1, (v5, ())) ()) fun v6 => (some v6.1)) : (Option Int)) fun v7 => (if (ltZ v7 0) = true then (some ((-1), ())) else (some (v7, ()))))))))))
def H_laws_szProject : Hd := ⟨[.st [.int .i64, .sl 150 (.st [.str, .int .i64, .sl 242 (.st [.int .i64, .sl 3 (.int .i64), .sl 3 (.int .i64)])]), .sl 166 (.st [.int .i64, .int .i64, .bool, .int .i64]), .sl 154 (.st [.sl 247 (.st [.int .i64, .int .i64]), .sl 25 (.sl 3 (.int .i64))]), .sl 3 (.int .i64)], .int .i64], [], none, .p, .int .i64, .p, []⟩
def T_laws_szProject : FSig := ⟨H_laws_szProject.ps, H_laws_szProject.cs, H_laws_szProject.io, H_laws_szProject.im, H_laws_szProject.R, H_laws_szProject.m, laws_szProject⟩
theorem E_laws_szProject : fnOf tys [(51, T_laws_szActivityS), (52, T_laws_szLinkS), (53, T_laws_szResourceS), (54, T_laws_szIntS)] Tryz.f10 H_laws_szProject = T_laws_szProject := by kernel_rfl
theorem K_laws_szProject : SigOk Tryz.prog 10 T_laws_szProject := (congrArg (SigOk Tryz.prog 10) E_laws_szProject).mp (fnOf_ok rfl tysOk ⟨K_laws_szActivityS, K_laws_szLinkS, K_laws_szResourceS, K_laws_szIntS, trivial⟩ Tryz.func10 (by decide) rfl (fun _ h => by cases h) (nilEq_of (by kernel_rfl)))
def laws_szSchedule (x : (D_Schedule × (Int × Unit))) (c : Unit) : (Option (Int × Unit)) :=
  (Option.bind ((Option.bind (laws_szIntS (x.1.1, (x.2.1, ())) ()) fun v0 => (some v0.1)) : (Option Int)) fun v1 => (if (ltZ v1 0) = true then (some ((-1), ())) else (Option.bind ((Option.bind (laws_szIntS (x.1.2.1, (v1, ())) ()) fun v2 => (some v2.1)) : (Option Int)) fun v3 => (if (ltZ v3 0) = true then (some ((-1), ())) else (some (v3, ()))))))
def H_laws_szSchedule : Hd := ⟨[.st [.sl 3 (.int .i64), .sl 3 (.int .i64)], .int .i64], [], none, .p, .int .i64, .p, []⟩
def T_laws_szSchedule : FSig := ⟨H_laws_szSchedule.ps, H_laws_szSchedule.cs, H_laws_szSchedule.io, H_laws_szSchedule.im, H_laws_szSchedule.R, H_laws_szSchedule.m, laws_szSchedule⟩
theorem E_laws_szSchedule : fnOf tys [(54, T_laws_szIntS)] Tryz.f29 H_laws_szSchedule = T_laws_szSchedule := by kernel_rfl
theorem K_laws_szSchedule : SigOk Tryz.prog 29 T_laws_szSchedule := (congrArg (SigOk Tryz.prog 29) E_laws_szSchedule).mp (fnOf_ok rfl tysOk ⟨K_laws_szIntS, trivial⟩ Tryz.func29 (by decide) rfl (fun _ h => by cases h) (nilEq_of (by kernel_rfl)))
def spec_l01In (x : (Int × D_Step)) (c : Unit) : (Option (Bool × Unit)) :=
  (Option.bind ((if (leZ x.2.1 x.1) = true then (some ((leZ x.1 x.2.2.1), ())) else (some (false, ()))) : (Option (Bool × Unit))) fun v0 => (some (v0.1, ())))
def H_spec_l01In : Hd := ⟨[.int .i64, .int .i64, .int .i64], [], none, .p, .bool, .p, []⟩
def T_spec_l01In : FSig := ⟨H_spec_l01In.ps, H_spec_l01In.cs, H_spec_l01In.io, H_spec_l01In.im, H_spec_l01In.R, H_spec_l01In.m, spec_l01In⟩
theorem E_spec_l01In : fnOf tys [] Tryz.f111 H_spec_l01In = T_spec_l01In := by kernel_rfl
theorem K_spec_l01In : SigOk Tryz.prog 111 T_spec_l01In := (congrArg (SigOk Tryz.prog 111) E_spec_l01In).mp (fnOf_ok rfl tysOk trivial Tryz.func111 (by decide) rfl (fun _ h => by cases h) (nilEq_of (by kernel_rfl)))
def spec_l04Nums_L0 : (Int × (Int × ((List Int) × ((List Int) × (Int × Unit))))) → Option (Out (Int × (Int × ((List Int) × ((List Int) × (Int × Unit))))) ((Bool × (Int × (Int × ((List Int) × ((List Int) × (Int × Unit)))))) ⊕ Empty) (Bool × Unit)) :=
  (fun v0 => (if (ltZ v0.1 v0.2.1) = true then (Option.bind (getI v0.2.2.1 v0.1) fun v1 => (Option.bind ((Option.bind (spec_l01In (v1, (0, (20, ()))) ()) fun v2 => (some v2.1)) : (Option Bool)) fun v3 => (if (notB v3) = true then (some (Out.ret (false, ()))) else (some (Out.norm ((addZ .i64 v0.1 1), (v0.2.1, (v0.2.2.1, (v0.2.2.2.1, (v0.2.2.2.2.1, ())))))))))) else (some (Out.exit (Sum.inl ((ltZ v0.1 v0.2.1), (v0.1, (v0.2.1, (v0.2.2.1, (v0.2.2.2.1, (v0.2.2.2.2.1, ())))))))))))
def spec_l04Nums (x : ((List Int) × (Int × Unit))) (c : Unit) : (Option (Bool × Unit)) :=
  (Option.bind (loopN (A := (Int × (Int × ((List Int) × ((List Int) × (Int × Unit)))))) big spec_l04Nums_L0 (0, ((lenI x.1), (x.1, (x.1, (x.2.1, ())))))) fun v4 => (match v4 with | Out.norm v5 => none | Out.exit v6 => (match ((match v6 with | Sum.inl v9 => (Sum.inl (v9.2.2.2.2.1, (v9.2.2.2.2.2.1, ()))) | Sum.inr v10 => (Empty.elim v10)) : (((List Int) × (Int × Unit)) ⊕ Empty)) with | Sum.inl v7 => (some ((eqZ (lenI v7.1) v7.2.1), ())) | Sum.inr v8 => none) | Out.ret v11 => (some v11)))
def H_spec_l04Nums : Hd := ⟨[.sl 3 (.int .i64), .int .i64], [], none, .p, .bool, .p, []⟩
def T_spec_l04Nums : FSig := ⟨H_spec_l04Nums.ps, H_spec_l04Nums.cs, H_spec_l04Nums.io, H_spec_l04Nums.im, H_spec_l04Nums.R, H_spec_l04Nums.m, spec_l04Nums⟩
theorem E_spec_l04Nums : fnOf tys [(111, T_spec_l01In)] Tryz.f306 H_spec_l04Nums = T_spec_l04Nums := by kernel_rfl
theorem K_spec_l04Nums : SigOk Tryz.prog 306 T_spec_l04Nums := (congrArg (SigOk Tryz.prog 306) E_spec_l04Nums).mp (fnOf_ok rfl tysOk ⟨K_spec_l01In, trivial⟩ Tryz.func306 (by decide) rfl (fun _ h => by cases h) (nilEq_of (by kernel_rfl)))
def spec_ModeOk (x : (D_Mode × D_Step)) (c : Unit) : (Option (Bool × Unit)) :=
  (Option.bind ((Option.bind (spec_l01In (x.1.1, (1, (12, ()))) ()) fun v0 => (some v0.1)) : (Option Bool)) fun v1 => (Option.bind ((if v1 = true then (Option.bind ((Option.bind (spec_l04Nums (x.1.2.1, (x.2.1, ())) ()) fun v2 => (some v2.1)) : (Option Bool)) fun v3 => (Option.bind ((if v3 = true then (Option.bind ((Option.bind (spec_l04Nums (x.1.2.2.1, (x.2.2.1, ())) ()) fun v4 => (some v4.1)) : (Option Bool)) fun v5 => (some (v5, ()))) else (some (false, ()))) : (Option (Bool × Unit))) fun v6 => (some (v6.1, ())))) else (some (false, ()))) : (Option (Bool × Unit))) fun v7 => (some (v7.1, ()))))
def H_spec_ModeOk : Hd := ⟨[.st [.int .i64, .sl 3 (.int .i64), .sl 3 (.int .i64)], .int .i64, .int .i64], [], none, .p, .bool, .p, []⟩
def T_spec_ModeOk : FSig := ⟨H_spec_ModeOk.ps, H_spec_ModeOk.cs, H_spec_ModeOk.io, H_spec_ModeOk.im, H_spec_ModeOk.R, H_spec_ModeOk.m, spec_ModeOk⟩
theorem E_spec_ModeOk : fnOf tys [(111, T_spec_l01In), (306, T_spec_l04Nums)] Tryz.f276 H_spec_ModeOk = T_spec_ModeOk := by kernel_rfl
theorem K_spec_ModeOk : SigOk Tryz.prog 276 T_spec_ModeOk := (congrArg (SigOk Tryz.prog 276) E_spec_ModeOk).mp (fnOf_ok rfl tysOk ⟨K_spec_l01In, K_spec_l04Nums, trivial⟩ Tryz.func276 (by decide) rfl (fun _ h => by cases h) (nilEq_of (by kernel_rfl)))
def spec_IsName_L0 : (Int × ((List UInt8) × Unit)) → Option (Out (Int × ((List UInt8) × Unit)) ((Bool × (Int × ((List UInt8) × Unit))) ⊕ Empty) (Bool × Unit)) :=
  (fun v0 => (if (ltZ v0.1 (lenI v0.2.1)) = true then (Option.bind (byteAt v0.2.1 v0.1) fun v1 => (Option.bind ((if (leZ 97 v1) = true then (Option.bind (byteAt v0.2.1 v0.1) fun v2 => (some ((leZ v2 122), (v0.1, (v0.2.1, ()))))) else (some (false, (v0.1, (v0.2.1, ()))))) : (Option (Bool × (Int × ((List UInt8) × Unit))))) fun v3 => (Option.bind ((if (notB v3.1) = true then (Option.bind ((if (eqZ v3.2.1 0) = true then (some (true, (v3.2.1, (v3.2.2.1, ())))) else (Option.bind (byteAt v3.2.2.1 v3.2.1) fun v4 => (Option.bind ((if (ltZ v4 48) = true then (some (true, (v3.2.1, (v3.2.2.1, ())))) else (Option.bind (byteAt v3.2.2.1 v3.2.1) fun v5 => (some ((ltZ 57 v5), (v3.2.1, (v3.2.2.1, ())))))) : (Option (Bool × (Int × ((List UInt8) × Unit))))) fun v6 => (some (v6.1, (v6.2.1, (v6.2.2.1, ()))))))) : (Option (Bool × (Int × ((List UInt8) × Unit))))) fun v7 => (some (v7.1, (v7.2.1, (v7.2.2.1, ()))))) else (some (false, (v3.2.1, (v3.2.2.1, ()))))) : (Option (Bool × (Int × ((List UInt8) × Unit))))) fun v8 => (if v8.1 = true then (some (Out.ret (false, ()))) else (some (Out.norm ((addZ .i64 v8.2.1 1), (v8.2.2.1, ())))))))) else (some (Out.exit (Sum.inl ((ltZ v0.1 (lenI v0.2.1)), (v0.1, (v0.2.1, ()))))))))
def spec_IsName (x : ((List UInt8) × Unit)) (c : Unit) : (Option (Bool × Unit)) :=
  (Option.bind (loopN (A := (Int × ((List UInt8) × Unit))) big spec_IsName_L0 (0, (x.1, ()))) fun v9 => (match v9 with | Out.norm v10 => none | Out.exit v11 => (match ((match v11 with | Sum.inl v16 => (Sum.inl (v16.2.2.1, ())) | Sum.inr v17 => (Empty.elim v17)) : (((List UInt8) × Unit) ⊕ Empty)) with | Sum.inl v12 => (Option.bind ((Option.bind (spec_l01In ((lenI v12.1), (1, (8, ()))) ()) fun v13 => (some v13.1)) : (Option Bool)) fun v14 => (some (v14, ()))) | Sum.inr v15 => none) | Out.ret v18 => (some v18)))
def H_spec_IsName : Hd := ⟨[.str], [], none, .p, .bool, .p, []⟩
def T_spec_IsName : FSig := ⟨H_spec_IsName.ps, H_spec_IsName.cs, H_spec_IsName.io, H_spec_IsName.im, H_spec_IsName.R, H_spec_IsName.m, spec_IsName⟩
theorem E_spec_IsName : fnOf tys [(111, T_spec_l01In)] Tryz.f277 H_spec_IsName = T_spec_IsName := by kernel_rfl
theorem K_spec_IsName : SigOk Tryz.prog 277 T_spec_IsName := (congrArg (SigOk Tryz.prog 277) E_spec_IsName).mp (fnOf_ok rfl tysOk ⟨K_spec_l01In, trivial⟩ Tryz.func277 (by decide) rfl (fun _ h => by cases h) (nilEq_of (by kernel_rfl)))
def spec_ActivityOk_L0 : (Int × (Int × ((List D_Mode) × (Int × (Int × (D_Activity × Unit)))))) → Option (Out (Int × (Int × ((List D_Mode) × (Int × (Int × (D_Activity × Unit)))))) ((Bool × (Int × (Int × ((List D_Mode) × (Int × (Int × (D_Activity × Unit))))))) ⊕ Empty) (Bool × Unit)) :=
  (fun v0 => (if (ltZ v0.1 v0.2.1) = true then (Option.bind (getI v0.2.2.1 v0.1) fun v1 => (Option.bind ((Option.bind (spec_ModeOk (v1, (v0.2.2.2.1, (v0.2.2.2.2.1, ()))) ()) fun v2 => (some v2.1)) : (Option Bool)) fun v3 => (if (notB v3) = true then (some (Out.ret (false, ()))) else (some (Out.norm ((addZ .i64 v0.1 1), (v0.2.1, (v0.2.2.1, (v0.2.2.2.1, (v0.2.2.2.2.1, (v0.2.2.2.2.2.1, ()))))))))))) else (some (Out.exit (Sum.inl ((ltZ v0.1 v0.2.1), (v0.1, (v0.2.1, (v0.2.2.1, (v0.2.2.2.1, (v0.2.2.2.2.1, (v0.2.2.2.2.2.1, ()))))))))))))
def spec_ActivityOk (x : (D_Activity × D_Step)) (c : Unit) : (Option (Bool × Unit)) :=
  (Option.bind (loopN (A := (Int × (Int × ((List D_Mode) × (Int × (Int × (D_Activity × Unit))))))) big spec_ActivityOk_L0 (0, ((lenI x.1.2.2.1), (x.1.2.2.1, (x.2.1, (x.2.2.1, (x.1, ()))))))) fun v4 => (match v4 with | Out.norm v5 => none | Out.exit v6 => (match ((match v6 with | Sum.inl v17 => (Sum.inl (v17.2.2.2.2.2.2.1, ())) | Sum.inr v18 => (Empty.elim v18)) : ((D_Activity × Unit) ⊕ Empty)) with | Sum.inl v7 => (Option.bind ((Option.bind (spec_IsName (v7.1.1, ()) ()) fun v8 => (some v8.1)) : (Option Bool)) fun v9 => (Option.bind ((if v9 = true then (Option.bind ((Option.bind (spec_l01In (v7.1.2.1, (0, (3, ()))) ()) fun v10 => (some v10.1)) : (Option Bool)) fun v11 => (Option.bind ((if v11 = true then (Option.bind ((Option.bind (spec_l01In ((lenI v7.1.2.2.1), (1, (3, ()))) ()) fun v12 => (some v12.1)) : (Option Bool)) fun v13 => (some (v13, ()))) else (some (false, ()))) : (Option (Bool × Unit))) fun v14 => (some (v14.1, ())))) else (some (false, ()))) : (Option (Bool × Unit))) fun v15 => (some (v15.1, ())))) | Sum.inr v16 => none) | Out.ret v19 => (some v19)))
def H_spec_ActivityOk : Hd := ⟨[.st [.str, .int .i64, .sl 172 (.st [.int .i64, .sl 3 (.int .i64), .sl 3 (.int .i64)])], .int .i64, .int .i64], [], none, .p, .bool, .p, []⟩
def T_spec_ActivityOk : FSig := ⟨H_spec_ActivityOk.ps, H_spec_ActivityOk.cs, H_spec_ActivityOk.io, H_spec_ActivityOk.im, H_spec_ActivityOk.R, H_spec_ActivityOk.m, spec_ActivityOk⟩
theorem E_spec_ActivityOk : fnOf tys [(111, T_spec_l01In), (276, T_spec_ModeOk), (277, T_spec_IsName)] Tryz.f225 H_spec_ActivityOk = T_spec_ActivityOk := by kernel_rfl
theorem K_spec_ActivityOk : SigOk Tryz.prog 225 T_spec_ActivityOk := (congrArg (SigOk Tryz.prog 225) E_spec_ActivityOk).mp (fnOf_ok rfl tysOk ⟨K_spec_l01In, K_spec_ModeOk, K_spec_IsName, trivial⟩ Tryz.func225 (by decide) rfl (fun _ h => by cases h) (nilEq_of (by kernel_rfl)))
def spec_ActivityIndex_L0 : (Int × (Int × ((List D_Activity) × ((List UInt8) × Unit)))) → Option (Out (Int × (Int × ((List D_Activity) × ((List UInt8) × Unit)))) ((Bool × (Int × (Int × ((List D_Activity) × ((List UInt8) × Unit))))) ⊕ Empty) (Int × Unit)) :=
  (fun v0 => (if (ltZ v0.1 v0.2.1) = true then (Option.bind (getI v0.2.2.1 v0.1) fun v1 => (if (eqS v1.1 v0.2.2.2.1) = true then (some (Out.ret (v0.1, ()))) else (some (Out.norm ((addZ .i64 v0.1 1), (v0.2.1, (v0.2.2.1, (v0.2.2.2.1, ())))))))) else (some (Out.exit (Sum.inl ((ltZ v0.1 v0.2.1), (v0.1, (v0.2.1, (v0.2.2.1, (v0.2.2.2.1, ()))))))))))
def spec_ActivityIndex (x : (D_Project × ((List UInt8) × Unit))) (c : Unit) : (Option (Int × Unit)) :=
  (Option.bind (loopN (A := (Int × (Int × ((List D_Activity) × ((List UInt8) × Unit))))) big spec_ActivityIndex_L0 (0, ((lenI x.1.2.1), (x.1.2.1, (x.2.1, ()))))) fun v2 => (match v2 with | Out.norm v3 => none | Out.exit v4 => (match ((match v4 with | Sum.inl v7 => (Sum.inl ()) | Sum.inr v8 => (Empty.elim v8)) : (Unit ⊕ Empty)) with | Sum.inl v5 => (some ((-1), ())) | Sum.inr v6 => none) | Out.ret v9 => (some v9)))
def H_spec_ActivityIndex : Hd := ⟨[.st [.int .i64, .sl 159 (.st [.str, .int .i64, .sl 172 (.st [.int .i64, .sl 3 (.int .i64), .sl 3 (.int .i64)])]), .sl 164 (.st [.int .i64, .int .i64, .bool, .int .i64]), .sl 169 (.st [.sl 228 (.st [.int .i64, .int .i64]), .sl 25 (.sl 3 (.int .i64))]), .sl 3 (.int .i64)], .str], [], none, .p, .int .i64, .p, []⟩
def T_spec_ActivityIndex : FSig := ⟨H_spec_ActivityIndex.ps, H_spec_ActivityIndex.cs, H_spec_ActivityIndex.io, H_spec_ActivityIndex.im, H_spec_ActivityIndex.R, H_spec_ActivityIndex.m, spec_ActivityIndex⟩
theorem E_spec_ActivityIndex : fnOf tys [] Tryz.f226 H_spec_ActivityIndex = T_spec_ActivityIndex := by kernel_rfl
theorem K_spec_ActivityIndex : SigOk Tryz.prog 226 T_spec_ActivityIndex := (congrArg (SigOk Tryz.prog 226) E_spec_ActivityIndex).mp (fnOf_ok rfl tysOk trivial Tryz.func226 (by decide) rfl (fun _ h => by cases h) (nilEq_of (by kernel_rfl)))
def spec_StepsOk_L0 : (Int × (Int × ((List D_Step) × ((List D_Step) × Unit)))) → Option (Out (Int × (Int × ((List D_Step) × ((List D_Step) × Unit)))) ((Bool × (Int × (Int × ((List D_Step) × ((List D_Step) × Unit))))) ⊕ Empty) (Bool × Unit)) :=
  (fun v0 => (if (ltZ v0.1 v0.2.1) = true then (Option.bind (getI v0.2.2.1 v0.1) fun v1 => (Option.bind ((Option.bind (spec_l01In (v1.1, (0, (60, ()))) ()) fun v2 => (some v2.1)) : (Option Bool)) fun v3 => (Option.bind ((if (notB v3) = true then (some (true, (v0.1, (v0.2.1, (v0.2.2.1, (v0.2.2.2.1, ())))))) else (Option.bind ((Option.bind (spec_l01In (v1.2.1, (0, (20, ()))) ()) fun v4 => (some v4.1)) : (Option Bool)) fun v5 => (Option.bind ((if (notB v5) = true then (some (true, (v0.1, (v0.2.1, (v0.2.2.1, (v0.2.2.2.1, ())))))) else (Option.bind ((if (ltZ 0 v0.1) = true then (Option.bind (getI v0.2.2.2.1 (subZ .i64 v0.1 1)) fun v6 => (some ((leZ v1.1 v6.1), (v0.1, (v0.2.1, (v0.2.2.1, (v0.2.2.2.1, ()))))))) else (some (false, (v0.1, (v0.2.1, (v0.2.2.1, (v0.2.2.2.1, ()))))))) : (Option (Bool × (Int × (Int × ((List D_Step) × ((List D_Step) × Unit))))))) fun v7 => (some (v7.1, (v7.2.1, (v7.2.2.1, (v7.2.2.2.1, (v7.2.2.2.2.1, ())))))))) : (Option (Bool × (Int × (Int × ((List D_Step) × ((List D_Step) × Unit))))))) fun v8 => (some (v8.1, (v8.2.1, (v8.2.2.1, (v8.2.2.2.1, (v8.2.2.2.2.1, ()))))))))) : (Option (Bool × (Int × (Int × ((List D_Step) × ((List D_Step) × Unit))))))) fun v9 => (if v9.1 = true then (some (Out.ret (false, ()))) else (some (Out.norm ((addZ .i64 v9.2.1 1), (v9.2.2.1, (v9.2.2.2.1, (v9.2.2.2.2.1, ())))))))))) else (some (Out.exit (Sum.inl ((ltZ v0.1 v0.2.1), (v0.1, (v0.2.1, (v0.2.2.1, (v0.2.2.2.1, ()))))))))))
def spec_StepsOk (x : ((List D_Step) × Unit)) (c : Unit) : (Option (Bool × Unit)) :=
  (Option.bind (loopN (A := (Int × (Int × ((List D_Step) × ((List D_Step) × Unit))))) big spec_StepsOk_L0 (0, ((lenI x.1), (x.1, (x.1, ()))))) fun v10 => (match v10 with | Out.norm v11 => none | Out.exit v12 => (match ((match v12 with | Sum.inl v19 => (Sum.inl (v19.2.2.2.2.1, ())) | Sum.inr v20 => (Empty.elim v20)) : (((List D_Step) × Unit) ⊕ Empty)) with | Sum.inl v13 => (Option.bind ((Option.bind (spec_l01In ((lenI v13.1), (1, (8, ()))) ()) fun v14 => (some v14.1)) : (Option Bool)) fun v15 => (Option.bind ((if v15 = true then (Option.bind (getI v13.1 0) fun v16 => (some ((eqZ v16.1 0), ()))) else (some (false, ()))) : (Option (Bool × Unit))) fun v17 => (some (v17.1, ())))) | Sum.inr v18 => none) | Out.ret v21 => (some v21)))
def H_spec_StepsOk : Hd := ⟨[.sl 228 (.st [.int .i64, .int .i64])], [], none, .p, .bool, .p, []⟩
def T_spec_StepsOk : FSig := ⟨H_spec_StepsOk.ps, H_spec_StepsOk.cs, H_spec_StepsOk.io, H_spec_StepsOk.im, H_spec_StepsOk.R, H_spec_StepsOk.m, spec_StepsOk⟩
theorem E_spec_StepsOk : fnOf tys [(111, T_spec_l01In)] Tryz.f262 H_spec_StepsOk = T_spec_StepsOk := by kernel_rfl
theorem K_spec_StepsOk : SigOk Tryz.prog 262 T_spec_StepsOk := (congrArg (SigOk Tryz.prog 262) E_spec_StepsOk).mp (fnOf_ok rfl tysOk ⟨K_spec_l01In, trivial⟩ Tryz.func262 (by decide) rfl (fun _ h => by cases h) (nilEq_of (by kernel_rfl)))
def spec_ResourceOk_L0 : (Int × (Int × ((List Int) × (Int × (Int × ((List (List Int)) × (D_Resource × Unit))))))) → Option (Out (Int × (Int × ((List Int) × (Int × (Int × ((List (List Int)) × (D_Resource × Unit))))))) ((Bool × (Int × (Int × ((List Int) × (Int × (Int × ((List (List Int)) × (D_Resource × Unit)))))))) ⊕ Empty) (Bool × Unit)) :=
  (fun v2 => (if (ltZ v2.1 v2.2.1) = true then (Option.bind (getI v2.2.2.1 v2.1) fun v3 => (Option.bind ((Option.bind (spec_l01In (v3, (0, (12, ()))) ()) fun v4 => (some v4.1)) : (Option Bool)) fun v5 => (if (notB v5) = true then (some (Out.ret (false, ()))) else (some (Out.norm ((addZ .i64 v2.1 1), (v2.2.1, (v2.2.2.1, (v2.2.2.2.1, (v2.2.2.2.2.1, (v2.2.2.2.2.2.1, (v2.2.2.2.2.2.2.1, ())))))))))))) else (some (Out.exit (Sum.inl ((ltZ v2.1 v2.2.1), (v2.1, (v2.2.1, (v2.2.2.1, (v2.2.2.2.1, (v2.2.2.2.2.1, (v2.2.2.2.2.2.1, (v2.2.2.2.2.2.2.1, ())))))))))))))
def spec_ResourceOk_L1 : (Int × (Int × ((List (List Int)) × (D_Resource × Unit)))) → Option (Out (Int × (Int × ((List (List Int)) × (D_Resource × Unit)))) ((Bool × (Int × (Int × ((List (List Int)) × (D_Resource × Unit))))) ⊕ Empty) (Bool × Unit)) :=
  (fun v0 => (if (ltZ v0.1 v0.2.1) = true then (Option.bind (getI v0.2.2.1 v0.1) fun v1 => (if (notB (eqZ (lenI v1) 4)) = true then (some (Out.ret (false, ()))) else (Option.bind (loopN (A := (Int × (Int × ((List Int) × (Int × (Int × ((List (List Int)) × (D_Resource × Unit)))))))) big spec_ResourceOk_L0 (0, ((lenI v1), (v1, (v0.1, (v0.2.1, (v0.2.2.1, (v0.2.2.2.1, ())))))))) fun v6 => (match v6 with | Out.norm v7 => none | Out.exit v8 => (match ((match v8 with | Sum.inl v13 => (Sum.inl (v13.2.2.2.2.1, (v13.2.2.2.2.2.1, (v13.2.2.2.2.2.2.1, (v13.2.2.2.2.2.2.2.1, ()))))) | Sum.inr v14 => (Empty.elim v14)) : ((Int × (Int × ((List (List Int)) × (D_Resource × Unit)))) ⊕ Empty)) with | Sum.inl v9 => (some (Out.norm ((addZ .i64 v9.1 1), (v9.2.1, (v9.2.2.1, (v9.2.2.2.1, ())))))) | Sum.inr v10 => (match ((Empty.elim v10) : ((Int × (Int × ((List (List Int)) × (D_Resource × Unit)))) ⊕ Empty)) with | Sum.inl v11 => (some (Out.norm ((addZ .i64 v11.1 1), (v11.2.1, (v11.2.2.1, (v11.2.2.2.1, ())))))) | Sum.inr v12 => (some (Out.exit (Sum.inr (Empty.elim v12)))))) | Out.ret v15 => (some (Out.ret v15)))))) else (some (Out.exit (Sum.inl ((ltZ v0.1 v0.2.1), (v0.1, (v0.2.1, (v0.2.2.1, (v0.2.2.2.1, ()))))))))))
def spec_ResourceOk (x : (D_Resource × Unit)) (c : Unit) : (Option (Bool × Unit)) :=
  (Option.bind (loopN (A := (Int × (Int × ((List (List Int)) × (D_Resource × Unit))))) big spec_ResourceOk_L1 (0, ((lenI x.1.2.1), (x.1.2.1, (x.1, ()))))) fun v16 => (match v16 with | Out.norm v17 => none | Out.exit v18 => (match ((match v18 with | Sum.inl v25 => (Sum.inl (v25.2.2.2.2.1, ())) | Sum.inr v26 => (Empty.elim v26)) : ((D_Resource × Unit) ⊕ Empty)) with | Sum.inl v19 => (Option.bind ((Option.bind (spec_StepsOk (v19.1.1, ()) ()) fun v20 => (some v20.1)) : (Option Bool)) fun v21 => (Option.bind ((if v21 = true then (Option.bind ((if (eqZ (lenI v19.1.2.1) 0) = true then (some (true, ())) else (some ((eqZ (lenI v19.1.2.1) 4), ()))) : (Option (Bool × Unit))) fun v22 => (some (v22.1, ()))) else (some (false, ()))) : (Option (Bool × Unit))) fun v23 => (some (v23.1, ())))) | Sum.inr v24 => none) | Out.ret v27 => (some v27)))
def H_spec_ResourceOk : Hd := ⟨[.st [.sl 228 (.st [.int .i64, .int .i64]), .sl 25 (.sl 3 (.int .i64))]], [], none, .p, .bool, .p, []⟩
def T_spec_ResourceOk : FSig := ⟨H_spec_ResourceOk.ps, H_spec_ResourceOk.cs, H_spec_ResourceOk.io, H_spec_ResourceOk.im, H_spec_ResourceOk.R, H_spec_ResourceOk.m, spec_ResourceOk⟩
theorem E_spec_ResourceOk : fnOf tys [(111, T_spec_l01In), (262, T_spec_StepsOk)] Tryz.f227 H_spec_ResourceOk = T_spec_ResourceOk := by kernel_rfl
theorem K_spec_ResourceOk : SigOk Tryz.prog 227 T_spec_ResourceOk := (congrArg (SigOk Tryz.prog 227) E_spec_ResourceOk).mp (fnOf_ok rfl tysOk ⟨K_spec_l01In, K_spec_StepsOk, trivial⟩ Tryz.func227 (by decide) rfl (fun _ h => by cases h) (nilEq_of (by kernel_rfl)))
def spec_ProjectOk_L0 : (Int × (Int × ((List D_Activity) × (D_Project × (Int × Unit))))) → Option (Out (Int × (Int × ((List D_Activity) × (D_Project × (Int × Unit))))) ((Bool × (Int × (Int × ((List D_Activity) × (D_Project × (Int × Unit)))))) ⊕ Empty) (Bool × Unit)) :=
  (fun v8 => (if (ltZ v8.1 v8.2.1) = true then (Option.bind (getI v8.2.2.1 v8.1) fun v9 => (Option.bind ((Option.bind (spec_ActivityOk (v9, ((lenI v8.2.2.2.1.2.2.2.1), ((lenI v8.2.2.2.1.2.2.2.2.1), ()))) ()) fun v10 => (some v10.1)) : (Option Bool)) fun v11 => (Option.bind ((if (notB v11) = true then (some (true, (v8.1, (v8.2.1, (v8.2.2.1, (v8.2.2.2.1, (v8.2.2.2.2.1, ()))))))) else (Option.bind ((Option.bind (spec_ActivityIndex (v8.2.2.2.1, (v9.1, ())) ()) fun v12 => (some v12.1)) : (Option Int)) fun v13 => (some ((notB (eqZ v13 v8.1)), (v8.1, (v8.2.1, (v8.2.2.1, (v8.2.2.2.1, (v8.2.2.2.2.1, ()))))))))) : (Option (Bool × (Int × (Int × ((List D_Activity) × (D_Project × (Int × Unit)))))))) fun v14 => (if v14.1 = true then (some (Out.ret (false, ()))) else (some (Out.norm ((addZ .i64 v14.2.1 1), (v14.2.2.1, (v14.2.2.2.1, (v14.2.2.2.2.1, (v14.2.2.2.2.2.1, ()))))))))))) else (some (Out.exit (Sum.inl ((ltZ v8.1 v8.2.1), (v8.1, (v8.2.1, (v8.2.2.1, (v8.2.2.2.1, (v8.2.2.2.2.1, ())))))))))))
def spec_ProjectOk_L1 : (Int × (Int × ((List D_Resource) × (D_Project × (Int × Unit))))) → Option (Out (Int × (Int × ((List D_Resource) × (D_Project × (Int × Unit))))) ((Bool × (Int × (Int × ((List D_Resource) × (D_Project × (Int × Unit)))))) ⊕ Empty) (Bool × Unit)) :=
  (fun v19 => (if (ltZ v19.1 v19.2.1) = true then (Option.bind (getI v19.2.2.1 v19.1) fun v20 => (Option.bind ((Option.bind (spec_ResourceOk (v20, ()) ()) fun v21 => (some v21.1)) : (Option Bool)) fun v22 => (if (notB v22) = true then (some (Out.ret (false, ()))) else (some (Out.norm ((addZ .i64 v19.1 1), (v19.2.1, (v19.2.2.1, (v19.2.2.2.1, (v19.2.2.2.2.1, ())))))))))) else (some (Out.exit (Sum.inl ((ltZ v19.1 v19.2.1), (v19.1, (v19.2.1, (v19.2.2.1, (v19.2.2.2.1, (v19.2.2.2.2.1, ())))))))))))
def spec_ProjectOk_L2 : (Int × (Int × ((List Int) × (D_Project × (Int × Unit))))) → Option (Out (Int × (Int × ((List Int) × (D_Project × (Int × Unit))))) ((Bool × (Int × (Int × ((List Int) × (D_Project × (Int × Unit)))))) ⊕ Empty) (Bool × Unit)) :=
  (fun v27 => (if (ltZ v27.1 v27.2.1) = true then (Option.bind (getI v27.2.2.1 v27.1) fun v28 => (Option.bind ((Option.bind (spec_l01In (v28, (0, (100, ()))) ()) fun v29 => (some v29.1)) : (Option Bool)) fun v30 => (if (notB v30) = true then (some (Out.ret (false, ()))) else (some (Out.norm ((addZ .i64 v27.1 1), (v27.2.1, (v27.2.2.1, (v27.2.2.2.1, (v27.2.2.2.2.1, ())))))))))) else (some (Out.exit (Sum.inl ((ltZ v27.1 v27.2.1), (v27.1, (v27.2.1, (v27.2.2.1, (v27.2.2.2.1, (v27.2.2.2.2.1, ())))))))))))
def spec_ProjectOk_L3 : (Int × (Int × ((List D_Link) × (Int × Unit)))) → Option (Out (Int × (Int × ((List D_Link) × (Int × Unit)))) ((Bool × (Int × (Int × ((List D_Link) × (Int × Unit))))) ⊕ Empty) (Bool × Unit)) :=
  (fun v35 => (if (ltZ v35.1 v35.2.1) = true then (Option.bind (getI v35.2.2.1 v35.1) fun v36 => (Option.bind ((Option.bind (spec_l01In (v36.1, (0, ((subZ .i64 v35.2.2.2.1 1), ()))) ()) fun v37 => (some v37.1)) : (Option Bool)) fun v38 => (Option.bind ((if (notB v38) = true then (some (true, (v35.1, (v35.2.1, (v35.2.2.1, (v35.2.2.2.1, ())))))) else (Option.bind ((Option.bind (spec_l01In (v36.2.1, (0, ((subZ .i64 v35.2.2.2.1 1), ()))) ()) fun v39 => (some v39.1)) : (Option Bool)) fun v40 => (Option.bind ((if (notB v40) = true then (some (true, (v35.1, (v35.2.1, (v35.2.2.1, (v35.2.2.2.1, ())))))) else (Option.bind ((if (eqZ v36.1 v36.2.1) = true then (some (true, (v35.1, (v35.2.1, (v35.2.2.1, (v35.2.2.2.1, ())))))) else (Option.bind ((Option.bind (spec_l01In (v36.2.2.2.1, ((-60), (60, ()))) ()) fun v41 => (some v41.1)) : (Option Bool)) fun v42 => (some ((notB v42), (v35.1, (v35.2.1, (v35.2.2.1, (v35.2.2.2.1, ())))))))) : (Option (Bool × (Int × (Int × ((List D_Link) × (Int × Unit))))))) fun v43 => (some (v43.1, (v43.2.1, (v43.2.2.1, (v43.2.2.2.1, (v43.2.2.2.2.1, ())))))))) : (Option (Bool × (Int × (Int × ((List D_Link) × (Int × Unit))))))) fun v44 => (some (v44.1, (v44.2.1, (v44.2.2.1, (v44.2.2.2.1, (v44.2.2.2.2.1, ()))))))))) : (Option (Bool × (Int × (Int × ((List D_Link) × (Int × Unit))))))) fun v45 => (if v45.1 = true then (some (Out.ret (false, ()))) else (some (Out.norm ((addZ .i64 v45.2.1 1), (v45.2.2.1, (v45.2.2.2.1, (v45.2.2.2.2.1, ())))))))))) else (some (Out.exit (Sum.inl ((ltZ v35.1 v35.2.1), (v35.1, (v35.2.1, (v35.2.2.1, (v35.2.2.2.1, ()))))))))))
def spec_ProjectOk (x : (D_Project × Unit)) (c : Unit) : (Option (Bool × Unit)) :=
  (Option.bind ((Option.bind (spec_l01In (x.1.1, (1, (60, ()))) ()) fun v0 => (some v0.1)) : (Option Bool)) fun v1 => (Option.bind ((if (notB v1) = true then (some (true, (x.1, ((lenI x.1.2.1), ())))) else (Option.bind ((Option.bind (spec_l01In ((lenI x.1.2.1), (1, (6, ()))) ()) fun v2 => (some v2.1)) : (Option Bool)) fun v3 => (Option.bind ((if (notB v3) = true then (some (true, (x.1, ((lenI x.1.2.1), ())))) else (Option.bind ((if (ltZ 3 (lenI x.1.2.2.2.1)) = true then (some (true, (x.1, ((lenI x.1.2.1), ())))) else (Option.bind ((if (ltZ 2 (lenI x.1.2.2.2.2.1)) = true then (some (true, (x.1, ((lenI x.1.2.1), ())))) else (some ((ltZ 12 (lenI x.1.2.2.1)), (x.1, ((lenI x.1.2.1), ()))))) : (Option (Bool × (D_Project × (Int × Unit))))) fun v4 => (some (v4.1, (v4.2.1, (v4.2.2.1, ())))))) : (Option (Bool × (D_Project × (Int × Unit))))) fun v5 => (some (v5.1, (v5.2.1, (v5.2.2.1, ())))))) : (Option (Bool × (D_Project × (Int × Unit))))) fun v6 => (some (v6.1, (v6.2.1, (v6.2.2.1, ()))))))) : (Option (Bool × (D_Project × (Int × Unit))))) fun v7 => (if v7.1 = true then (some (false, ())) else (Option.bind (loopN (A := (Int × (Int × ((List D_Activity) × (D_Project × (Int × Unit)))))) big spec_ProjectOk_L0 (0, ((lenI v7.2.1.2.1), (v7.2.1.2.1, (v7.2.1, (v7.2.2.1, ())))))) fun v15 => (match v15 with | Out.norm v16 => none | Out.exit v17 => (match ((match v17 with | Sum.inl v63 => (Sum.inl (v63.2.2.2.2.1, (v63.2.2.2.2.2.1, ()))) | Sum.inr v64 => (Empty.elim v64)) : ((D_Project × (Int × Unit)) ⊕ Empty)) with | Sum.inl v18 => (Option.bind (loopN (A := (Int × (Int × ((List D_Resource) × (D_Project × (Int × Unit)))))) big spec_ProjectOk_L1 (0, ((lenI v18.1.2.2.2.1), (v18.1.2.2.2.1, (v18.1, (v18.2.1, ())))))) fun v23 => (match v23 with | Out.norm v24 => none | Out.exit v25 => (match ((match v25 with | Sum.inl v59 => (Sum.inl (v59.2.2.2.2.1, (v59.2.2.2.2.2.1, ()))) | Sum.inr v60 => (Empty.elim v60)) : ((D_Project × (Int × Unit)) ⊕ Empty)) with | Sum.inl v26 => (Option.bind (loopN (A := (Int × (Int × ((List Int) × (D_Project × (Int × Unit)))))) big spec_ProjectOk_L2 (0, ((lenI v26.1.2.2.2.2.1), (v26.1.2.2.2.2.1, (v26.1, (v26.2.1, ())))))) fun v31 => (match v31 with | Out.norm v32 => none | Out.exit v33 => (match ((match v33 with | Sum.inl v55 => (Sum.inl (v55.2.2.2.2.1, (v55.2.2.2.2.2.1, ()))) | Sum.inr v56 => (Empty.elim v56)) : ((D_Project × (Int × Unit)) ⊕ Empty)) with | Sum.inl v34 => (Option.bind (loopN (A := (Int × (Int × ((List D_Link) × (Int × Unit))))) big spec_ProjectOk_L3 (0, ((lenI v34.1.2.2.1), (v34.1.2.2.1, (v34.2.1, ()))))) fun v46 => (match v46 with | Out.norm v47 => none | Out.exit v48 => (match ((match v48 with | Sum.inl v51 => (Sum.inl ()) | Sum.inr v52 => (Empty.elim v52)) : (Unit ⊕ Empty)) with | Sum.inl v49 => (some (true, ())) | Sum.inr v50 => none) | Out.ret v53 => (some v53))) | Sum.inr v54 => none) | Out.ret v57 => (some v57))) | Sum.inr v58 => none) | Out.ret v61 => (some v61))) | Sum.inr v62 => none) | Out.ret v65 => (some v65))))))
def H_spec_ProjectOk : Hd := ⟨[.st [.int .i64, .sl 159 (.st [.str, .int .i64, .sl 172 (.st [.int .i64, .sl 3 (.int .i64), .sl 3 (.int .i64)])]), .sl 164 (.st [.int .i64, .int .i64, .bool, .int .i64]), .sl 169 (.st [.sl 228 (.st [.int .i64, .int .i64]), .sl 25 (.sl 3 (.int .i64))]), .sl 3 (.int .i64)]], [], none, .p, .bool, .p, []⟩
def T_spec_ProjectOk : FSig := ⟨H_spec_ProjectOk.ps, H_spec_ProjectOk.cs, H_spec_ProjectOk.io, H_spec_ProjectOk.im, H_spec_ProjectOk.R, H_spec_ProjectOk.m, spec_ProjectOk⟩
theorem E_spec_ProjectOk : fnOf tys [(111, T_spec_l01In), (225, T_spec_ActivityOk), (226, T_spec_ActivityIndex), (227, T_spec_ResourceOk)] Tryz.f140 H_spec_ProjectOk = T_spec_ProjectOk := by kernel_rfl
theorem K_spec_ProjectOk : SigOk Tryz.prog 140 T_spec_ProjectOk := (congrArg (SigOk Tryz.prog 140) E_spec_ProjectOk).mp (fnOf_ok rfl tysOk ⟨K_spec_l01In, K_spec_ActivityOk, K_spec_ActivityIndex, K_spec_ResourceOk, trivial⟩ Tryz.func140 (by decide) rfl (fun _ h => by cases h) (nilEq_of (by kernel_rfl)))
def spec_ScheduleForm_L0 : (Int × (Int × ((List D_Activity) × (D_Schedule × Unit)))) → Option (Out (Int × (Int × ((List D_Activity) × (D_Schedule × Unit)))) ((Bool × (Int × (Int × ((List D_Activity) × (D_Schedule × Unit))))) ⊕ Empty) (Bool × Unit)) :=
  (fun v4 => (if (ltZ v4.1 v4.2.1) = true then (Option.bind (getI v4.2.2.1 v4.1) fun v5 => (Option.bind (getI v4.2.2.2.1.1 v4.1) fun v6 => (Option.bind ((Option.bind (spec_l01In (v6, (0, (60, ()))) ()) fun v7 => (some v7.1)) : (Option Bool)) fun v8 => (Option.bind ((if (notB v8) = true then (some (true, (v4.1, (v4.2.1, (v4.2.2.1, (v4.2.2.2.1, ())))))) else (Option.bind (getI v4.2.2.2.1.2.1 v4.1) fun v9 => (Option.bind ((Option.bind (spec_l01In (v9, (0, ((subZ .i64 (lenI v5.2.2.1) 1), ()))) ()) fun v10 => (some v10.1)) : (Option Bool)) fun v11 => (some ((notB v11), (v4.1, (v4.2.1, (v4.2.2.1, (v4.2.2.2.1, ()))))))))) : (Option (Bool × (Int × (Int × ((List D_Activity) × (D_Schedule × Unit))))))) fun v12 => (if v12.1 = true then (some (Out.ret (false, ()))) else (some (Out.norm ((addZ .i64 v12.2.1 1), (v12.2.2.1, (v12.2.2.2.1, (v12.2.2.2.2.1, ()))))))))))) else (some (Out.exit (Sum.inl ((ltZ v4.1 v4.2.1), (v4.1, (v4.2.1, (v4.2.2.1, (v4.2.2.2.1, ()))))))))))
def spec_ScheduleForm (x : (D_Project × (D_Schedule × Unit))) (c : Unit) : (Option (Bool × Unit)) :=
  (Option.bind ((Option.bind (spec_ProjectOk (x.1, ()) ()) fun v0 => (some v0.1)) : (Option Bool)) fun v1 => (Option.bind ((if (notB v1) = true then (some (true, (x.1, (x.2.1, ())))) else (Option.bind ((if (notB (eqZ (lenI x.2.1.1) (lenI x.1.2.1))) = true then (some (true, (x.1, (x.2.1, ())))) else (some ((notB (eqZ (lenI x.2.1.2.1) (lenI x.1.2.1))), (x.1, (x.2.1, ()))))) : (Option (Bool × (D_Project × (D_Schedule × Unit))))) fun v2 => (some (v2.1, (v2.2.1, (v2.2.2.1, ())))))) : (Option (Bool × (D_Project × (D_Schedule × Unit))))) fun v3 => (if v3.1 = true then (some (false, ())) else (Option.bind (loopN (A := (Int × (Int × ((List D_Activity) × (D_Schedule × Unit))))) big spec_ScheduleForm_L0 (0, ((lenI v3.2.1.2.1), (v3.2.1.2.1, (v3.2.2.1, ()))))) fun v13 => (match v13 with | Out.norm v14 => none | Out.exit v15 => (match ((match v15 with | Sum.inl v18 => (Sum.inl ()) | Sum.inr v19 => (Empty.elim v19)) : (Unit ⊕ Empty)) with | Sum.inl v16 => (some (true, ())) | Sum.inr v17 => none) | Out.ret v20 => (some v20))))))
def H_spec_ScheduleForm : Hd := ⟨[.st [.int .i64, .sl 159 (.st [.str, .int .i64, .sl 172 (.st [.int .i64, .sl 3 (.int .i64), .sl 3 (.int .i64)])]), .sl 164 (.st [.int .i64, .int .i64, .bool, .int .i64]), .sl 169 (.st [.sl 228 (.st [.int .i64, .int .i64]), .sl 25 (.sl 3 (.int .i64))]), .sl 3 (.int .i64)], .st [.sl 3 (.int .i64), .sl 3 (.int .i64)]], [], none, .p, .bool, .p, []⟩
def T_spec_ScheduleForm : FSig := ⟨H_spec_ScheduleForm.ps, H_spec_ScheduleForm.cs, H_spec_ScheduleForm.io, H_spec_ScheduleForm.im, H_spec_ScheduleForm.R, H_spec_ScheduleForm.m, spec_ScheduleForm⟩
theorem E_spec_ScheduleForm : fnOf tys [(111, T_spec_l01In), (140, T_spec_ProjectOk)] Tryz.f162 H_spec_ScheduleForm = T_spec_ScheduleForm := by kernel_rfl
theorem K_spec_ScheduleForm : SigOk Tryz.prog 162 T_spec_ScheduleForm := (congrArg (SigOk Tryz.prog 162) E_spec_ScheduleForm).mp (fnOf_ok rfl tysOk ⟨K_spec_l01In, K_spec_ProjectOk, trivial⟩ Tryz.func162 (by decide) rfl (fun _ h => by cases h) (nilEq_of (by kernel_rfl)))
def spec_l09Copy (x : (D_Schedule × Unit)) (c : Unit) : (Option (D_Schedule × Unit)) :=
  (Option.bind (addI [] x.1.1) fun v0 => (Option.bind (addI [] x.1.2.1) fun v1 => (some ((v0, (v1, ())), ()))))
def H_spec_l09Copy : Hd := ⟨[.st [.sl 3 (.int .i64), .sl 3 (.int .i64)]], [], none, .p, .st [.sl 3 (.int .i64), .sl 3 (.int .i64)], (Ty.all (.st [.sl 3 (.int .i64), .sl 3 (.int .i64)])), []⟩
def T_spec_l09Copy : FSig := ⟨H_spec_l09Copy.ps, H_spec_l09Copy.cs, H_spec_l09Copy.io, H_spec_l09Copy.im, H_spec_l09Copy.R, H_spec_l09Copy.m, spec_l09Copy⟩
theorem E_spec_l09Copy : fnOf tys [] Tryz.f112 H_spec_l09Copy = T_spec_l09Copy := by kernel_rfl
theorem K_spec_l09Copy : SigOk Tryz.prog 112 T_spec_l09Copy := (congrArg (SigOk Tryz.prog 112) E_spec_l09Copy).mp (fnOf_ok rfl tysOk trivial Tryz.func112 (by decide) rfl (fun _ h => by cases h) (nilEq_of (by kernel_rfl)))
def spec_l09Mode (x : (D_Project × (D_Schedule × (Int × Unit)))) (c : Unit) : (Option (D_Mode × Unit)) :=
  (Option.bind (getI x.1.2.1 x.2.2.1) fun v0 => (Option.bind (getI x.2.1.2.1 x.2.2.1) fun v1 => (Option.bind (getI v0.2.2.1 v1) fun v2 => (some (v2, ())))))
def H_spec_l09Mode : Hd := ⟨[.st [.int .i64, .sl 159 (.st [.str, .int .i64, .sl 172 (.st [.int .i64, .sl 3 (.int .i64), .sl 3 (.int .i64)])]), .sl 164 (.st [.int .i64, .int .i64, .bool, .int .i64]), .sl 169 (.st [.sl 228 (.st [.int .i64, .int .i64]), .sl 25 (.sl 3 (.int .i64))]), .sl 3 (.int .i64)], .st [.sl 3 (.int .i64), .sl 3 (.int .i64)], .int .i64], [], none, .p, .st [.int .i64, .sl 3 (.int .i64), .sl 3 (.int .i64)], .p, []⟩
def T_spec_l09Mode : FSig := ⟨H_spec_l09Mode.ps, H_spec_l09Mode.cs, H_spec_l09Mode.io, H_spec_l09Mode.im, H_spec_l09Mode.R, H_spec_l09Mode.m, spec_l09Mode⟩
theorem E_spec_l09Mode : fnOf tys [] Tryz.f204 H_spec_l09Mode = T_spec_l09Mode := by kernel_rfl
theorem K_spec_l09Mode : SigOk Tryz.prog 204 T_spec_l09Mode := (congrArg (SigOk Tryz.prog 204) E_spec_l09Mode).mp (fnOf_ok rfl tysOk trivial Tryz.func204 (by decide) rfl (fun _ h => by cases h) (nilEq_of (by kernel_rfl)))
def spec_l09End (x : (D_Project × (D_Schedule × (Int × Unit)))) (c : Unit) : (Option (Int × Unit)) :=
  (Option.bind (getI x.2.1.1 x.2.2.1) fun v0 => (Option.bind ((Option.bind (spec_l09Mode (x.1, (x.2.1, (x.2.2.1, ()))) ()) fun v1 => (some v1.1)) : (Option D_Mode)) fun v2 => (some ((addZ .i64 v0 v2.1), ()))))
def H_spec_l09End : Hd := ⟨[.st [.int .i64, .sl 159 (.st [.str, .int .i64, .sl 172 (.st [.int .i64, .sl 3 (.int .i64), .sl 3 (.int .i64)])]), .sl 164 (.st [.int .i64, .int .i64, .bool, .int .i64]), .sl 169 (.st [.sl 228 (.st [.int .i64, .int .i64]), .sl 25 (.sl 3 (.int .i64))]), .sl 3 (.int .i64)], .st [.sl 3 (.int .i64), .sl 3 (.int .i64)], .int .i64], [], none, .p, .int .i64, .p, []⟩
def T_spec_l09End : FSig := ⟨H_spec_l09End.ps, H_spec_l09End.cs, H_spec_l09End.io, H_spec_l09End.im, H_spec_l09End.R, H_spec_l09End.m, spec_l09End⟩
theorem E_spec_l09End : fnOf tys [(204, T_spec_l09Mode)] Tryz.f122 H_spec_l09End = T_spec_l09End := by kernel_rfl
theorem K_spec_l09End : SigOk Tryz.prog 122 T_spec_l09End := (congrArg (SigOk Tryz.prog 122) E_spec_l09End).mp (fnOf_ok rfl tysOk ⟨K_spec_l09Mode, trivial⟩ Tryz.func122 (by decide) rfl (fun _ h => by cases h) (nilEq_of (by kernel_rfl)))
def spec_l10Ahead (x : (D_Project × (D_Schedule × (Int × D_Step)))) (c : Unit) : (Option (Bool × Unit)) :=
  (Option.bind ((Option.bind (spec_l09End (x.1, (x.2.1, (x.2.2.2.1, ()))) ()) fun v0 => (some v0.1)) : (Option Int)) fun v1 => (Option.bind (getI x.1.2.2.2.1 x.2.2.1) fun v2 => (Option.bind (getI x.1.2.1 x.2.2.2.1) fun v3 => (Option.bind (getI v2.2.1 v3.2.1) fun v4 => (Option.bind (getI x.1.2.1 x.2.2.2.2.1) fun v5 => (Option.bind (getI v4 v5.2.1) fun v6 => (Option.bind (getI x.2.1.1 x.2.2.2.2.1) fun v7 => (some ((leZ (addZ .i64 v1 v6) v7), ())))))))))
def H_spec_l10Ahead : Hd := ⟨[.st [.int .i64, .sl 159 (.st [.str, .int .i64, .sl 172 (.st [.int .i64, .sl 3 (.int .i64), .sl 3 (.int .i64)])]), .sl 164 (.st [.int .i64, .int .i64, .bool, .int .i64]), .sl 169 (.st [.sl 228 (.st [.int .i64, .int .i64]), .sl 25 (.sl 3 (.int .i64))]), .sl 3 (.int .i64)], .st [.sl 3 (.int .i64), .sl 3 (.int .i64)], .int .i64, .int .i64, .int .i64], [], none, .p, .bool, .p, []⟩
def T_spec_l10Ahead : FSig := ⟨H_spec_l10Ahead.ps, H_spec_l10Ahead.cs, H_spec_l10Ahead.io, H_spec_l10Ahead.im, H_spec_l10Ahead.R, H_spec_l10Ahead.m, spec_l10Ahead⟩
theorem E_spec_l10Ahead : fnOf tys [(122, T_spec_l09End)] Tryz.f263 H_spec_l10Ahead = T_spec_l10Ahead := by kernel_rfl
theorem K_spec_l10Ahead : SigOk Tryz.prog 263 T_spec_l10Ahead := (congrArg (SigOk Tryz.prog 263) E_spec_l10Ahead).mp (fnOf_ok rfl tysOk ⟨K_spec_l09End, trivial⟩ Tryz.func263 (by decide) rfl (fun _ h => by cases h) (nilEq_of (by kernel_rfl)))
def spec_l10Pair (x : (D_Project × (D_Schedule × (D_Rule × Unit)))) (c : Unit) : (Option (Bool × Unit)) :=
  (Option.bind ((Option.bind (spec_l09Mode (x.1, (x.2.1, (x.2.2.1.2.2.1, ()))) ()) fun v0 => (some v0.1)) : (Option D_Mode)) fun v1 => (Option.bind (getI v1.2.1 x.2.2.1.2.1) fun v2 => (Option.bind ((if (eqZ v2 0) = true then (some (true, (x.1, (x.2.1, (x.2.2.1, ()))))) else (Option.bind ((Option.bind (spec_l09Mode (x.1, (x.2.1, (x.2.2.1.2.2.2.1, ()))) ()) fun v3 => (some v3.1)) : (Option D_Mode)) fun v4 => (Option.bind (getI v4.2.1 x.2.2.1.2.1) fun v5 => (some ((eqZ v5 0), (x.1, (x.2.1, (x.2.2.1, ())))))))) : (Option (Bool × (D_Project × (D_Schedule × (D_Rule × Unit)))))) fun v6 => (if v6.1 = true then (some (false, ())) else (Option.bind ((Option.bind (spec_l10Ahead (v6.2.1, (v6.2.2.1, (v6.2.2.2.1.2.1, (v6.2.2.2.1.2.2.1, (v6.2.2.2.1.2.2.2.1, ()))))) ()) fun v7 => (some v7.1)) : (Option Bool)) fun v8 => (Option.bind ((if (notB v8) = true then (Option.bind ((Option.bind (spec_l10Ahead (v6.2.1, (v6.2.2.1, (v6.2.2.2.1.2.1, (v6.2.2.2.1.2.2.2.1, (v6.2.2.2.1.2.2.1, ()))))) ()) fun v9 => (some v9.1)) : (Option Bool)) fun v10 => (some ((notB v10), ()))) else (some (false, ()))) : (Option (Bool × Unit))) fun v11 => (some (v11.1, ()))))))))
def H_spec_l10Pair : Hd := ⟨[.st [.int .i64, .sl 159 (.st [.str, .int .i64, .sl 172 (.st [.int .i64, .sl 3 (.int .i64), .sl 3 (.int .i64)])]), .sl 164 (.st [.int .i64, .int .i64, .bool, .int .i64]), .sl 169 (.st [.sl 228 (.st [.int .i64, .int .i64]), .sl 25 (.sl 3 (.int .i64))]), .sl 3 (.int .i64)], .st [.sl 3 (.int .i64), .sl 3 (.int .i64)], .st [.int .i64, .int .i64, .int .i64, .int .i64]], [], none, .p, .bool, .p, []⟩
def T_spec_l10Pair : FSig := ⟨H_spec_l10Pair.ps, H_spec_l10Pair.cs, H_spec_l10Pair.io, H_spec_l10Pair.im, H_spec_l10Pair.R, H_spec_l10Pair.m, spec_l10Pair⟩
theorem E_spec_l10Pair : fnOf tys [(204, T_spec_l09Mode), (263, T_spec_l10Ahead)] Tryz.f207 H_spec_l10Pair = T_spec_l10Pair := by kernel_rfl
theorem K_spec_l10Pair : SigOk Tryz.prog 207 T_spec_l10Pair := (congrArg (SigOk Tryz.prog 207) E_spec_l10Pair).mp (fnOf_ok rfl tysOk ⟨K_spec_l09Mode, K_spec_l10Ahead, trivial⟩ Tryz.func207 (by decide) rfl (fun _ h => by cases h) (nilEq_of (by kernel_rfl)))
def spec_l03At_L0 : (Int × (Int × ((List D_Step) × D_Step))) → Option (Out (Int × (Int × ((List D_Step) × D_Step))) ((Bool × (Int × (Int × ((List D_Step) × D_Step)))) ⊕ Empty) (Int × Unit)) :=
  (fun v0 => (if (ltZ v0.1 v0.2.1) = true then (Option.bind (getI v0.2.2.1 v0.1) fun v1 => (Option.bind ((if (leZ v1.1 v0.2.2.2.1) = true then (some (Out.norm (v0.1, (v0.2.1, (v0.2.2.1, (v0.2.2.2.1, (v1.2.1, ()))))))) else (some (Out.norm (v0.1, (v0.2.1, (v0.2.2.1, (v0.2.2.2.1, (v0.2.2.2.2.1, ())))))))) : (Option (Out (Int × (Int × ((List D_Step) × D_Step))) Empty (Int × Unit)))) fun v2 => (match ((match ((match v2 with | Out.norm v11 => (Out.norm v11) | Out.exit v12 => (Out.exit v12) | Out.ret v13 => (Out.ret v13)) : (Out (Int × (Int × ((List D_Step) × D_Step))) Empty (Int × Unit))) with | Out.norm v8 => (Out.norm v8) | Out.exit v9 => (Out.exit v9) | Out.ret v10 => (Out.ret v10)) : (Out (Int × (Int × ((List D_Step) × D_Step))) Empty (Int × Unit))) with | Out.norm v3 => (some (Out.norm ((addZ .i64 v3.1 1), (v3.2.1, (v3.2.2.1, (v3.2.2.2.1, (v3.2.2.2.2.1, ()))))))) | Out.exit v4 => (match ((Empty.elim v4) : ((Int × (Int × ((List D_Step) × D_Step))) ⊕ Empty)) with | Sum.inl v5 => (some (Out.norm ((addZ .i64 v5.1 1), (v5.2.1, (v5.2.2.1, (v5.2.2.2.1, (v5.2.2.2.2.1, ()))))))) | Sum.inr v6 => (some (Out.exit (Sum.inr (Empty.elim v6))))) | Out.ret v7 => (some (Out.ret v7))))) else (some (Out.exit (Sum.inl ((ltZ v0.1 v0.2.1), (v0.1, (v0.2.1, (v0.2.2.1, (v0.2.2.2.1, (v0.2.2.2.2.1, ())))))))))))
def spec_l03At (x : ((List D_Step) × (Int × Unit))) (c : Unit) : (Option (Int × Unit)) :=
  (Option.bind (loopN (A := (Int × (Int × ((List D_Step) × D_Step)))) big spec_l03At_L0 (0, ((lenI x.1), (x.1, (x.2.1, (0, ())))))) fun v14 => (match v14 with | Out.norm v15 => none | Out.exit v16 => (match ((match v16 with | Sum.inl v19 => (Sum.inl (v19.2.2.2.2.2.1, ())) | Sum.inr v20 => (Empty.elim v20)) : ((Int × Unit) ⊕ Empty)) with | Sum.inl v17 => (some (v17.1, ())) | Sum.inr v18 => none) | Out.ret v21 => (some v21)))
def H_spec_l03At : Hd := ⟨[.sl 228 (.st [.int .i64, .int .i64]), .int .i64], [], none, .p, .int .i64, .p, []⟩
def T_spec_l03At : FSig := ⟨H_spec_l03At.ps, H_spec_l03At.cs, H_spec_l03At.io, H_spec_l03At.im, H_spec_l03At.R, H_spec_l03At.m, spec_l03At⟩
theorem E_spec_l03At : fnOf tys [] Tryz.f221 H_spec_l03At = T_spec_l03At := by kernel_rfl
theorem K_spec_l03At : SigOk Tryz.prog 221 T_spec_l03At := (congrArg (SigOk Tryz.prog 221) E_spec_l03At).mp (fnOf_ok rfl tysOk trivial Tryz.func221 (by decide) rfl (fun _ h => by cases h) (nilEq_of (by kernel_rfl)))
def spec_l09Use_L0 : (Int × (Int × (Int × (D_Project × (D_Schedule × D_Step))))) → Option (Out (Int × (Int × (Int × (D_Project × (D_Schedule × D_Step))))) ((Bool × (Int × (Int × (Int × (D_Project × (D_Schedule × D_Step)))))) ⊕ Empty) (Int × Unit)) :=
  (fun v0 => (if (ltZ v0.1 v0.2.1) = true then (Option.bind (getI v0.2.2.2.2.1.1 v0.1) fun v1 => (Option.bind ((if (leZ v1 v0.2.2.1) = true then (Option.bind ((Option.bind (spec_l09End (v0.2.2.2.1, (v0.2.2.2.2.1, (v0.1, ()))) ()) fun v2 => (some v2.1)) : (Option Int)) fun v3 => (some ((ltZ v0.2.2.1 v3), (v0.1, (v0.1, (v0.2.1, (v0.2.2.1, (v0.2.2.2.1, (v0.2.2.2.2.1, (v0.2.2.2.2.2.1, (v0.2.2.2.2.2.2.1, ()))))))))))) else (some (false, (v0.1, (v0.1, (v0.2.1, (v0.2.2.1, (v0.2.2.2.1, (v0.2.2.2.2.1, (v0.2.2.2.2.2.1, (v0.2.2.2.2.2.2.1, ()))))))))))) : (Option (Bool × (Int × (Int × (Int × (Int × (D_Project × (D_Schedule × D_Step))))))))) fun v4 => (Option.bind ((if v4.1 = true then (Option.bind ((Option.bind (spec_l09Mode (v4.2.2.2.2.2.1, (v4.2.2.2.2.2.2.1, (v4.2.1, ()))) ()) fun v5 => (some v5.1)) : (Option D_Mode)) fun v6 => (Option.bind (getI v6.2.1 v4.2.2.2.2.2.2.2.1) fun v7 => (some (Out.norm (v4.2.2.1, (v4.2.2.2.1, (v4.2.2.2.2.1, (v4.2.2.2.2.2.1, (v4.2.2.2.2.2.2.1, (v4.2.2.2.2.2.2.2.1, ((addZ .i64 v4.2.2.2.2.2.2.2.2.1 v7), ()))))))))))) else (some (Out.norm (v4.2.2.1, (v4.2.2.2.1, (v4.2.2.2.2.1, (v4.2.2.2.2.2.1, (v4.2.2.2.2.2.2.1, (v4.2.2.2.2.2.2.2.1, (v4.2.2.2.2.2.2.2.2.1, ())))))))))) : (Option (Out (Int × (Int × (Int × (D_Project × (D_Schedule × D_Step))))) Empty (Int × Unit)))) fun v8 => (match ((match ((match v8 with | Out.norm v17 => (Out.norm v17) | Out.exit v18 => (Out.exit v18) | Out.ret v19 => (Out.ret v19)) : (Out (Int × (Int × (Int × (D_Project × (D_Schedule × D_Step))))) Empty (Int × Unit))) with | Out.norm v14 => (Out.norm v14) | Out.exit v15 => (Out.exit v15) | Out.ret v16 => (Out.ret v16)) : (Out (Int × (Int × (Int × (D_Project × (D_Schedule × D_Step))))) Empty (Int × Unit))) with | Out.norm v9 => (some (Out.norm ((addZ .i64 v9.1 1), (v9.2.1, (v9.2.2.1, (v9.2.2.2.1, (v9.2.2.2.2.1, (v9.2.2.2.2.2.1, (v9.2.2.2.2.2.2.1, ()))))))))) | Out.exit v10 => (match ((Empty.elim v10) : ((Int × (Int × (Int × (D_Project × (D_Schedule × D_Step))))) ⊕ Empty)) with | Sum.inl v11 => (some (Out.norm ((addZ .i64 v11.1 1), (v11.2.1, (v11.2.2.1, (v11.2.2.2.1, (v11.2.2.2.2.1, (v11.2.2.2.2.2.1, (v11.2.2.2.2.2.2.1, ()))))))))) | Sum.inr v12 => (some (Out.exit (Sum.inr (Empty.elim v12))))) | Out.ret v13 => (some (Out.ret v13)))))) else (some (Out.exit (Sum.inl ((ltZ v0.1 v0.2.1), (v0.1, (v0.2.1, (v0.2.2.1, (v0.2.2.2.1, (v0.2.2.2.2.1, (v0.2.2.2.2.2.1, (v0.2.2.2.2.2.2.1, ())))))))))))))
def spec_l09Use (x : (D_Project × (D_Schedule × D_Step))) (c : Unit) : (Option (Int × Unit)) :=
  (Option.bind (loopN (A := (Int × (Int × (Int × (D_Project × (D_Schedule × D_Step)))))) big spec_l09Use_L0 (0, ((lenI x.1.2.1), (x.2.2.2.1, (x.1, (x.2.1, (x.2.2.1, (0, ())))))))) fun v20 => (match v20 with | Out.norm v21 => none | Out.exit v22 => (match ((match v22 with | Sum.inl v25 => (Sum.inl (v25.2.2.2.2.2.2.2.1, ())) | Sum.inr v26 => (Empty.elim v26)) : ((Int × Unit) ⊕ Empty)) with | Sum.inl v23 => (some (v23.1, ())) | Sum.inr v24 => none) | Out.ret v27 => (some v27)))
def H_spec_l09Use : Hd := ⟨[.st [.int .i64, .sl 159 (.st [.str, .int .i64, .sl 172 (.st [.int .i64, .sl 3 (.int .i64), .sl 3 (.int .i64)])]), .sl 164 (.st [.int .i64, .int .i64, .bool, .int .i64]), .sl 169 (.st [.sl 228 (.st [.int .i64, .int .i64]), .sl 25 (.sl 3 (.int .i64))]), .sl 3 (.int .i64)], .st [.sl 3 (.int .i64), .sl 3 (.int .i64)], .int .i64, .int .i64], [], none, .p, .int .i64, .p, []⟩
def T_spec_l09Use : FSig := ⟨H_spec_l09Use.ps, H_spec_l09Use.cs, H_spec_l09Use.io, H_spec_l09Use.im, H_spec_l09Use.R, H_spec_l09Use.m, spec_l09Use⟩
theorem E_spec_l09Use : fnOf tys [(122, T_spec_l09End), (204, T_spec_l09Mode)] Tryz.f258 H_spec_l09Use = T_spec_l09Use := by kernel_rfl
theorem K_spec_l09Use : SigOk Tryz.prog 258 T_spec_l09Use := (congrArg (SigOk Tryz.prog 258) E_spec_l09Use).mp (fnOf_ok rfl tysOk ⟨K_spec_l09End, K_spec_l09Mode, trivial⟩ Tryz.func258 (by decide) rfl (fun _ h => by cases h) (nilEq_of (by kernel_rfl)))
def spec_l03Span (x : ((List D_Step) × D_Step)) (c : Unit) : (Option (Bool × Unit)) :=
  (Option.bind ((Option.bind (spec_StepsOk (x.1, ()) ()) fun v0 => (some v0.1)) : (Option Bool)) fun v1 => (Option.bind ((if v1 = true then (Option.bind ((Option.bind (spec_l01In (x.2.1, (0, (60, ()))) ()) fun v2 => (some v2.1)) : (Option Bool)) fun v3 => (Option.bind ((if v3 = true then (Option.bind ((Option.bind (spec_l01In (x.2.2.1, (0, (60, ()))) ()) fun v4 => (some v4.1)) : (Option Bool)) fun v5 => (some (v5, ()))) else (some (false, ()))) : (Option (Bool × Unit))) fun v6 => (some (v6.1, ())))) else (some (false, ()))) : (Option (Bool × Unit))) fun v7 => (some (v7.1, ()))))
def H_spec_l03Span : Hd := ⟨[.sl 228 (.st [.int .i64, .int .i64]), .int .i64, .int .i64], [], none, .p, .bool, .p, []⟩
def T_spec_l03Span : FSig := ⟨H_spec_l03Span.ps, H_spec_l03Span.cs, H_spec_l03Span.io, H_spec_l03Span.im, H_spec_l03Span.R, H_spec_l03Span.m, spec_l03Span⟩
theorem E_spec_l03Span : fnOf tys [(111, T_spec_l01In), (262, T_spec_StepsOk)] Tryz.f301 H_spec_l03Span = T_spec_l03Span := by kernel_rfl
theorem K_spec_l03Span : SigOk Tryz.prog 301 T_spec_l03Span := (congrArg (SigOk Tryz.prog 301) E_spec_l03Span).mp (fnOf_ok rfl tysOk ⟨K_spec_l01In, K_spec_StepsOk, trivial⟩ Tryz.func301 (by decide) rfl (fun _ h => by cases h) (nilEq_of (by kernel_rfl)))
def spec_TotalCapacity_L0 : (Int × (Int × ((List D_Step) × (Int × Unit)))) → Option (Out (Int × (Int × ((List D_Step) × (Int × Unit)))) ((Bool × (Int × (Int × ((List D_Step) × (Int × Unit))))) ⊕ Empty) (Int × Unit)) :=
  (fun v2 => (if (ltZ v2.1 v2.2.1) = true then (Option.bind ((Option.bind (spec_l03At (v2.2.2.1, (v2.1, ())) ()) fun v3 => (some v3.1)) : (Option Int)) fun v4 => (some (Out.norm ((addZ .i64 v2.1 1), (v2.2.1, (v2.2.2.1, ((addZ .i64 v2.2.2.2.1 v4), ()))))))) else (some (Out.exit (Sum.inl ((ltZ v2.1 v2.2.1), (v2.1, (v2.2.1, (v2.2.2.1, (v2.2.2.2.1, ()))))))))))
def spec_TotalCapacity (x : ((List D_Step) × D_Step)) (c : Unit) : (Option (Int × Unit)) :=
  (Option.bind ((Option.bind (spec_l03Span (x.1, (x.2.1, (x.2.2.1, ()))) ()) fun v0 => (some v0.1)) : (Option Bool)) fun v1 => (if (notB v1) = true then (some (0, ())) else (Option.bind (loopN (A := (Int × (Int × ((List D_Step) × (Int × Unit))))) big spec_TotalCapacity_L0 (x.2.1, (x.2.2.1, (x.1, (0, ()))))) fun v5 => (match v5 with | Out.norm v6 => none | Out.exit v7 => (match ((match v7 with | Sum.inl v10 => (Sum.inl (v10.2.2.2.2.1, ())) | Sum.inr v11 => (Empty.elim v11)) : ((Int × Unit) ⊕ Empty)) with | Sum.inl v8 => (some (v8.1, ())) | Sum.inr v9 => none) | Out.ret v12 => (some v12)))))
def H_spec_TotalCapacity : Hd := ⟨[.sl 228 (.st [.int .i64, .int .i64]), .int .i64, .int .i64], [], none, .p, .int .i64, .p, []⟩
def T_spec_TotalCapacity : FSig := ⟨H_spec_TotalCapacity.ps, H_spec_TotalCapacity.cs, H_spec_TotalCapacity.io, H_spec_TotalCapacity.im, H_spec_TotalCapacity.R, H_spec_TotalCapacity.m, spec_TotalCapacity⟩
theorem E_spec_TotalCapacity : fnOf tys [(221, T_spec_l03At), (301, T_spec_l03Span)] Tryz.f259 H_spec_TotalCapacity = T_spec_TotalCapacity := by kernel_rfl
theorem K_spec_TotalCapacity : SigOk Tryz.prog 259 T_spec_TotalCapacity := (congrArg (SigOk Tryz.prog 259) E_spec_TotalCapacity).mp (fnOf_ok rfl tysOk ⟨K_spec_l03At, K_spec_l03Span, trivial⟩ Tryz.func259 (by decide) rfl (fun _ h => by cases h) (nilEq_of (by kernel_rfl)))
def spec_ConsumptionOf_L0 : (Int × (Int × (D_Project × (D_Schedule × D_Step)))) → Option (Out (Int × (Int × (D_Project × (D_Schedule × D_Step)))) ((Bool × (Int × (Int × (D_Project × (D_Schedule × D_Step))))) ⊕ Empty) (Int × Unit)) :=
  (fun v5 => (if (ltZ v5.1 v5.2.1) = true then (Option.bind ((Option.bind (spec_l09Mode (v5.2.2.1, (v5.2.2.2.1, (v5.1, ()))) ()) fun v6 => (some v6.1)) : (Option D_Mode)) fun v7 => (Option.bind (getI v7.2.2.1 v5.2.2.2.2.1) fun v8 => (some (Out.norm ((addZ .i64 v5.1 1), (v5.2.1, (v5.2.2.1, (v5.2.2.2.1, (v5.2.2.2.2.1, ((addZ .i64 v5.2.2.2.2.2.1 v8), ())))))))))) else (some (Out.exit (Sum.inl ((ltZ v5.1 v5.2.1), (v5.1, (v5.2.1, (v5.2.2.1, (v5.2.2.2.1, (v5.2.2.2.2.1, (v5.2.2.2.2.2.1, ()))))))))))))
def spec_ConsumptionOf (x : (D_Project × (D_Schedule × (Int × Unit)))) (c : Unit) : (Option (Int × Unit)) :=
  (Option.bind ((Option.bind (spec_ScheduleForm (x.1, (x.2.1, ())) ()) fun v0 => (some v0.1)) : (Option Bool)) fun v1 => (Option.bind ((if (notB v1) = true then (some (true, (x.1, (x.2.1, (x.2.2.1, (0, ())))))) else (Option.bind ((Option.bind (spec_l01In (x.2.2.1, (0, ((subZ .i64 (lenI x.1.2.2.2.2.1) 1), ()))) ()) fun v2 => (some v2.1)) : (Option Bool)) fun v3 => (some ((notB v3), (x.1, (x.2.1, (x.2.2.1, (0, ())))))))) : (Option (Bool × (D_Project × (D_Schedule × D_Step))))) fun v4 => (if v4.1 = true then (some (0, ())) else (Option.bind (loopN (A := (Int × (Int × (D_Project × (D_Schedule × D_Step))))) big spec_ConsumptionOf_L0 (0, ((lenI v4.2.1.2.1), (v4.2.1, (v4.2.2.1, (v4.2.2.2.1, (v4.2.2.2.2.1, ()))))))) fun v9 => (match v9 with | Out.norm v10 => none | Out.exit v11 => (match ((match v11 with | Sum.inl v14 => (Sum.inl (v14.2.2.2.2.2.2.1, ())) | Sum.inr v15 => (Empty.elim v15)) : ((Int × Unit) ⊕ Empty)) with | Sum.inl v12 => (some (v12.1, ())) | Sum.inr v13 => none) | Out.ret v16 => (some v16))))))
def H_spec_ConsumptionOf : Hd := ⟨[.st [.int .i64, .sl 159 (.st [.str, .int .i64, .sl 172 (.st [.int .i64, .sl 3 (.int .i64), .sl 3 (.int .i64)])]), .sl 164 (.st [.int .i64, .int .i64, .bool, .int .i64]), .sl 169 (.st [.sl 228 (.st [.int .i64, .int .i64]), .sl 25 (.sl 3 (.int .i64))]), .sl 3 (.int .i64)], .st [.sl 3 (.int .i64), .sl 3 (.int .i64)], .int .i64], [], none, .p, .int .i64, .p, []⟩
def T_spec_ConsumptionOf : FSig := ⟨H_spec_ConsumptionOf.ps, H_spec_ConsumptionOf.cs, H_spec_ConsumptionOf.io, H_spec_ConsumptionOf.im, H_spec_ConsumptionOf.R, H_spec_ConsumptionOf.m, spec_ConsumptionOf⟩
theorem E_spec_ConsumptionOf : fnOf tys [(111, T_spec_l01In), (162, T_spec_ScheduleForm), (204, T_spec_l09Mode)] Tryz.f260 H_spec_ConsumptionOf = T_spec_ConsumptionOf := by kernel_rfl
theorem K_spec_ConsumptionOf : SigOk Tryz.prog 260 T_spec_ConsumptionOf := (congrArg (SigOk Tryz.prog 260) E_spec_ConsumptionOf).mp (fnOf_ok rfl tysOk ⟨K_spec_l01In, K_spec_ScheduleForm, K_spec_l09Mode, trivial⟩ Tryz.func260 (by decide) rfl (fun _ h => by cases h) (nilEq_of (by kernel_rfl)))
def spec_l10Fails_L0 : (Int × (D_Schedule × (Int × (D_Project × (D_Rule × Unit))))) → Option (Out (Int × (D_Schedule × (Int × (D_Project × (D_Rule × Unit))))) ((Bool × (Int × (D_Schedule × (Int × (D_Project × (D_Rule × Unit)))))) ⊕ Empty) (Bool × Unit)) :=
  (fun v24 => (if (ltZ v24.1 v24.2.2.2.2.1.2.2.2.1) = true then (Option.bind ((Option.bind (spec_l09Use (v24.2.2.2.1, (v24.2.1, (v24.2.2.2.2.1.2.1, (v24.1, ())))) ()) fun v25 => (some v25.1)) : (Option Int)) fun v26 => (some (Out.norm ((addZ .i64 v24.1 1), (v24.2.1, ((addZ .i64 v24.2.2.1 v26), (v24.2.2.2.1, (v24.2.2.2.2.1, ())))))))) else (some (Out.exit (Sum.inl ((ltZ v24.1 v24.2.2.2.2.1.2.2.2.1), (v24.1, (v24.2.1, (v24.2.2.1, (v24.2.2.2.1, (v24.2.2.2.2.1, ())))))))))))
def spec_l10Fails (x : (D_Project × (D_Schedule × (D_Rule × Unit)))) (c : Unit) : (Option (Bool × Unit)) :=
  (if (eqZ x.2.2.1.1 1) = true then (Option.bind (getI x.1.2.2.1 x.2.2.1.2.1) fun v0 => (Option.bind (getI x.2.1.1 v0.1) fun v1 => (Option.bind ((if v0.2.2.1 = true then (Option.bind ((Option.bind (spec_l09End (x.1, (x.2.1, (v0.1, ()))) ()) fun v2 => (some v2.1)) : (Option Int)) fun v3 => (some (Out.norm (x.2.1, (v3, (v0, ())))))) else (some (Out.norm (x.2.1, (v1, (v0, ())))))) : (Option (Out (D_Schedule × (Int × (D_Link × Unit))) Empty (Bool × Unit)))) fun v4 => (match ((match v4 with | Out.norm v14 => (Out.norm v14) | Out.exit v15 => (Out.exit v15) | Out.ret v16 => (Out.ret v16)) : (Out (D_Schedule × (Int × (D_Link × Unit))) Empty (Bool × Unit))) with | Out.norm v5 => (Option.bind (getI v5.1.1 v5.2.2.1.2.1) fun v6 => (some ((ltZ v6 (addZ .i64 v5.2.1 v5.2.2.1.2.2.2.1)), ()))) | Out.exit v7 => (match ((Empty.elim (Empty.elim (Empty.elim v7))) : ((D_Schedule × (D_Project × (D_Rule × Unit))) ⊕ Empty)) with | Sum.inl v8 => (Option.bind ((Option.bind (spec_ConsumptionOf (v8.2.1, (v8.1, (v8.2.2.1.2.1, ()))) ()) fun v9 => (some v9.1)) : (Option Int)) fun v10 => (Option.bind (getI v8.2.1.2.2.2.2.1 v8.2.2.1.2.1) fun v11 => (some ((ltZ v11 v10), ())))) | Sum.inr v12 => none) | Out.ret v13 => (some v13))))) else (if (eqZ x.2.2.1.1 2) = true then (Option.bind ((Option.bind (spec_l09End (x.1, (x.2.1, (x.2.2.1.2.1, ()))) ()) fun v17 => (some v17.1)) : (Option Int)) fun v18 => (some ((ltZ x.1.1 v18), ()))) else (if (eqZ x.2.2.1.1 3) = true then (Option.bind ((Option.bind (spec_l09Use (x.1, (x.2.1, (x.2.2.1.2.1, (x.2.2.1.2.2.1, ())))) ()) fun v19 => (some v19.1)) : (Option Int)) fun v20 => (Option.bind (getI x.1.2.2.2.1 x.2.2.1.2.1) fun v21 => (Option.bind ((Option.bind (spec_l03At (v21.1, (x.2.2.1.2.2.1, ())) ()) fun v22 => (some v22.1)) : (Option Int)) fun v23 => (some ((ltZ v23 v20), ()))))) else (if (eqZ x.2.2.1.1 4) = true then (Option.bind (loopN (A := (Int × (D_Schedule × (Int × (D_Project × (D_Rule × Unit)))))) big spec_l10Fails_L0 (x.2.2.1.2.2.1, (x.2.1, (0, (x.1, (x.2.2.1, ())))))) fun v27 => (match v27 with | Out.norm v28 => none | Out.exit v29 => (match ((match v29 with | Sum.inl v40 => (Sum.inl (v40.2.2.2.1, (v40.2.2.2.2.1, (v40.2.2.2.2.2.1, ())))) | Sum.inr v41 => (Empty.elim v41)) : ((Int × (D_Project × (D_Rule × Unit))) ⊕ Empty)) with | Sum.inl v30 => (Option.bind (getI v30.2.1.2.2.2.1 v30.2.2.1.2.1) fun v31 => (Option.bind ((Option.bind (spec_TotalCapacity (v31.1, (v30.2.2.1.2.2.1, (v30.2.2.1.2.2.2.1, ()))) ()) fun v32 => (some v32.1)) : (Option Int)) fun v33 => (some ((ltZ v33 v30.1), ())))) | Sum.inr v34 => (match ((Empty.elim (Empty.elim (Empty.elim v34))) : ((D_Schedule × (D_Project × (D_Rule × Unit))) ⊕ Empty)) with | Sum.inl v35 => (Option.bind ((Option.bind (spec_ConsumptionOf (v35.2.1, (v35.1, (v35.2.2.1.2.1, ()))) ()) fun v36 => (some v36.1)) : (Option Int)) fun v37 => (Option.bind (getI v35.2.1.2.2.2.2.1 v35.2.2.1.2.1) fun v38 => (some ((ltZ v38 v37), ())))) | Sum.inr v39 => none)) | Out.ret v42 => (some v42))) else (if (eqZ x.2.2.1.1 5) = true then (Option.bind ((Option.bind (spec_l10Pair (x.1, (x.2.1, (x.2.2.1, ()))) ()) fun v43 => (some v43.1)) : (Option Bool)) fun v44 => (some (v44, ()))) else (Option.bind ((Option.bind (spec_ConsumptionOf (x.1, (x.2.1, (x.2.2.1.2.1, ()))) ()) fun v45 => (some v45.1)) : (Option Int)) fun v46 => (Option.bind (getI x.1.2.2.2.2.1 x.2.2.1.2.1) fun v47 => (some ((ltZ v47 v46), ())))))))))
def H_spec_l10Fails : Hd := ⟨[.st [.int .i64, .sl 159 (.st [.str, .int .i64, .sl 172 (.st [.int .i64, .sl 3 (.int .i64), .sl 3 (.int .i64)])]), .sl 164 (.st [.int .i64, .int .i64, .bool, .int .i64]), .sl 169 (.st [.sl 228 (.st [.int .i64, .int .i64]), .sl 25 (.sl 3 (.int .i64))]), .sl 3 (.int .i64)], .st [.sl 3 (.int .i64), .sl 3 (.int .i64)], .st [.int .i64, .int .i64, .int .i64, .int .i64]], [], none, .p, .bool, .p, []⟩
def T_spec_l10Fails : FSig := ⟨H_spec_l10Fails.ps, H_spec_l10Fails.cs, H_spec_l10Fails.io, H_spec_l10Fails.im, H_spec_l10Fails.R, H_spec_l10Fails.m, spec_l10Fails⟩
theorem E_spec_l10Fails : fnOf tys [(122, T_spec_l09End), (207, T_spec_l10Pair), (221, T_spec_l03At), (258, T_spec_l09Use), (259, T_spec_TotalCapacity), (260, T_spec_ConsumptionOf)] Tryz.f199 H_spec_l10Fails = T_spec_l10Fails := by kernel_rfl
theorem K_spec_l10Fails : SigOk Tryz.prog 199 T_spec_l10Fails := (congrArg (SigOk Tryz.prog 199) E_spec_l10Fails).mp (fnOf_ok rfl tysOk ⟨K_spec_l09End, K_spec_l10Pair, K_spec_l03At, K_spec_l09Use, K_spec_TotalCapacity, K_spec_ConsumptionOf, trivial⟩ Tryz.func199 (by decide) rfl (fun _ h => by cases h) (nilEq_of (by kernel_rfl)))
def spec_IsMachine (x : (D_Project × (Int × Unit))) (c : Unit) : (Option (Bool × Unit)) :=
  (Option.bind ((Option.bind (spec_l01In (x.2.1, (0, ((subZ .i64 (lenI x.1.2.2.2.1) 1), ()))) ()) fun v0 => (some v0.1)) : (Option Bool)) fun v1 => (Option.bind ((if v1 = true then (Option.bind (getI x.1.2.2.2.1 x.2.1) fun v2 => (some ((ltZ 0 (lenI v2.2.1)), ()))) else (some (false, ()))) : (Option (Bool × Unit))) fun v3 => (some (v3.1, ()))))
def H_spec_IsMachine : Hd := ⟨[.st [.int .i64, .sl 159 (.st [.str, .int .i64, .sl 172 (.st [.int .i64, .sl 3 (.int .i64), .sl 3 (.int .i64)])]), .sl 164 (.st [.int .i64, .int .i64, .bool, .int .i64]), .sl 169 (.st [.sl 228 (.st [.int .i64, .int .i64]), .sl 25 (.sl 3 (.int .i64))]), .sl 3 (.int .i64)], .int .i64], [], none, .p, .bool, .p, []⟩
def T_spec_IsMachine : FSig := ⟨H_spec_IsMachine.ps, H_spec_IsMachine.cs, H_spec_IsMachine.io, H_spec_IsMachine.im, H_spec_IsMachine.R, H_spec_IsMachine.m, spec_IsMachine⟩
theorem E_spec_IsMachine : fnOf tys [(111, T_spec_l01In)] Tryz.f206 H_spec_IsMachine = T_spec_IsMachine := by kernel_rfl
theorem K_spec_IsMachine : SigOk Tryz.prog 206 T_spec_IsMachine := (congrArg (SigOk Tryz.prog 206) E_spec_IsMachine).mp (fnOf_ok rfl tysOk ⟨K_spec_l01In, trivial⟩ Tryz.func206 (by decide) rfl (fun _ h => by cases h) (nilEq_of (by kernel_rfl)))
def laws_toIntS_L0 : D_Mode → Option (Out D_Mode ((Bool × D_Mode) ⊕ Empty) ((List Int) × Unit)) :=
  (fun v1 => (if (ltZ v1.1 (lenI v1.2.1)) = true then (Option.bind (getI v1.2.1 v1.1) fun v2 => (Option.bind ((Option.bind (getI v1.2.2.1 v1.1) fun v3 => (some ())) : (Option Unit)) fun v4 => (Option.bind ((Option.bind ((Option.bind (getI v1.2.2.1 v1.1) fun v5 => (some v5)) : (Option Int)) fun v6 => (some v2)) : (Option Int)) fun v7 => (some (Out.norm ((addZ .i64 v1.1 1), (v1.2.1, ((setI v1.2.2.1 v1.1 (fun v8 => v7)), ())))))))) else (some (Out.exit (Sum.inl ((ltZ v1.1 (lenI v1.2.1)), (v1.1, (v1.2.1, (v1.2.2.1, ())))))))))
def laws_toIntS (x : ((List Int) × Unit)) (c : Unit) : (Option ((List Int) × Unit)) :=
  (Option.bind ((if (eqZ (lenI x.1) (lenI x.1)) = true then (zerosI (lenI x.1) 0) else none) : (Option (List Int))) fun v0 => (Option.bind (loopN (A := D_Mode) big laws_toIntS_L0 (0, (x.1, (v0, ())))) fun v9 => (match v9 with | Out.norm v10 => none | Out.exit v11 => (match ((match v11 with | Sum.inl v14 => (Sum.inl (v14.2.2.2.1, ())) | Sum.inr v15 => (Empty.elim v15)) : (((List Int) × Unit) ⊕ Empty)) with | Sum.inl v12 => (some (v12.1, ())) | Sum.inr v13 => none) | Out.ret v16 => (some v16))))
def H_laws_toIntS : Hd := ⟨[.sl 3 (.int .i64)], [], none, .p, .sl 3 (.int .i64), (Ty.all (.sl 3 (.int .i64))), []⟩
def T_laws_toIntS : FSig := ⟨H_laws_toIntS.ps, H_laws_toIntS.cs, H_laws_toIntS.io, H_laws_toIntS.im, H_laws_toIntS.R, H_laws_toIntS.m, laws_toIntS⟩
theorem E_laws_toIntS : fnOf tys [] Tryz.f61 H_laws_toIntS = T_laws_toIntS := by kernel_rfl
theorem K_laws_toIntS : SigOk Tryz.prog 61 T_laws_toIntS := (congrArg (SigOk Tryz.prog 61) E_laws_toIntS).mp (fnOf_ok rfl tysOk trivial Tryz.func61 (by decide) rfl (fun _ h => by cases h) (nilEq_of (by kernel_rfl)))
def laws_toMode (x : (D_Mode × Unit)) (c : Unit) : (Option (D_Mode × Unit)) :=
  (Option.bind ((Option.bind (laws_toIntS (x.1.2.1, ()) ()) fun v0 => (some v0.1)) : (Option (List Int))) fun v1 => (Option.bind ((Option.bind (laws_toIntS (x.1.2.2.1, ()) ()) fun v2 => (some v2.1)) : (Option (List Int))) fun v3 => (some ((x.1.1, (v1, (v3, ()))), ()))))
def H_laws_toMode : Hd := ⟨[.st [.int .i64, .sl 3 (.int .i64), .sl 3 (.int .i64)]], [], none, .p, .st [.int .i64, .sl 3 (.int .i64), .sl 3 (.int .i64)], (Ty.all (.st [.int .i64, .sl 3 (.int .i64), .sl 3 (.int .i64)])), []⟩
def T_laws_toMode : FSig := ⟨H_laws_toMode.ps, H_laws_toMode.cs, H_laws_toMode.io, H_laws_toMode.im, H_laws_toMode.R, H_laws_toMode.m, laws_toMode⟩
theorem E_laws_toMode : fnOf tys [(61, T_laws_toIntS)] Tryz.f264 H_laws_toMode = T_laws_toMode := by kernel_rfl
theorem K_laws_toMode : SigOk Tryz.prog 264 T_laws_toMode := (congrArg (SigOk Tryz.prog 264) E_laws_toMode).mp (fnOf_ok rfl tysOk ⟨K_laws_toIntS, trivial⟩ Tryz.func264 (by decide) rfl (fun _ h => by cases h) (nilEq_of (by kernel_rfl)))
def laws_toModeS_L0 : (Int × ((List D_Mode) × ((List D_Mode) × Unit))) → Option (Out (Int × ((List D_Mode) × ((List D_Mode) × Unit))) ((Bool × (Int × ((List D_Mode) × ((List D_Mode) × Unit)))) ⊕ Empty) ((List D_Mode) × Unit)) :=
  (fun v1 => (if (ltZ v1.1 (lenI v1.2.1)) = true then (Option.bind (getI v1.2.1 v1.1) fun v2 => (Option.bind ((Option.bind (laws_toMode (v2, ()) ()) fun v3 => (some v3.1)) : (Option D_Mode)) fun v4 => (Option.bind ((Option.bind (getI v1.2.2.1 v1.1) fun v5 => (some ())) : (Option Unit)) fun v6 => (Option.bind ((Option.bind ((Option.bind (getI v1.2.2.1 v1.1) fun v7 => (some v7)) : (Option D_Mode)) fun v8 => (some v4)) : (Option D_Mode)) fun v9 => (some (Out.norm ((addZ .i64 v1.1 1), (v1.2.1, ((setI v1.2.2.1 v1.1 (fun v10 => v9)), ()))))))))) else (some (Out.exit (Sum.inl ((ltZ v1.1 (lenI v1.2.1)), (v1.1, (v1.2.1, (v1.2.2.1, ())))))))))
def laws_toModeS (x : ((List D_Mode) × Unit)) (c : Unit) : (Option ((List D_Mode) × Unit)) :=
  (Option.bind ((if (eqZ (lenI x.1) (lenI x.1)) = true then (zerosI (lenI x.1) (0, ([], ([], ())))) else none) : (Option (List D_Mode))) fun v0 => (Option.bind (loopN (A := (Int × ((List D_Mode) × ((List D_Mode) × Unit)))) big laws_toModeS_L0 (0, (x.1, (v0, ())))) fun v11 => (match v11 with | Out.norm v12 => none | Out.exit v13 => (match ((match v13 with | Sum.inl v16 => (Sum.inl (v16.2.2.2.1, ())) | Sum.inr v17 => (Empty.elim v17)) : (((List D_Mode) × Unit) ⊕ Empty)) with | Sum.inl v14 => (some (v14.1, ())) | Sum.inr v15 => none) | Out.ret v18 => (some v18))))
def H_laws_toModeS : Hd := ⟨[.sl 242 (.st [.int .i64, .sl 3 (.int .i64), .sl 3 (.int .i64)])], [], none, .p, .sl 172 (.st [.int .i64, .sl 3 (.int .i64), .sl 3 (.int .i64)]), (Ty.all (.sl 172 (.st [.int .i64, .sl 3 (.int .i64), .sl 3 (.int .i64)]))), []⟩
def T_laws_toModeS : FSig := ⟨H_laws_toModeS.ps, H_laws_toModeS.cs, H_laws_toModeS.io, H_laws_toModeS.im, H_laws_toModeS.R, H_laws_toModeS.m, laws_toModeS⟩
theorem E_laws_toModeS : fnOf tys [(264, T_laws_toMode)] Tryz.f208 H_laws_toModeS = T_laws_toModeS := by kernel_rfl
theorem K_laws_toModeS : SigOk Tryz.prog 208 T_laws_toModeS := (congrArg (SigOk Tryz.prog 208) E_laws_toModeS).mp (fnOf_ok rfl tysOk ⟨K_laws_toMode, trivial⟩ Tryz.func208 (by decide) rfl (fun _ h => by cases h) (nilEq_of (by kernel_rfl)))
def laws_toActivity (x : (D_Activity × Unit)) (c : Unit) : (Option (D_Activity × Unit)) :=
  (Option.bind ((Option.bind (laws_toModeS (x.1.2.2.1, ()) ()) fun v0 => (some v0.1)) : (Option (List D_Mode))) fun v1 => (some ((x.1.1, (x.1.2.1, (v1, ()))), ())))
def H_laws_toActivity : Hd := ⟨[.st [.str, .int .i64, .sl 242 (.st [.int .i64, .sl 3 (.int .i64), .sl 3 (.int .i64)])]], [], none, .p, .st [.str, .int .i64, .sl 172 (.st [.int .i64, .sl 3 (.int .i64), .sl 3 (.int .i64)])], (Ty.all (.st [.str, .int .i64, .sl 172 (.st [.int .i64, .sl 3 (.int .i64), .sl 3 (.int .i64)])])), []⟩
def T_laws_toActivity : FSig := ⟨H_laws_toActivity.ps, H_laws_toActivity.cs, H_laws_toActivity.io, H_laws_toActivity.im, H_laws_toActivity.R, H_laws_toActivity.m, laws_toActivity⟩
theorem E_laws_toActivity : fnOf tys [(208, T_laws_toModeS)] Tryz.f126 H_laws_toActivity = T_laws_toActivity := by kernel_rfl
theorem K_laws_toActivity : SigOk Tryz.prog 126 T_laws_toActivity := (congrArg (SigOk Tryz.prog 126) E_laws_toActivity).mp (fnOf_ok rfl tysOk ⟨K_laws_toModeS, trivial⟩ Tryz.func126 (by decide) rfl (fun _ h => by cases h) (nilEq_of (by kernel_rfl)))
def laws_toActivityS_L0 : (Int × ((List D_Activity) × ((List D_Activity) × Unit))) → Option (Out (Int × ((List D_Activity) × ((List D_Activity) × Unit))) ((Bool × (Int × ((List D_Activity) × ((List D_Activity) × Unit)))) ⊕ Empty) ((List D_Activity) × Unit)) :=
  (fun v1 => (if (ltZ v1.1 (lenI v1.2.1)) = true then (Option.bind (getI v1.2.1 v1.1) fun v2 => (Option.bind ((Option.bind (laws_toActivity (v2, ()) ()) fun v3 => (some v3.1)) : (Option D_Activity)) fun v4 => (Option.bind ((Option.bind (getI v1.2.2.1 v1.1) fun v5 => (some ())) : (Option Unit)) fun v6 => (Option.bind ((Option.bind ((Option.bind (getI v1.2.2.1 v1.1) fun v7 => (some v7)) : (Option D_Activity)) fun v8 => (some v4)) : (Option D_Activity)) fun v9 => (some (Out.norm ((addZ .i64 v1.1 1), (v1.2.1, ((setI v1.2.2.1 v1.1 (fun v10 => v9)), ()))))))))) else (some (Out.exit (Sum.inl ((ltZ v1.1 (lenI v1.2.1)), (v1.1, (v1.2.1, (v1.2.2.1, ())))))))))
def laws_toActivityS (x : ((List D_Activity) × Unit)) (c : Unit) : (Option ((List D_Activity) × Unit)) :=
  (Option.bind ((if (eqZ (lenI x.1) (lenI x.1)) = true then (zerosI (lenI x.1) ([], (0, ([], ())))) else none) : (Option (List D_Activity))) fun v0 => (Option.bind (loopN (A := (Int × ((List D_Activity) × ((List D_Activity) × Unit)))) big laws_toActivityS_L0 (0, (x.1, (v0, ())))) fun v11 => (match v11 with | Out.norm v12 => none | Out.exit v13 => (match ((match v13 with | Sum.inl v16 => (Sum.inl (v16.2.2.2.1, ())) | Sum.inr v17 => (Empty.elim v17)) : (((List D_Activity) × Unit) ⊕ Empty)) with | Sum.inl v14 => (some (v14.1, ())) | Sum.inr v15 => none) | Out.ret v18 => (some v18))))
def H_laws_toActivityS : Hd := ⟨[.sl 150 (.st [.str, .int .i64, .sl 242 (.st [.int .i64, .sl 3 (.int .i64), .sl 3 (.int .i64)])])], [], none, .p, .sl 159 (.st [.str, .int .i64, .sl 172 (.st [.int .i64, .sl 3 (.int .i64), .sl 3 (.int .i64)])]), (Ty.all (.sl 159 (.st [.str, .int .i64, .sl 172 (.st [.int .i64, .sl 3 (.int .i64), .sl 3 (.int .i64)])]))), []⟩
def T_laws_toActivityS : FSig := ⟨H_laws_toActivityS.ps, H_laws_toActivityS.cs, H_laws_toActivityS.io, H_laws_toActivityS.im, H_laws_toActivityS.R, H_laws_toActivityS.m, laws_toActivityS⟩
theorem E_laws_toActivityS : fnOf tys [(126, T_laws_toActivity)] Tryz.f58 H_laws_toActivityS = T_laws_toActivityS := by kernel_rfl
theorem K_laws_toActivityS : SigOk Tryz.prog 58 T_laws_toActivityS := (congrArg (SigOk Tryz.prog 58) E_laws_toActivityS).mp (fnOf_ok rfl tysOk ⟨K_laws_toActivity, trivial⟩ Tryz.func58 (by decide) rfl (fun _ h => by cases h) (nilEq_of (by kernel_rfl)))
def laws_toLink (x : (D_Link × Unit)) (c : Unit) : (Option (D_Link × Unit)) :=
  (some ((x.1.1, (x.1.2.1, (x.1.2.2.1, (x.1.2.2.2.1, ())))), ()))
def H_laws_toLink : Hd := ⟨[.st [.int .i64, .int .i64, .bool, .int .i64]], [], none, .p, .st [.int .i64, .int .i64, .bool, .int .i64], .p, []⟩
def T_laws_toLink : FSig := ⟨H_laws_toLink.ps, H_laws_toLink.cs, H_laws_toLink.io, H_laws_toLink.im, H_laws_toLink.R, H_laws_toLink.m, laws_toLink⟩
theorem E_laws_toLink : fnOf tys [] Tryz.f127 H_laws_toLink = T_laws_toLink := by kernel_rfl
theorem K_laws_toLink : SigOk Tryz.prog 127 T_laws_toLink := (congrArg (SigOk Tryz.prog 127) E_laws_toLink).mp (fnOf_ok rfl tysOk trivial Tryz.func127 (by decide) rfl (fun _ h => by cases h) (nilEq_of (by kernel_rfl)))
def laws_toLinkS_L0 : (Int × ((List D_Link) × ((List D_Link) × Unit))) → Option (Out (Int × ((List D_Link) × ((List D_Link) × Unit))) ((Bool × (Int × ((List D_Link) × ((List D_Link) × Unit)))) ⊕ Empty) ((List D_Link) × Unit)) :=
  (fun v1 => (if (ltZ v1.1 (lenI v1.2.1)) = true then (Option.bind (getI v1.2.1 v1.1) fun v2 => (Option.bind ((Option.bind (laws_toLink (v2, ()) ()) fun v3 => (some v3.1)) : (Option D_Link)) fun v4 => (Option.bind ((Option.bind (getI v1.2.2.1 v1.1) fun v5 => (some ())) : (Option Unit)) fun v6 => (Option.bind ((Option.bind ((Option.bind (getI v1.2.2.1 v1.1) fun v7 => (some v7)) : (Option D_Link)) fun v8 => (some v4)) : (Option D_Link)) fun v9 => (some (Out.norm ((addZ .i64 v1.1 1), (v1.2.1, ((setI v1.2.2.1 v1.1 (fun v10 => v9)), ()))))))))) else (some (Out.exit (Sum.inl ((ltZ v1.1 (lenI v1.2.1)), (v1.1, (v1.2.1, (v1.2.2.1, ())))))))))
def laws_toLinkS (x : ((List D_Link) × Unit)) (c : Unit) : (Option ((List D_Link) × Unit)) :=
  (Option.bind ((if (eqZ (lenI x.1) (lenI x.1)) = true then (zerosI (lenI x.1) (0, (0, (false, (0, ()))))) else none) : (Option (List D_Link))) fun v0 => (Option.bind (loopN (A := (Int × ((List D_Link) × ((List D_Link) × Unit)))) big laws_toLinkS_L0 (0, (x.1, (v0, ())))) fun v11 => (match v11 with | Out.norm v12 => none | Out.exit v13 => (match ((match v13 with | Sum.inl v16 => (Sum.inl (v16.2.2.2.1, ())) | Sum.inr v17 => (Empty.elim v17)) : (((List D_Link) × Unit) ⊕ Empty)) with | Sum.inl v14 => (some (v14.1, ())) | Sum.inr v15 => none) | Out.ret v18 => (some v18))))
def H_laws_toLinkS : Hd := ⟨[.sl 166 (.st [.int .i64, .int .i64, .bool, .int .i64])], [], none, .p, .sl 164 (.st [.int .i64, .int .i64, .bool, .int .i64]), (Ty.all (.sl 164 (.st [.int .i64, .int .i64, .bool, .int .i64]))), []⟩
def T_laws_toLinkS : FSig := ⟨H_laws_toLinkS.ps, H_laws_toLinkS.cs, H_laws_toLinkS.io, H_laws_toLinkS.im, H_laws_toLinkS.R, H_laws_toLinkS.m, laws_toLinkS⟩
theorem E_laws_toLinkS : fnOf tys [(127, T_laws_toLink)] Tryz.f59 H_laws_toLinkS = T_laws_toLinkS := by kernel_rfl
theorem K_laws_toLinkS : SigOk Tryz.prog 59 T_laws_toLinkS := (congrArg (SigOk Tryz.prog 59) E_laws_toLinkS).mp (fnOf_ok rfl tysOk ⟨K_laws_toLink, trivial⟩ Tryz.func59 (by decide) rfl (fun _ h => by cases h) (nilEq_of (by kernel_rfl)))
def laws_toIntSS_L0 : (Int × ((List (List Int)) × ((List (List Int)) × Unit))) → Option (Out (Int × ((List (List Int)) × ((List (List Int)) × Unit))) ((Bool × (Int × ((List (List Int)) × ((List (List Int)) × Unit)))) ⊕ Empty) ((List (List Int)) × Unit)) :=
  (fun v1 => (if (ltZ v1.1 (lenI v1.2.1)) = true then (Option.bind (getI v1.2.1 v1.1) fun v2 => (Option.bind ((Option.bind (laws_toIntS (v2, ()) ()) fun v3 => (some v3.1)) : (Option (List Int))) fun v4 => (Option.bind ((Option.bind (getI v1.2.2.1 v1.1) fun v5 => (some ())) : (Option Unit)) fun v6 => (Option.bind ((Option.bind ((Option.bind (getI v1.2.2.1 v1.1) fun v7 => (some v7)) : (Option (List Int))) fun v8 => (some v4)) : (Option (List Int))) fun v9 => (some (Out.norm ((addZ .i64 v1.1 1), (v1.2.1, ((setI v1.2.2.1 v1.1 (fun v10 => v9)), ()))))))))) else (some (Out.exit (Sum.inl ((ltZ v1.1 (lenI v1.2.1)), (v1.1, (v1.2.1, (v1.2.2.1, ())))))))))
def laws_toIntSS (x : ((List (List Int)) × Unit)) (c : Unit) : (Option ((List (List Int)) × Unit)) :=
  (Option.bind ((if (eqZ (lenI x.1) (lenI x.1)) = true then (zerosI (lenI x.1) []) else none) : (Option (List (List Int)))) fun v0 => (Option.bind (loopN (A := (Int × ((List (List Int)) × ((List (List Int)) × Unit)))) big laws_toIntSS_L0 (0, (x.1, (v0, ())))) fun v11 => (match v11 with | Out.norm v12 => none | Out.exit v13 => (match ((match v13 with | Sum.inl v16 => (Sum.inl (v16.2.2.2.1, ())) | Sum.inr v17 => (Empty.elim v17)) : (((List (List Int)) × Unit) ⊕ Empty)) with | Sum.inl v14 => (some (v14.1, ())) | Sum.inr v15 => none) | Out.ret v18 => (some v18))))
def H_laws_toIntSS : Hd := ⟨[.sl 25 (.sl 3 (.int .i64))], [], none, .p, .sl 25 (.sl 3 (.int .i64)), (Ty.all (.sl 25 (.sl 3 (.int .i64)))), []⟩
def T_laws_toIntSS : FSig := ⟨H_laws_toIntSS.ps, H_laws_toIntSS.cs, H_laws_toIntSS.io, H_laws_toIntSS.im, H_laws_toIntSS.R, H_laws_toIntSS.m, laws_toIntSS⟩
theorem E_laws_toIntSS : fnOf tys [(61, T_laws_toIntS)] Tryz.f99 H_laws_toIntSS = T_laws_toIntSS := by kernel_rfl
theorem K_laws_toIntSS : SigOk Tryz.prog 99 T_laws_toIntSS := (congrArg (SigOk Tryz.prog 99) E_laws_toIntSS).mp (fnOf_ok rfl tysOk ⟨K_laws_toIntS, trivial⟩ Tryz.func99 (by decide) rfl (fun _ h => by cases h) (nilEq_of (by kernel_rfl)))
def laws_toStep (x : (D_Step × Unit)) (c : Unit) : (Option (D_Step × Unit)) :=
  (some ((x.1.1, (x.1.2.1, ())), ()))
def H_laws_toStep : Hd := ⟨[.st [.int .i64, .int .i64]], [], none, .p, .st [.int .i64, .int .i64], .p, []⟩
def T_laws_toStep : FSig := ⟨H_laws_toStep.ps, H_laws_toStep.cs, H_laws_toStep.io, H_laws_toStep.im, H_laws_toStep.R, H_laws_toStep.m, laws_toStep⟩
theorem E_laws_toStep : fnOf tys [] Tryz.f265 H_laws_toStep = T_laws_toStep := by kernel_rfl
theorem K_laws_toStep : SigOk Tryz.prog 265 T_laws_toStep := (congrArg (SigOk Tryz.prog 265) E_laws_toStep).mp (fnOf_ok rfl tysOk trivial Tryz.func265 (by decide) rfl (fun _ h => by cases h) (nilEq_of (by kernel_rfl)))
def laws_toStepS_L0 : (Int × ((List D_Step) × ((List D_Step) × Unit))) → Option (Out (Int × ((List D_Step) × ((List D_Step) × Unit))) ((Bool × (Int × ((List D_Step) × ((List D_Step) × Unit)))) ⊕ Empty) ((List D_Step) × Unit)) :=
  (fun v1 => (if (ltZ v1.1 (lenI v1.2.1)) = true then (Option.bind (getI v1.2.1 v1.1) fun v2 => (Option.bind ((Option.bind (laws_toStep (v2, ()) ()) fun v3 => (some v3.1)) : (Option D_Step)) fun v4 => (Option.bind ((Option.bind (getI v1.2.2.1 v1.1) fun v5 => (some ())) : (Option Unit)) fun v6 => (Option.bind ((Option.bind ((Option.bind (getI v1.2.2.1 v1.1) fun v7 => (some v7)) : (Option D_Step)) fun v8 => (some v4)) : (Option D_Step)) fun v9 => (some (Out.norm ((addZ .i64 v1.1 1), (v1.2.1, ((setI v1.2.2.1 v1.1 (fun v10 => v9)), ()))))))))) else (some (Out.exit (Sum.inl ((ltZ v1.1 (lenI v1.2.1)), (v1.1, (v1.2.1, (v1.2.2.1, ())))))))))
def laws_toStepS (x : ((List D_Step) × Unit)) (c : Unit) : (Option ((List D_Step) × Unit)) :=
  (Option.bind ((if (eqZ (lenI x.1) (lenI x.1)) = true then (zerosI (lenI x.1) (0, (0, ()))) else none) : (Option (List D_Step))) fun v0 => (Option.bind (loopN (A := (Int × ((List D_Step) × ((List D_Step) × Unit)))) big laws_toStepS_L0 (0, (x.1, (v0, ())))) fun v11 => (match v11 with | Out.norm v12 => none | Out.exit v13 => (match ((match v13 with | Sum.inl v16 => (Sum.inl (v16.2.2.2.1, ())) | Sum.inr v17 => (Empty.elim v17)) : (((List D_Step) × Unit) ⊕ Empty)) with | Sum.inl v14 => (some (v14.1, ())) | Sum.inr v15 => none) | Out.ret v18 => (some v18))))
def H_laws_toStepS : Hd := ⟨[.sl 247 (.st [.int .i64, .int .i64])], [], none, .p, .sl 228 (.st [.int .i64, .int .i64]), (Ty.all (.sl 228 (.st [.int .i64, .int .i64]))), []⟩
def T_laws_toStepS : FSig := ⟨H_laws_toStepS.ps, H_laws_toStepS.cs, H_laws_toStepS.io, H_laws_toStepS.im, H_laws_toStepS.R, H_laws_toStepS.m, laws_toStepS⟩
theorem E_laws_toStepS : fnOf tys [(265, T_laws_toStep)] Tryz.f209 H_laws_toStepS = T_laws_toStepS := by kernel_rfl
theorem K_laws_toStepS : SigOk Tryz.prog 209 T_laws_toStepS := (congrArg (SigOk Tryz.prog 209) E_laws_toStepS).mp (fnOf_ok rfl tysOk ⟨K_laws_toStep, trivial⟩ Tryz.func209 (by decide) rfl (fun _ h => by cases h) (nilEq_of (by kernel_rfl)))
def laws_toResource (x : (D_Resource × Unit)) (c : Unit) : (Option (D_Resource × Unit)) :=
  (Option.bind ((Option.bind (laws_toStepS (x.1.1, ()) ()) fun v0 => (some v0.1)) : (Option (List D_Step))) fun v1 => (Option.bind ((Option.bind (laws_toIntSS (x.1.2.1, ()) ()) fun v2 => (some v2.1)) : (Option (List (List Int)))) fun v3 => (some ((v1, (v3, ())), ()))))
def H_laws_toResource : Hd := ⟨[.st [.sl 247 (.st [.int .i64, .int .i64]), .sl 25 (.sl 3 (.int .i64))]], [], none, .p, .st [.sl 228 (.st [.int .i64, .int .i64]), .sl 25 (.sl 3 (.int .i64))], (Ty.all (.st [.sl 228 (.st [.int .i64, .int .i64]), .sl 25 (.sl 3 (.int .i64))])), []⟩
def T_laws_toResource : FSig := ⟨H_laws_toResource.ps, H_laws_toResource.cs, H_laws_toResource.io, H_laws_toResource.im, H_laws_toResource.R, H_laws_toResource.m, laws_toResource⟩
theorem E_laws_toResource : fnOf tys [(99, T_laws_toIntSS), (209, T_laws_toStepS)] Tryz.f128 H_laws_toResource = T_laws_toResource := by kernel_rfl
theorem K_laws_toResource : SigOk Tryz.prog 128 T_laws_toResource := (congrArg (SigOk Tryz.prog 128) E_laws_toResource).mp (fnOf_ok rfl tysOk ⟨K_laws_toIntSS, K_laws_toStepS, trivial⟩ Tryz.func128 (by decide) rfl (fun _ h => by cases h) (nilEq_of (by kernel_rfl)))
def laws_toResourceS_L0 : (Int × ((List D_Resource) × ((List D_Resource) × Unit))) → Option (Out (Int × ((List D_Resource) × ((List D_Resource) × Unit))) ((Bool × (Int × ((List D_Resource) × ((List D_Resource) × Unit)))) ⊕ Empty) ((List D_Resource) × Unit)) :=
  (fun v1 => (if (ltZ v1.1 (lenI v1.2.1)) = true then (Option.bind (getI v1.2.1 v1.1) fun v2 => (Option.bind ((Option.bind (laws_toResource (v2, ()) ()) fun v3 => (some v3.1)) : (Option D_Resource)) fun v4 => (Option.bind ((Option.bind (getI v1.2.2.1 v1.1) fun v5 => (some ())) : (Option Unit)) fun v6 => (Option.bind ((Option.bind ((Option.bind (getI v1.2.2.1 v1.1) fun v7 => (some v7)) : (Option D_Resource)) fun v8 => (some v4)) : (Option D_Resource)) fun v9 => (some (Out.norm ((addZ .i64 v1.1 1), (v1.2.1, ((setI v1.2.2.1 v1.1 (fun v10 => v9)), ()))))))))) else (some (Out.exit (Sum.inl ((ltZ v1.1 (lenI v1.2.1)), (v1.1, (v1.2.1, (v1.2.2.1, ())))))))))
def laws_toResourceS (x : ((List D_Resource) × Unit)) (c : Unit) : (Option ((List D_Resource) × Unit)) :=
  (Option.bind ((if (eqZ (lenI x.1) (lenI x.1)) = true then (zerosI (lenI x.1) ([], ([], ()))) else none) : (Option (List D_Resource))) fun v0 => (Option.bind (loopN (A := (Int × ((List D_Resource) × ((List D_Resource) × Unit)))) big laws_toResourceS_L0 (0, (x.1, (v0, ())))) fun v11 => (match v11 with | Out.norm v12 => none | Out.exit v13 => (match ((match v13 with | Sum.inl v16 => (Sum.inl (v16.2.2.2.1, ())) | Sum.inr v17 => (Empty.elim v17)) : (((List D_Resource) × Unit) ⊕ Empty)) with | Sum.inl v14 => (some (v14.1, ())) | Sum.inr v15 => none) | Out.ret v18 => (some v18))))
def H_laws_toResourceS : Hd := ⟨[.sl 154 (.st [.sl 247 (.st [.int .i64, .int .i64]), .sl 25 (.sl 3 (.int .i64))])], [], none, .p, .sl 169 (.st [.sl 228 (.st [.int .i64, .int .i64]), .sl 25 (.sl 3 (.int .i64))]), (Ty.all (.sl 169 (.st [.sl 228 (.st [.int .i64, .int .i64]), .sl 25 (.sl 3 (.int .i64))]))), []⟩
def T_laws_toResourceS : FSig := ⟨H_laws_toResourceS.ps, H_laws_toResourceS.cs, H_laws_toResourceS.io, H_laws_toResourceS.im, H_laws_toResourceS.R, H_laws_toResourceS.m, laws_toResourceS⟩
theorem E_laws_toResourceS : fnOf tys [(128, T_laws_toResource)] Tryz.f60 H_laws_toResourceS = T_laws_toResourceS := by kernel_rfl
theorem K_laws_toResourceS : SigOk Tryz.prog 60 T_laws_toResourceS := (congrArg (SigOk Tryz.prog 60) E_laws_toResourceS).mp (fnOf_ok rfl tysOk ⟨K_laws_toResource, trivial⟩ Tryz.func60 (by decide) rfl (fun _ h => by cases h) (nilEq_of (by kernel_rfl)))
def laws_toProject (x : (D_Project × Unit)) (c : Unit) : (Option (D_Project × Unit)) :=
  (Option.bind ((Option.bind (laws_toActivityS (x.1.2.1, ()) ()) fun v0 => (some v0.1)) : (Option (List D_Activity))) fun v1 => (Option.bind ((Option.bind (laws_toLinkS (x.1.2.2.1, ()) ()) fun v2 => (some v2.1)) : (Option (List D_Link))) fun v3 => (Option.bind ((Option.bind (laws_toResourceS (x.1.2.2.2.1, ()) ()) fun v4 => (some v4.1)) : (Option (List D_Resource))) fun v5 => (Option.bind ((Option.bind (laws_toIntS (x.1.2.2.2.2.1, ()) ()) fun v6 => (some v6.1)) : (Option (List Int))) fun v7 => (some ((x.1.1, (v1, (v3, (v5, (v7, ()))))), ()))))))
def H_laws_toProject : Hd := ⟨[.st [.int .i64, .sl 150 (.st [.str, .int .i64, .sl 242 (.st [.int .i64, .sl 3 (.int .i64), .sl 3 (.int .i64)])]), .sl 166 (.st [.int .i64, .int .i64, .bool, .int .i64]), .sl 154 (.st [.sl 247 (.st [.int .i64, .int .i64]), .sl 25 (.sl 3 (.int .i64))]), .sl 3 (.int .i64)]], [], none, .p, .st [.int .i64, .sl 159 (.st [.str, .int .i64, .sl 172 (.st [.int .i64, .sl 3 (.int .i64), .sl 3 (.int .i64)])]), .sl 164 (.st [.int .i64, .int .i64, .bool, .int .i64]), .sl 169 (.st [.sl 228 (.st [.int .i64, .int .i64]), .sl 25 (.sl 3 (.int .i64))]), .sl 3 (.int .i64)], (Ty.all (.st [.int .i64, .sl 159 (.st [.str, .int .i64, .sl 172 (.st [.int .i64, .sl 3 (.int .i64), .sl 3 (.int .i64)])]), .sl 164 (.st [.int .i64, .int .i64, .bool, .int .i64]), .sl 169 (.st [.sl 228 (.st [.int .i64, .int .i64]), .sl 25 (.sl 3 (.int .i64))]), .sl 3 (.int .i64)])), []⟩
def T_laws_toProject : FSig := ⟨H_laws_toProject.ps, H_laws_toProject.cs, H_laws_toProject.io, H_laws_toProject.im, H_laws_toProject.R, H_laws_toProject.m, laws_toProject⟩
theorem E_laws_toProject : fnOf tys [(58, T_laws_toActivityS), (59, T_laws_toLinkS), (60, T_laws_toResourceS), (61, T_laws_toIntS)] Tryz.f13 H_laws_toProject = T_laws_toProject := by kernel_rfl
theorem K_laws_toProject : SigOk Tryz.prog 13 T_laws_toProject := (congrArg (SigOk Tryz.prog 13) E_laws_toProject).mp (fnOf_ok rfl tysOk ⟨K_laws_toActivityS, K_laws_toLinkS, K_laws_toResourceS, K_laws_toIntS, trivial⟩ Tryz.func13 (by decide) rfl (fun _ h => by cases h) (nilEq_of (by kernel_rfl)))
def laws_toSchedule (x : (D_Schedule × Unit)) (c : Unit) : (Option (D_Schedule × Unit)) :=
  (Option.bind ((Option.bind (laws_toIntS (x.1.1, ()) ()) fun v0 => (some v0.1)) : (Option (List Int))) fun v1 => (Option.bind ((Option.bind (laws_toIntS (x.1.2.1, ()) ()) fun v2 => (some v2.1)) : (Option (List Int))) fun v3 => (some ((v1, (v3, ())), ()))))
def H_laws_toSchedule : Hd := ⟨[.st [.sl 3 (.int .i64), .sl 3 (.int .i64)]], [], none, .p, .st [.sl 3 (.int .i64), .sl 3 (.int .i64)], (Ty.all (.st [.sl 3 (.int .i64), .sl 3 (.int .i64)])), []⟩
def T_laws_toSchedule : FSig := ⟨H_laws_toSchedule.ps, H_laws_toSchedule.cs, H_laws_toSchedule.io, H_laws_toSchedule.im, H_laws_toSchedule.R, H_laws_toSchedule.m, laws_toSchedule⟩
theorem E_laws_toSchedule : fnOf tys [(61, T_laws_toIntS)] Tryz.f31 H_laws_toSchedule = T_laws_toSchedule := by kernel_rfl
theorem K_laws_toSchedule : SigOk Tryz.prog 31 T_laws_toSchedule := (congrArg (SigOk Tryz.prog 31) E_laws_toSchedule).mp (fnOf_ok rfl tysOk ⟨K_laws_toIntS, trivial⟩ Tryz.func31 (by decide) rfl (fun _ h => by cases h) (nilEq_of (by kernel_rfl)))
def slices_Clone_int_int (x : ((List Int) × Unit)) (c : Unit) : (Option ((List Int) × Unit)) :=
  (Option.bind (addI [] x.1) fun v0 => (some (v0, ())))
def H_slices_Clone_int_int : Hd := ⟨[.sl 3 (.int .i64)], [], none, .p, .sl 3 (.int .i64), (Ty.all (.sl 3 (.int .i64))), []⟩
def T_slices_Clone_int_int : FSig := ⟨H_slices_Clone_int_int.ps, H_slices_Clone_int_int.cs, H_slices_Clone_int_int.io, H_slices_Clone_int_int.im, H_slices_Clone_int_int.R, H_slices_Clone_int_int.m, slices_Clone_int_int⟩
theorem E_slices_Clone_int_int : fnOf tys [] Tryz.f167 H_slices_Clone_int_int = T_slices_Clone_int_int := by kernel_rfl
theorem K_slices_Clone_int_int : SigOk Tryz.prog 167 T_slices_Clone_int_int := (congrArg (SigOk Tryz.prog 167) E_slices_Clone_int_int).mp (fnOf_ok rfl tysOk trivial Tryz.func167 (by decide) rfl (fun _ h => by cases h) (nilEq_of (by kernel_rfl)))
def cmp_isNaN_int (x : (Int × Unit)) (c : Unit) : (Option (Bool × Unit)) :=
  (some ((notB (eqZ x.1 x.1)), ()))
def H_cmp_isNaN_int : Hd := ⟨[.int .i64], [], none, .p, .bool, .p, []⟩
def T_cmp_isNaN_int : FSig := ⟨H_cmp_isNaN_int.ps, H_cmp_isNaN_int.cs, H_cmp_isNaN_int.io, H_cmp_isNaN_int.im, H_cmp_isNaN_int.R, H_cmp_isNaN_int.m, cmp_isNaN_int⟩
theorem E_cmp_isNaN_int : fnOf tys [] Tryz.f246 H_cmp_isNaN_int = T_cmp_isNaN_int := by kernel_rfl
theorem K_cmp_isNaN_int : SigOk Tryz.prog 246 T_cmp_isNaN_int := (congrArg (SigOk Tryz.prog 246) E_cmp_isNaN_int).mp (fnOf_ok rfl tysOk trivial Tryz.func246 (by decide) rfl (fun _ h => by cases h) (nilEq_of (by kernel_rfl)))
def impl_within (x : (Int × D_Step)) (c : Unit) : (Option (Bool × Unit)) :=
  (Option.bind ((if (leZ x.2.1 x.1) = true then (some ((leZ x.1 x.2.2.1), ())) else (some (false, ()))) : (Option (Bool × Unit))) fun v0 => (some (v0.1, ())))
def H_impl_within : Hd := ⟨[.int .i64, .int .i64, .int .i64], [], none, .p, .bool, .p, []⟩
def T_impl_within : FSig := ⟨H_impl_within.ps, H_impl_within.cs, H_impl_within.io, H_impl_within.im, H_impl_within.R, H_impl_within.m, impl_within⟩
theorem E_impl_within : fnOf tys [] Tryz.f131 H_impl_within = T_impl_within := by kernel_rfl
theorem K_impl_within : SigOk Tryz.prog 131 T_impl_within := (congrArg (SigOk Tryz.prog 131) E_impl_within).mp (fnOf_ok rfl tysOk trivial Tryz.func131 (by decide) rfl (fun _ h => by cases h) (nilEq_of (by kernel_rfl)))
def impl_Project_hasActivity (x : (D_Project × (Int × Unit))) (c : Unit) : (Option (Bool × Unit)) :=
  (Option.bind ((Option.bind (impl_within (x.2.1, (0, ((subZ .i64 (lenI x.1.2.1) 1), ()))) ()) fun v0 => (some v0.1)) : (Option Bool)) fun v1 => (some (v1, ())))
def H_impl_Project_hasActivity : Hd := ⟨[.st [.int .i64, .sl 159 (.st [.str, .int .i64, .sl 172 (.st [.int .i64, .sl 3 (.int .i64), .sl 3 (.int .i64)])]), .sl 164 (.st [.int .i64, .int .i64, .bool, .int .i64]), .sl 169 (.st [.sl 228 (.st [.int .i64, .int .i64]), .sl 25 (.sl 3 (.int .i64))]), .sl 3 (.int .i64)], .int .i64], [], none, .p, .bool, .p, []⟩
def T_impl_Project_hasActivity : FSig := ⟨H_impl_Project_hasActivity.ps, H_impl_Project_hasActivity.cs, H_impl_Project_hasActivity.io, H_impl_Project_hasActivity.im, H_impl_Project_hasActivity.R, H_impl_Project_hasActivity.m, impl_Project_hasActivity⟩
theorem E_impl_Project_hasActivity : fnOf tys [(131, T_impl_within)] Tryz.f114 H_impl_Project_hasActivity = T_impl_Project_hasActivity := by kernel_rfl
theorem K_impl_Project_hasActivity : SigOk Tryz.prog 114 T_impl_Project_hasActivity := (congrArg (SigOk Tryz.prog 114) E_impl_Project_hasActivity).mp (fnOf_ok rfl tysOk ⟨K_impl_within, trivial⟩ Tryz.func114 (by decide) rfl (fun _ h => by cases h) (nilEq_of (by kernel_rfl)))
def impl_isTime (x : (Int × Unit)) (c : Unit) : (Option (Bool × Unit)) :=
  (Option.bind ((Option.bind (impl_within (x.1, (0, (60, ()))) ()) fun v0 => (some v0.1)) : (Option Bool)) fun v1 => (some (v1, ())))
def H_impl_isTime : Hd := ⟨[.int .i64], [], none, .p, .bool, .p, []⟩
def T_impl_isTime : FSig := ⟨H_impl_isTime.ps, H_impl_isTime.cs, H_impl_isTime.io, H_impl_isTime.im, H_impl_isTime.R, H_impl_isTime.m, impl_isTime⟩
theorem E_impl_isTime : fnOf tys [(131, T_impl_within)] Tryz.f115 H_impl_isTime = T_impl_isTime := by kernel_rfl
theorem K_impl_isTime : SigOk Tryz.prog 115 T_impl_isTime := (congrArg (SigOk Tryz.prog 115) E_impl_isTime).mp (fnOf_ok rfl tysOk ⟨K_impl_within, trivial⟩ Tryz.func115 (by decide) rfl (fun _ h => by cases h) (nilEq_of (by kernel_rfl)))
def impl_isAmount (x : (Int × Unit)) (c : Unit) : (Option (Bool × Unit)) :=
  (Option.bind ((Option.bind (impl_within (x.1, (0, (20, ()))) ()) fun v0 => (some v0.1)) : (Option Bool)) fun v1 => (some (v1, ())))
def H_impl_isAmount : Hd := ⟨[.int .i64], [], none, .p, .bool, .p, []⟩
def T_impl_isAmount : FSig := ⟨H_impl_isAmount.ps, H_impl_isAmount.cs, H_impl_isAmount.io, H_impl_isAmount.im, H_impl_isAmount.R, H_impl_isAmount.m, impl_isAmount⟩
theorem E_impl_isAmount : fnOf tys [(131, T_impl_within)] Tryz.f302 H_impl_isAmount = T_impl_isAmount := by kernel_rfl
theorem K_impl_isAmount : SigOk Tryz.prog 302 T_impl_isAmount := (congrArg (SigOk Tryz.prog 302) E_impl_isAmount).mp (fnOf_ok rfl tysOk ⟨K_impl_within, trivial⟩ Tryz.func302 (by decide) rfl (fun _ h => by cases h) (nilEq_of (by kernel_rfl)))
def impl_areAmounts_L0 : (Int × (Int × ((List Int) × ((List Int) × (Int × Unit))))) → Option (Out (Int × (Int × ((List Int) × ((List Int) × (Int × Unit))))) ((Bool × (Int × (Int × ((List Int) × ((List Int) × (Int × Unit)))))) ⊕ Empty) (Bool × Unit)) :=
  (fun v0 => (if (ltZ v0.1 v0.2.1) = true then (Option.bind (getI v0.2.2.1 v0.1) fun v1 => (Option.bind ((Option.bind (impl_isAmount (v1, ()) ()) fun v2 => (some v2.1)) : (Option Bool)) fun v3 => (if (notB v3) = true then (some (Out.ret (false, ()))) else (some (Out.norm ((addZ .i64 v0.1 1), (v0.2.1, (v0.2.2.1, (v0.2.2.2.1, (v0.2.2.2.2.1, ())))))))))) else (some (Out.exit (Sum.inl ((ltZ v0.1 v0.2.1), (v0.1, (v0.2.1, (v0.2.2.1, (v0.2.2.2.1, (v0.2.2.2.2.1, ())))))))))))
def impl_areAmounts (x : ((List Int) × (Int × Unit))) (c : Unit) : (Option (Bool × Unit)) :=
  (Option.bind (loopN (A := (Int × (Int × ((List Int) × ((List Int) × (Int × Unit)))))) big impl_areAmounts_L0 (0, ((lenI x.1), (x.1, (x.1, (x.2.1, ())))))) fun v4 => (match v4 with | Out.norm v5 => none | Out.exit v6 => (match ((match v6 with | Sum.inl v9 => (Sum.inl (v9.2.2.2.2.1, (v9.2.2.2.2.2.1, ()))) | Sum.inr v10 => (Empty.elim v10)) : (((List Int) × (Int × Unit)) ⊕ Empty)) with | Sum.inl v7 => (some ((eqZ (lenI v7.1) v7.2.1), ())) | Sum.inr v8 => none) | Out.ret v11 => (some v11)))
def H_impl_areAmounts : Hd := ⟨[.sl 3 (.int .i64), .int .i64], [], none, .p, .bool, .p, []⟩
def T_impl_areAmounts : FSig := ⟨H_impl_areAmounts.ps, H_impl_areAmounts.cs, H_impl_areAmounts.io, H_impl_areAmounts.im, H_impl_areAmounts.R, H_impl_areAmounts.m, impl_areAmounts⟩
theorem E_impl_areAmounts : fnOf tys [(302, T_impl_isAmount)] Tryz.f313 H_impl_areAmounts = T_impl_areAmounts := by kernel_rfl
theorem K_impl_areAmounts : SigOk Tryz.prog 313 T_impl_areAmounts := (congrArg (SigOk Tryz.prog 313) E_impl_areAmounts).mp (fnOf_ok rfl tysOk ⟨K_impl_isAmount, trivial⟩ Tryz.func313 (by decide) rfl (fun _ h => by cases h) (nilEq_of (by kernel_rfl)))
def impl_ModeOk (x : (D_Mode × D_Step)) (c : Unit) : (Option (Bool × Unit)) :=
  (Option.bind ((Option.bind (impl_within (x.1.1, (1, (12, ()))) ()) fun v0 => (some v0.1)) : (Option Bool)) fun v1 => (Option.bind ((if v1 = true then (Option.bind ((Option.bind (impl_areAmounts (x.1.2.1, (x.2.1, ())) ()) fun v2 => (some v2.1)) : (Option Bool)) fun v3 => (Option.bind ((if v3 = true then (Option.bind ((Option.bind (impl_areAmounts (x.1.2.2.1, (x.2.2.1, ())) ()) fun v4 => (some v4.1)) : (Option Bool)) fun v5 => (some (v5, ()))) else (some (false, ()))) : (Option (Bool × Unit))) fun v6 => (some (v6.1, ())))) else (some (false, ()))) : (Option (Bool × Unit))) fun v7 => (some (v7.1, ()))))
def H_impl_ModeOk : Hd := ⟨[.st [.int .i64, .sl 3 (.int .i64), .sl 3 (.int .i64)], .int .i64, .int .i64], [], none, .p, .bool, .p, []⟩
def T_impl_ModeOk : FSig := ⟨H_impl_ModeOk.ps, H_impl_ModeOk.cs, H_impl_ModeOk.io, H_impl_ModeOk.im, H_impl_ModeOk.R, H_impl_ModeOk.m, impl_ModeOk⟩
theorem E_impl_ModeOk : fnOf tys [(131, T_impl_within), (313, T_impl_areAmounts)] Tryz.f294 H_impl_ModeOk = T_impl_ModeOk := by kernel_rfl
theorem K_impl_ModeOk : SigOk Tryz.prog 294 T_impl_ModeOk := (congrArg (SigOk Tryz.prog 294) E_impl_ModeOk).mp (fnOf_ok rfl tysOk ⟨K_impl_within, K_impl_areAmounts, trivial⟩ Tryz.func294 (by decide) rfl (fun _ h => by cases h) (nilEq_of (by kernel_rfl)))
def impl_IsName_L0 : (Int × (Int × ((List UInt8) × Unit))) → Option (Out (Int × (Int × ((List UInt8) × Unit))) ((Bool × (Int × (Int × ((List UInt8) × Unit)))) ⊕ Empty) (Bool × Unit)) :=
  (fun v0 => (if (ltZ v0.1 v0.2.1) = true then (Option.bind (byteAt v0.2.2.1 v0.1) fun v1 => (Option.bind ((if (leZ 97 v1) = true then (Option.bind (byteAt v0.2.2.1 v0.1) fun v2 => (some ((leZ v2 122), (v0.1, (v0.1, (v0.2.1, (v0.2.2.1, ()))))))) else (some (false, (v0.1, (v0.1, (v0.2.1, (v0.2.2.1, ()))))))) : (Option (Bool × (Int × (Int × (Int × ((List UInt8) × Unit))))))) fun v3 => (Option.bind ((if (notB v3.1) = true then (Option.bind ((if (eqZ v3.2.1 0) = true then (some (true, (v3.2.2.1, (v3.2.2.2.1, (v3.2.2.2.2.1, ()))))) else (Option.bind (byteAt v3.2.2.2.2.1 v3.2.1) fun v4 => (Option.bind ((if (ltZ v4 48) = true then (some (true, (v3.2.2.1, (v3.2.2.2.1, (v3.2.2.2.2.1, ()))))) else (Option.bind (byteAt v3.2.2.2.2.1 v3.2.1) fun v5 => (some ((ltZ 57 v5), (v3.2.2.1, (v3.2.2.2.1, (v3.2.2.2.2.1, ()))))))) : (Option (Bool × (Int × (Int × ((List UInt8) × Unit)))))) fun v6 => (some (v6.1, (v6.2.1, (v6.2.2.1, (v6.2.2.2.1, ())))))))) : (Option (Bool × (Int × (Int × ((List UInt8) × Unit)))))) fun v7 => (some (v7.1, (v7.2.1, (v7.2.2.1, (v7.2.2.2.1, ())))))) else (some (false, (v3.2.2.1, (v3.2.2.2.1, (v3.2.2.2.2.1, ())))))) : (Option (Bool × (Int × (Int × ((List UInt8) × Unit)))))) fun v8 => (if v8.1 = true then (some (Out.ret (false, ()))) else (some (Out.norm ((addZ .i64 v8.2.1 1), (v8.2.2.1, (v8.2.2.2.1, ()))))))))) else (some (Out.exit (Sum.inl ((ltZ v0.1 v0.2.1), (v0.1, (v0.2.1, (v0.2.2.1, ())))))))))
def impl_IsName (x : ((List UInt8) × Unit)) (c : Unit) : (Option (Bool × Unit)) :=
  (Option.bind (loopN (A := (Int × (Int × ((List UInt8) × Unit)))) big impl_IsName_L0 (0, ((lenI x.1), (x.1, ())))) fun v9 => (match v9 with | Out.norm v10 => none | Out.exit v11 => (match ((match v11 with | Sum.inl v16 => (Sum.inl (v16.2.2.2.1, ())) | Sum.inr v17 => (Empty.elim v17)) : (((List UInt8) × Unit) ⊕ Empty)) with | Sum.inl v12 => (Option.bind ((Option.bind (impl_within ((lenI v12.1), (1, (8, ()))) ()) fun v13 => (some v13.1)) : (Option Bool)) fun v14 => (some (v14, ()))) | Sum.inr v15 => none) | Out.ret v18 => (some v18)))
def H_impl_IsName : Hd := ⟨[.str], [], none, .p, .bool, .p, []⟩
def T_impl_IsName : FSig := ⟨H_impl_IsName.ps, H_impl_IsName.cs, H_impl_IsName.io, H_impl_IsName.im, H_impl_IsName.R, H_impl_IsName.m, impl_IsName⟩
theorem E_impl_IsName : fnOf tys [(131, T_impl_within)] Tryz.f295 H_impl_IsName = T_impl_IsName := by kernel_rfl
theorem K_impl_IsName : SigOk Tryz.prog 295 T_impl_IsName := (congrArg (SigOk Tryz.prog 295) E_impl_IsName).mp (fnOf_ok rfl tysOk ⟨K_impl_within, trivial⟩ Tryz.func295 (by decide) rfl (fun _ h => by cases h) (nilEq_of (by kernel_rfl)))
def impl_ActivityOk_L0 : (Int × (Int × ((List D_Mode) × (Int × (Int × (D_Activity × Unit)))))) → Option (Out (Int × (Int × ((List D_Mode) × (Int × (Int × (D_Activity × Unit)))))) ((Bool × (Int × (Int × ((List D_Mode) × (Int × (Int × (D_Activity × Unit))))))) ⊕ Empty) (Bool × Unit)) :=
  (fun v0 => (if (ltZ v0.1 v0.2.1) = true then (Option.bind (getI v0.2.2.1 v0.1) fun v1 => (Option.bind ((Option.bind (impl_ModeOk (v1, (v0.2.2.2.1, (v0.2.2.2.2.1, ()))) ()) fun v2 => (some v2.1)) : (Option Bool)) fun v3 => (if (notB v3) = true then (some (Out.ret (false, ()))) else (some (Out.norm ((addZ .i64 v0.1 1), (v0.2.1, (v0.2.2.1, (v0.2.2.2.1, (v0.2.2.2.2.1, (v0.2.2.2.2.2.1, ()))))))))))) else (some (Out.exit (Sum.inl ((ltZ v0.1 v0.2.1), (v0.1, (v0.2.1, (v0.2.2.1, (v0.2.2.2.1, (v0.2.2.2.2.1, (v0.2.2.2.2.2.1, ()))))))))))))
def impl_ActivityOk (x : (D_Activity × D_Step)) (c : Unit) : (Option (Bool × Unit)) :=
  (Option.bind (loopN (A := (Int × (Int × ((List D_Mode) × (Int × (Int × (D_Activity × Unit))))))) big impl_ActivityOk_L0 (0, ((lenI x.1.2.2.1), (x.1.2.2.1, (x.2.1, (x.2.2.1, (x.1, ()))))))) fun v4 => (match v4 with | Out.norm v5 => none | Out.exit v6 => (match ((match v6 with | Sum.inl v17 => (Sum.inl (v17.2.2.2.2.2.2.1, ())) | Sum.inr v18 => (Empty.elim v18)) : ((D_Activity × Unit) ⊕ Empty)) with | Sum.inl v7 => (Option.bind ((Option.bind (impl_IsName (v7.1.1, ()) ()) fun v8 => (some v8.1)) : (Option Bool)) fun v9 => (Option.bind ((if v9 = true then (Option.bind ((Option.bind (impl_within (v7.1.2.1, (0, (3, ()))) ()) fun v10 => (some v10.1)) : (Option Bool)) fun v11 => (Option.bind ((if v11 = true then (Option.bind ((Option.bind (impl_within ((lenI v7.1.2.2.1), (1, (3, ()))) ()) fun v12 => (some v12.1)) : (Option Bool)) fun v13 => (some (v13, ()))) else (some (false, ()))) : (Option (Bool × Unit))) fun v14 => (some (v14.1, ())))) else (some (false, ()))) : (Option (Bool × Unit))) fun v15 => (some (v15.1, ())))) | Sum.inr v16 => none) | Out.ret v19 => (some v19)))
def H_impl_ActivityOk : Hd := ⟨[.st [.str, .int .i64, .sl 172 (.st [.int .i64, .sl 3 (.int .i64), .sl 3 (.int .i64)])], .int .i64, .int .i64], [], none, .p, .bool, .p, []⟩
def T_impl_ActivityOk : FSig := ⟨H_impl_ActivityOk.ps, H_impl_ActivityOk.cs, H_impl_ActivityOk.io, H_impl_ActivityOk.im, H_impl_ActivityOk.R, H_impl_ActivityOk.m, impl_ActivityOk⟩
theorem E_impl_ActivityOk : fnOf tys [(131, T_impl_within), (294, T_impl_ModeOk), (295, T_impl_IsName)] Tryz.f247 H_impl_ActivityOk = T_impl_ActivityOk := by kernel_rfl
theorem K_impl_ActivityOk : SigOk Tryz.prog 247 T_impl_ActivityOk := (congrArg (SigOk Tryz.prog 247) E_impl_ActivityOk).mp (fnOf_ok rfl tysOk ⟨K_impl_within, K_impl_ModeOk, K_impl_IsName, trivial⟩ Tryz.func247 (by decide) rfl (fun _ h => by cases h) (nilEq_of (by kernel_rfl)))
end Go.Proofs.YtafnhdfjcocpgaaGreat