/-
  The functions of this seat as plain Lean functions, and that the program computes them. No condition.
-/
import Derived.Test.YtafnhdfjcocpgaaGreatN36
import Derived.Test.YtafnhdfjcocpgaaGreatProg
import Derived.KernelRfl
namespace Go.Proofs.YtafnhdfjcocpgaaGreat
open Go.Abs
set_option linter.unusedVariables false
set_option maxRecDepth 100000
abbrev D_Mode : Type := (Int × ((List Int) × ((List Int) × Unit)))
abbrev D_Activity : Type := ((List UInt8) × (Int × ((List D_Mode) × Unit)))
abbrev D_Link : Type := (Int × (Int × (Bool × (Int × Unit))))
abbrev D_Step : Type := (Int × (Int × Unit))
abbrev D_Resource : Type := ((List D_Step) × ((List (List Int)) × Unit))
abbrev D_Project : Type := (Int × ((List D_Activity) × ((List D_Link) × ((List D_Resource) × ((List Int) × Unit)))))
abbrev D_Rule : Type := (Int × (Int × D_Step))
abbrev D_Literal : Type := (Int × D_Step)
abbrev D_Domain : Type := ((List Int) × ((List Int) × ((List (List Int)) × Unit)))
theorem tn3 : TnOk Tryz.prog 3 (.int .i64) := ⟨Tryz.underlying3, fun _ h => (by cases h), Tryz.t3, rfl, rfl, fun _ _ => rfl⟩
theorem tn4 : TnOk Tryz.prog 4 (.bool) := ⟨Tryz.underlying4, fun _ h => (by cases h), Tryz.t4, rfl, rfl, fun _ _ => rfl⟩
theorem tn5 : TnOk Tryz.prog 5 (.int .u8) := ⟨Tryz.underlying5, fun _ h => (by cases h), Tryz.t5, rfl, rfl, fun _ _ => rfl⟩
theorem tn9 : TnOk Tryz.prog 9 (.str) := ⟨Tryz.underlying9, fun _ h => (by cases h), Tryz.t9, rfl, rfl, fun _ _ => rfl⟩
theorem tn22 : TnOk Tryz.prog 22 (.sl 150 (.st [.str, .int .i64, .sl 242 (.st [.int .i64, .sl 3 (.int .i64), .sl 3 (.int .i64)])])) := ⟨⟨Tryz.underlying22, Tryz.t150, _, rfl, rfl, rfl, rfl, by decide, by decide, fun _ _ => rfl, fun k h => by cases h⟩, fun _ h => (by cases h), Tryz.t22, rfl, rfl, fun _ _ => rfl⟩
theorem tn23 : TnOk Tryz.prog 23 (.sl 166 (.st [.int .i64, .int .i64, .bool, .int .i64])) := ⟨⟨Tryz.underlying23, Tryz.t166, _, rfl, rfl, rfl, rfl, by decide, by decide, fun _ _ => rfl, fun k h => by cases h⟩, fun _ h => (by cases h), Tryz.t23, rfl, rfl, fun _ _ => rfl⟩
theorem tn24 : TnOk Tryz.prog 24 (.sl 154 (.st [.sl 247 (.st [.int .i64, .int .i64]), .sl 25 (.sl 3 (.int .i64))])) := ⟨⟨Tryz.underlying24, Tryz.t154, _, rfl, rfl, rfl, rfl, by decide, by decide, fun _ _ => rfl, fun k h => by cases h⟩, fun _ h => (by cases h), Tryz.t24, rfl, rfl, fun _ _ => rfl⟩
theorem tn25 : TnOk Tryz.prog 25 (.sl 3 (.int .i64)) := ⟨⟨Tryz.underlying25, Tryz.t3, _, rfl, rfl, rfl, rfl, by decide, by decide, fun _ _ => rfl, fun k h => by cases h; exact Tryz.underlying3⟩, fun _ h => (by cases h), Tryz.t25, rfl, rfl, fun _ _ => rfl⟩
theorem tn26 : TnOk Tryz.prog 26 (.st [.int .i64, .sl 150 (.st [.str, .int .i64, .sl 242 (.st [.int .i64, .sl 3 (.int .i64), .sl 3 (.int .i64)])]), .sl 166 (.st [.int .i64, .int .i64, .bool, .int .i64]), .sl 154 (.st [.sl 247 (.st [.int .i64, .int .i64]), .sl 25 (.sl 3 (.int .i64))]), .sl 3 (.int .i64)]) := ⟨⟨_, Tryz.underlying26, Tryz.eqGuardType26, Tryz.stoodInHeld26, rfl, fun j τ h => by
    cases j with
    | zero => cases h; exact ⟨_, _, rfl, rfl, by decide, by decide, Tryz.underlying3, rfl, fun us h => by cases h⟩
    | succ j =>
     cases j with
     | zero => cases h; exact ⟨_, _, rfl, rfl, by decide, by decide, Tryz.underlying22, rfl, fun us h => by cases h⟩
     | succ j =>
      cases j with
      | zero => cases h; exact ⟨_, _, rfl, rfl, by decide, by decide, Tryz.underlying23, rfl, fun us h => by cases h⟩
      | succ j =>
       cases j with
       | zero => cases h; exact ⟨_, _, rfl, rfl, by decide, by decide, Tryz.underlying24, rfl, fun us h => by cases h⟩
       | succ j =>
        cases j with
        | zero => cases h; exact ⟨_, _, rfl, rfl, by decide, by decide, Tryz.underlying25, rfl, fun us h => by cases h⟩
        | succ j =>
         cases h⟩, (fun us hus fs hfs j τ h f hf => by
    cases hus
    rw [Tryz.underlying26] at hfs
    cases hfs
    cases j with
    | zero => cases h; cases hf; exact ⟨fun k e => by cases e; exact Tryz.underlying3, fun e => (by cases e), fun e => (by cases e)⟩
    | succ j =>
     cases j with
     | zero => cases h; cases hf; exact ⟨fun k e => (by cases e), fun e => (by cases e), fun e => (by cases e)⟩
     | succ j =>
      cases j with
      | zero => cases h; cases hf; exact ⟨fun k e => (by cases e), fun e => (by cases e), fun e => (by cases e)⟩
      | succ j =>
       cases j with
       | zero => cases h; cases hf; exact ⟨fun k e => (by cases e), fun e => (by cases e), fun e => (by cases e)⟩
       | succ j =>
        cases j with
        | zero => cases h; cases hf; exact ⟨fun k e => (by cases e), fun e => (by cases e), fun e => (by cases e)⟩
        | succ j =>
         cases h), Tryz.t26, rfl, rfl, fun _ _ => rfl⟩
theorem tn27 : TnOk Tryz.prog 27 (.st [.int .i64, .sl 150 (.st [.str, .int .i64, .sl 242 (.st [.int .i64, .sl 3 (.int .i64), .sl 3 (.int .i64)])]), .sl 166 (.st [.int .i64, .int .i64, .bool, .int .i64]), .sl 154 (.st [.sl 247 (.st [.int .i64, .int .i64]), .sl 25 (.sl 3 (.int .i64))]), .sl 3 (.int .i64)]) := ⟨⟨_, Tryz.underlying27, Tryz.eqGuardType27, Tryz.stoodInHeld27, rfl, fun j τ h => by
    cases j with
    | zero => cases h; exact ⟨_, _, rfl, rfl, by decide, by decide, Tryz.underlying3, rfl, fun us h => by cases h⟩
    | succ j =>
     cases j with
     | zero => cases h; exact ⟨_, _, rfl, rfl, by decide, by decide, Tryz.underlying22, rfl, fun us h => by cases h⟩
     | succ j =>
      cases j with
      | zero => cases h; exact ⟨_, _, rfl, rfl, by decide, by decide, Tryz.underlying23, rfl, fun us h => by cases h⟩
      | succ j =>
       cases j with
       | zero => cases h; exact ⟨_, _, rfl, rfl, by decide, by decide, Tryz.underlying24, rfl, fun us h => by cases h⟩
       | succ j =>
        cases j with
        | zero => cases h; exact ⟨_, _, rfl, rfl, by decide, by decide, Tryz.underlying25, rfl, fun us h => by cases h⟩
        | succ j =>
         cases h⟩, (fun us hus fs hfs j τ h f hf => by
    cases hus
    rw [Tryz.underlying27] at hfs
    cases hfs
    cases j with
    | zero => cases h; cases hf; exact ⟨fun k e => by cases e; exact Tryz.underlying3, fun e => (by cases e), fun e => (by cases e)⟩
    | succ j =>
     cases j with
     | zero => cases h; cases hf; exact ⟨fun k e => (by cases e), fun e => (by cases e), fun e => (by cases e)⟩
     | succ j =>
      cases j with
      | zero => cases h; cases hf; exact ⟨fun k e => (by cases e), fun e => (by cases e), fun e => (by cases e)⟩
      | succ j =>
       cases j with
       | zero => cases h; cases hf; exact ⟨fun k e => (by cases e), fun e => (by cases e), fun e => (by cases e)⟩
       | succ j =>
        cases j with
        | zero => cases h; cases hf; exact ⟨fun k e => (by cases e), fun e => (by cases e), fun e => (by cases e)⟩
        | succ j =>
         cases h), Tryz.t27, rfl, rfl, fun _ _ => rfl⟩
theorem tn32 : TnOk Tryz.prog 32 (.fn [.st [.int .i64, .sl 150 (.st [.str, .int .i64, .sl 242 (.st [.int .i64, .sl 3 (.int .i64), .sl 3 (.int .i64)])]), .sl 166 (.st [.int .i64, .int .i64, .bool, .int .i64]), .sl 154 (.st [.sl 247 (.st [.int .i64, .int .i64]), .sl 25 (.sl 3 (.int .i64))]), .sl 3 (.int .i64)], .int .i64] (.int .i64)) := ⟨⟨_, _, _, Tryz.underlying32⟩, fun _ h => (by cases h), Tryz.t32, rfl, rfl, fun _ h => by cases h⟩
theorem tn36 : TnOk Tryz.prog 36 (.sl 159 (.st [.str, .int .i64, .sl 172 (.st [.int .i64, .sl 3 (.int .i64), .sl 3 (.int .i64)])])) := ⟨⟨Tryz.underlying36, Tryz.t159, _, rfl, rfl, rfl, rfl, by decide, by decide, fun _ _ => rfl, fun k h => by cases h⟩, fun _ h => (by cases h), Tryz.t36, rfl, rfl, fun _ _ => rfl⟩
theorem tn37 : TnOk Tryz.prog 37 (.sl 164 (.st [.int .i64, .int .i64, .bool, .int .i64])) := ⟨⟨Tryz.underlying37, Tryz.t164, _, rfl, rfl, rfl, rfl, by decide, by decide, fun _ _ => rfl, fun k h => by cases h⟩, fun _ h => (by cases h), Tryz.t37, rfl, rfl, fun _ _ => rfl⟩
theorem tn38 : TnOk Tryz.prog 38 (.sl 169 (.st [.sl 228 (.st [.int .i64, .int .i64]), .sl 25 (.sl 3 (.int .i64))])) := ⟨⟨Tryz.underlying38, Tryz.t169, _, rfl, rfl, rfl, rfl, by decide, by decide, fun _ _ => rfl, fun k h => by cases h⟩, fun _ h => (by cases h), Tryz.t38, rfl, rfl, fun _ _ => rfl⟩
theorem tn39 : TnOk Tryz.prog 39 (.st [.int .i64, .sl 159 (.st [.str, .int .i64, .sl 172 (.st [.int .i64, .sl 3 (.int .i64), .sl 3 (.int .i64)])]), .sl 164 (.st [.int .i64, .int .i64, .bool, .int .i64]), .sl 169 (.st [.sl 228 (.st [.int .i64, .int .i64]), .sl 25 (.sl 3 (.int .i64))]), .sl 3 (.int .i64)]) := ⟨⟨_, Tryz.underlying39, Tryz.eqGuardType39, Tryz.stoodInHeld39, rfl, fun j τ h => by
    cases j with
    | zero => cases h; exact ⟨_, _, rfl, rfl, by decide, by decide, Tryz.underlying3, rfl, fun us h => by cases h⟩
    | succ j =>
     cases j with
     | zero => cases h; exact ⟨_, _, rfl, rfl, by decide, by decide, Tryz.underlying36, rfl, fun us h => by cases h⟩
     | succ j =>
      cases j with
      | zero => cases h; exact ⟨_, _, rfl, rfl, by decide, by decide, Tryz.underlying37, rfl, fun us h => by cases h⟩
      | succ j =>
       cases j with
       | zero => cases h; exact ⟨_, _, rfl, rfl, by decide, by decide, Tryz.underlying38, rfl, fun us h => by cases h⟩
       | succ j =>
        cases j with
        | zero => cases h; exact ⟨_, _, rfl, rfl, by decide, by decide, Tryz.underlying25, rfl, fun us h => by cases h⟩
        | succ j =>
         cases h⟩, (fun us hus fs hfs j τ h f hf => by
    cases hus
    rw [Tryz.underlying39] at hfs
    cases hfs
    cases j with
    | zero => cases h; cases hf; exact ⟨fun k e => by cases e; exact Tryz.underlying3, fun e => (by cases e), fun e => (by cases e)⟩
    | succ j =>
     cases j with
     | zero => cases h; cases hf; exact ⟨fun k e => (by cases e), fun e => (by cases e), fun e => (by cases e)⟩
     | succ j =>
      cases j with
      | zero => cases h; cases hf; exact ⟨fun k e => (by cases e), fun e => (by cases e), fun e => (by cases e)⟩
      | succ j =>
       cases j with
       | zero => cases h; cases hf; exact ⟨fun k e => (by cases e), fun e => (by cases e), fun e => (by cases e)⟩
       | succ j =>
        cases j with
        | zero => cases h; cases hf; exact ⟨fun k e => (by cases e), fun e => (by cases e), fun e => (by cases e)⟩
        | succ j =>
         cases h), Tryz.t39, rfl, rfl, fun _ _ => rfl⟩
theorem tn40 : TnOk Tryz.prog 40 (.st [.int .i64, .sl 159 (.st [.str, .int .i64, .sl 172 (.st [.int .i64, .sl 3 (.int .i64), .sl 3 (.int .i64)])]), .sl 164 (.st [.int .i64, .int .i64, .bool, .int .i64]), .sl 169 (.st [.sl 228 (.st [.int .i64, .int .i64]), .sl 25 (.sl 3 (.int .i64))]), .sl 3 (.int .i64)]) := ⟨⟨_, Tryz.underlying40, Tryz.eqGuardType40, Tryz.stoodInHeld40, rfl, fun j τ h => by
    cases j with
    | zero => cases h; exact ⟨_, _, rfl, rfl, by decide, by decide, Tryz.underlying3, rfl, fun us h => by cases h⟩
    | succ j =>
     cases j with
     | zero => cases h; exact ⟨_, _, rfl, rfl, by decide, by decide, Tryz.underlying36, rfl, fun us h => by cases h⟩
     | succ j =>
      cases j with
      | zero => cases h; exact ⟨_, _, rfl, rfl, by decide, by decide, Tryz.underlying37, rfl, fun us h => by cases h⟩
      | succ j =>
       cases j with
       | zero => cases h; exact ⟨_, _, rfl, rfl, by decide, by decide, Tryz.underlying38, rfl, fun us h => by cases h⟩
       | succ j =>
        cases j with
        | zero => cases h; exact ⟨_, _, rfl, rfl, by decide, by decide, Tryz.underlying25, rfl, fun us h => by cases h⟩
        | succ j =>
         cases h⟩, (fun us hus fs hfs j τ h f hf => by
    cases hus
    rw [Tryz.underlying40] at hfs
    cases hfs
    cases j with
    | zero => cases h; cases hf; exact ⟨fun k e => by cases e; exact Tryz.underlying3, fun e => (by cases e), fun e => (by cases e)⟩
    | succ j =>
     cases j with
     | zero => cases h; cases hf; exact ⟨fun k e => (by cases e), fun e => (by cases e), fun e => (by cases e)⟩
     | succ j =>
      cases j with
      | zero => cases h; cases hf; exact ⟨fun k e => (by cases e), fun e => (by cases e), fun e => (by cases e)⟩
      | succ j =>
       cases j with
       | zero => cases h; cases hf; exact ⟨fun k e => (by cases e), fun e => (by cases e), fun e => (by cases e)⟩
       | succ j =>
        cases j with
        | zero => cases h; cases hf; exact ⟨fun k e => (by cases e), fun e => (by cases e), fun e => (by cases e)⟩
        | succ j =>
         cases h), Tryz.t40, rfl, rfl, fun _ _ => rfl⟩
theorem tn41 : TnOk Tryz.prog 41 (.fn [.st [.int .i64, .sl 150 (.st [.str, .int .i64, .sl 242 (.st [.int .i64, .sl 3 (.int .i64), .sl 3 (.int .i64)])]), .sl 166 (.st [.int .i64, .int .i64, .bool, .int .i64]), .sl 154 (.st [.sl 247 (.st [.int .i64, .int .i64]), .sl 25 (.sl 3 (.int .i64))]), .sl 3 (.int .i64)]] (.st [.int .i64, .sl 159 (.st [.str, .int .i64, .sl 172 (.st [.int .i64, .sl 3 (.int .i64), .sl 3 (.int .i64)])]), .sl 164 (.st [.int .i64, .int .i64, .bool, .int .i64]), .sl 169 (.st [.sl 228 (.st [.int .i64, .int .i64]), .sl 25 (.sl 3 (.int .i64))]), .sl 3 (.int .i64)])) := ⟨⟨_, _, _, Tryz.underlying41⟩, fun _ h => (by cases h), Tryz.t41, rfl, rfl, fun _ h => by cases h⟩
theorem tn46 : TnOk Tryz.prog 46 (.fn [.st [.int .i64, .sl 159 (.st [.str, .int .i64, .sl 172 (.st [.int .i64, .sl 3 (.int .i64), .sl 3 (.int .i64)])]), .sl 164 (.st [.int .i64, .int .i64, .bool, .int .i64]), .sl 169 (.st [.sl 228 (.st [.int .i64, .int .i64]), .sl 25 (.sl 3 (.int .i64))]), .sl 3 (.int .i64)], .st [.int .i64, .sl 159 (.st [.str, .int .i64, .sl 172 (.st [.int .i64, .sl 3 (.int .i64), .sl 3 (.int .i64)])]), .sl 164 (.st [.int .i64, .int .i64, .bool, .int .i64]), .sl 169 (.st [.sl 228 (.st [.int .i64, .int .i64]), .sl 25 (.sl 3 (.int .i64))]), .sl 3 (.int .i64)]] (.bool)) := ⟨⟨_, _, _, Tryz.underlying46⟩, fun _ h => (by cases h), Tryz.t46, rfl, rfl, fun _ h => by cases h⟩
theorem tn49 : TnOk Tryz.prog 49 (.st [.int .i64, .int .i64, .int .i64, .int .i64]) := ⟨⟨_, Tryz.underlying49, Tryz.eqGuardType49, Tryz.stoodInHeld49, rfl, fun j τ h => by
    cases j with
    | zero => cases h; exact ⟨_, _, rfl, rfl, by decide, by decide, Tryz.underlying3, rfl, fun us h => by cases h⟩
    | succ j =>
     cases j with
     | zero => cases h; exact ⟨_, _, rfl, rfl, by decide, by decide, Tryz.underlying3, rfl, fun us h => by cases h⟩
     | succ j =>
      cases j with
      | zero => cases h; exact ⟨_, _, rfl, rfl, by decide, by decide, Tryz.underlying3, rfl, fun us h => by cases h⟩
      | succ j =>
       cases j with
       | zero => cases h; exact ⟨_, _, rfl, rfl, by decide, by decide, Tryz.underlying3, rfl, fun us h => by cases h⟩
       | succ j =>
        cases h⟩, (fun us hus fs hfs j τ h f hf => by
    cases hus
    rw [Tryz.underlying49] at hfs
    cases hfs
    cases j with
    | zero => cases h; cases hf; exact ⟨fun k e => by cases e; exact Tryz.underlying3, fun e => (by cases e), fun e => (by cases e)⟩
    | succ j =>
     cases j with
     | zero => cases h; cases hf; exact ⟨fun k e => by cases e; exact Tryz.underlying3, fun e => (by cases e), fun e => (by cases e)⟩
     | succ j =>
      cases j with
      | zero => cases h; cases hf; exact ⟨fun k e => by cases e; exact Tryz.underlying3, fun e => (by cases e), fun e => (by cases e)⟩
      | succ j =>
       cases j with
       | zero => cases h; cases hf; exact ⟨fun k e => by cases e; exact Tryz.underlying3, fun e => (by cases e), fun e => (by cases e)⟩
       | succ j =>
        cases h), Tryz.t49, rfl, rfl, fun _ _ => rfl⟩
theorem tn50 : TnOk Tryz.prog 50 (.st [.int .i64, .int .i64, .int .i64, .int .i64]) := ⟨⟨_, Tryz.underlying50, Tryz.eqGuardType50, Tryz.stoodInHeld50, rfl, fun j τ h => by
    cases j with
    | zero => cases h; exact ⟨_, _, rfl, rfl, by decide, by decide, Tryz.underlying3, rfl, fun us h => by cases h⟩
    | succ j =>
     cases j with
     | zero => cases h; exact ⟨_, _, rfl, rfl, by decide, by decide, Tryz.underlying3, rfl, fun us h => by cases h⟩
     | succ j =>
      cases j with
      | zero => cases h; exact ⟨_, _, rfl, rfl, by decide, by decide, Tryz.underlying3, rfl, fun us h => by cases h⟩
      | succ j =>
       cases j with
       | zero => cases h; exact ⟨_, _, rfl, rfl, by decide, by decide, Tryz.underlying3, rfl, fun us h => by cases h⟩
       | succ j =>
        cases h⟩, (fun us hus fs hfs j τ h f hf => by
    cases hus
    rw [Tryz.underlying50] at hfs
    cases hfs
    cases j with
    | zero => cases h; cases hf; exact ⟨fun k e => by cases e; exact Tryz.underlying3, fun e => (by cases e), fun e => (by cases e)⟩
    | succ j =>
     cases j with
     | zero => cases h; cases hf; exact ⟨fun k e => by cases e; exact Tryz.underlying3, fun e => (by cases e), fun e => (by cases e)⟩
     | succ j =>
      cases j with
      | zero => cases h; cases hf; exact ⟨fun k e => by cases e; exact Tryz.underlying3, fun e => (by cases e), fun e => (by cases e)⟩
      | succ j =>
       cases j with
       | zero => cases h; cases hf; exact ⟨fun k e => by cases e; exact Tryz.underlying3, fun e => (by cases e), fun e => (by cases e)⟩
       | succ j =>
        cases h), Tryz.t50, rfl, rfl, fun _ _ => rfl⟩
theorem tn51 : TnOk Tryz.prog 51 (.sl 113 (.st [.int .i64, .int .i64, .int .i64])) := ⟨⟨Tryz.underlying51, Tryz.t113, _, rfl, rfl, rfl, rfl, by decide, by decide, fun _ _ => rfl, fun k h => by cases h⟩, fun _ h => (by cases h), Tryz.t51, rfl, rfl, fun _ _ => rfl⟩
theorem tn52 : TnOk Tryz.prog 52 (.fn [.sl 113 (.st [.int .i64, .int .i64, .int .i64]), .int .i64] (.int .i64)) := ⟨⟨_, _, _, Tryz.underlying52⟩, fun _ h => (by cases h), Tryz.t52, rfl, rfl, fun _ h => by cases h⟩
theorem tn53 : TnOk Tryz.prog 53 (.fn [.st [.int .i64, .sl 159 (.st [.str, .int .i64, .sl 172 (.st [.int .i64, .sl 3 (.int .i64), .sl 3 (.int .i64)])]), .sl 164 (.st [.int .i64, .int .i64, .bool, .int .i64]), .sl 169 (.st [.sl 228 (.st [.int .i64, .int .i64]), .sl 25 (.sl 3 (.int .i64))]), .sl 3 (.int .i64)], .st [.int .i64, .int .i64, .int .i64, .int .i64], .sl 111 (.st [.int .i64, .int .i64, .int .i64])] (.bool)) := ⟨⟨_, _, _, Tryz.underlying53⟩, fun _ h => (by cases h), Tryz.t53, rfl, rfl, fun _ h => by cases h⟩
theorem tn54 : TnOk Tryz.prog 54 (.st [.int .i64, .int .i64, .int .i64, .int .i64]) := ⟨⟨_, Tryz.underlying54, Tryz.eqGuardType54, Tryz.stoodInHeld54, rfl, fun j τ h => by
    cases j with
    | zero => cases h; exact ⟨_, _, rfl, rfl, by decide, by decide, Tryz.underlying3, rfl, fun us h => by cases h⟩
    | succ j =>
     cases j with
     | zero => cases h; exact ⟨_, _, rfl, rfl, by decide, by decide, Tryz.underlying3, rfl, fun us h => by cases h⟩
     | succ j =>
      cases j with
      | zero => cases h; exact ⟨_, _, rfl, rfl, by decide, by decide, Tryz.underlying3, rfl, fun us h => by cases h⟩
      | succ j =>
       cases j with
       | zero => cases h; exact ⟨_, _, rfl, rfl, by decide, by decide, Tryz.underlying3, rfl, fun us h => by cases h⟩
       | succ j =>
        cases h⟩, (fun us hus fs hfs j τ h f hf => by
    cases hus
    rw [Tryz.underlying54] at hfs
    cases hfs
    cases j with
    | zero => cases h; cases hf; exact ⟨fun k e => by cases e; exact Tryz.underlying3, fun e => (by cases e), fun e => (by cases e)⟩
    | succ j =>
     cases j with
     | zero => cases h; cases hf; exact ⟨fun k e => by cases e; exact Tryz.underlying3, fun e => (by cases e), fun e => (by cases e)⟩
     | succ j =>
      cases j with
      | zero => cases h; cases hf; exact ⟨fun k e => by cases e; exact Tryz.underlying3, fun e => (by cases e), fun e => (by cases e)⟩
      | succ j =>
       cases j with
       | zero => cases h; cases hf; exact ⟨fun k e => by cases e; exact Tryz.underlying3, fun e => (by cases e), fun e => (by cases e)⟩
       | succ j =>
        cases h), Tryz.t54, rfl, rfl, fun _ _ => rfl⟩
theorem tn55 : TnOk Tryz.prog 55 (.fn [.st [.int .i64, .int .i64, .int .i64, .int .i64]] (.st [.int .i64, .int .i64, .int .i64, .int .i64])) := ⟨⟨_, _, _, Tryz.underlying55⟩, fun _ h => (by cases h), Tryz.t55, rfl, rfl, fun _ h => by cases h⟩
theorem tn56 : TnOk Tryz.prog 56 (.sl 111 (.st [.int .i64, .int .i64, .int .i64])) := ⟨⟨Tryz.underlying56, Tryz.t111, _, rfl, rfl, rfl, rfl, by decide, by decide, fun _ _ => rfl, fun k h => by cases h⟩, fun _ h => (by cases h), Tryz.t56, rfl, rfl, fun _ _ => rfl⟩
theorem tn57 : TnOk Tryz.prog 57 (.fn [.sl 113 (.st [.int .i64, .int .i64, .int .i64])] (.sl 111 (.st [.int .i64, .int .i64, .int .i64]))) := ⟨⟨_, _, _, Tryz.underlying57⟩, fun _ h => (by cases h), Tryz.t57, rfl, rfl, fun _ h => by cases h⟩
theorem tn58 : TnOk Tryz.prog 58 (.fn [.sl 111 (.st [.int .i64, .int .i64, .int .i64]), .sl 111 (.st [.int .i64, .int .i64, .int .i64])] (.bool)) := ⟨⟨_, _, _, Tryz.underlying58⟩, fun _ h => (by cases h), Tryz.t58, rfl, rfl, fun _ h => by cases h⟩
theorem tn59 : TnOk Tryz.prog 59 (.fn [.st [.int .i64, .sl 150 (.st [.str, .int .i64, .sl 242 (.st [.int .i64, .sl 3 (.int .i64), .sl 3 (.int .i64)])]), .sl 166 (.st [.int .i64, .int .i64, .bool, .int .i64]), .sl 154 (.st [.sl 247 (.st [.int .i64, .int .i64]), .sl 25 (.sl 3 (.int .i64))]), .sl 3 (.int .i64)], .st [.int .i64, .int .i64, .int .i64, .int .i64], .sl 113 (.st [.int .i64, .int .i64, .int .i64])] (.bool)) := ⟨⟨_, _, _, Tryz.underlying59⟩, fun _ h => (by cases h), Tryz.t59, rfl, rfl, fun _ h => by cases h⟩
theorem tn74 : TnOk Tryz.prog 74 (.sl 25 (.sl 3 (.int .i64))) := ⟨⟨Tryz.underlying74, Tryz.t25, _, rfl, rfl, rfl, rfl, by decide, by decide, fun _ _ => rfl, fun k h => by cases h⟩, fun _ h => (by cases h), Tryz.t74, rfl, rfl, fun _ _ => rfl⟩
theorem tn75 : TnOk Tryz.prog 75 (.st [.sl 3 (.int .i64), .sl 3 (.int .i64), .sl 25 (.sl 3 (.int .i64))]) := ⟨⟨_, Tryz.underlying75, Tryz.eqGuardType75, Tryz.stoodInHeld75, rfl, fun j τ h => by
    cases j with
    | zero => cases h; exact ⟨_, _, rfl, rfl, by decide, by decide, Tryz.underlying25, rfl, fun us h => by cases h⟩
    | succ j =>
     cases j with
     | zero => cases h; exact ⟨_, _, rfl, rfl, by decide, by decide, Tryz.underlying25, rfl, fun us h => by cases h⟩
     | succ j =>
      cases j with
      | zero => cases h; exact ⟨_, _, rfl, rfl, by decide, by decide, Tryz.underlying74, rfl, fun us h => by cases h⟩
      | succ j =>
       cases h⟩, (fun us hus fs hfs j τ h f hf => by
    cases hus
    rw [Tryz.underlying75] at hfs
    cases hfs
    cases j with
    | zero => cases h; cases hf; exact ⟨fun k e => (by cases e), fun e => (by cases e), fun e => (by cases e)⟩
    | succ j =>
     cases j with
     | zero => cases h; cases hf; exact ⟨fun k e => (by cases e), fun e => (by cases e), fun e => (by cases e)⟩
     | succ j =>
      cases j with
      | zero => cases h; cases hf; exact ⟨fun k e => (by cases e), fun e => (by cases e), fun e => (by cases e)⟩
      | succ j =>
       cases h), Tryz.t75, rfl, rfl, fun _ _ => rfl⟩
theorem tn79 : TnOk Tryz.prog 79 (.st [.sl 3 (.int .i64), .sl 3 (.int .i64), .sl 25 (.sl 3 (.int .i64))]) := ⟨⟨_, Tryz.underlying79, Tryz.eqGuardType79, Tryz.stoodInHeld79, rfl, fun j τ h => by
    cases j with
    | zero => cases h; exact ⟨_, _, rfl, rfl, by decide, by decide, Tryz.underlying25, rfl, fun us h => by cases h⟩
    | succ j =>
     cases j with
     | zero => cases h; exact ⟨_, _, rfl, rfl, by decide, by decide, Tryz.underlying25, rfl, fun us h => by cases h⟩
     | succ j =>
      cases j with
      | zero => cases h; exact ⟨_, _, rfl, rfl, by decide, by decide, Tryz.underlying74, rfl, fun us h => by cases h⟩
      | succ j =>
       cases h⟩, (fun us hus fs hfs j τ h f hf => by
    cases hus
    rw [Tryz.underlying79] at hfs
    cases hfs
    cases j with
    | zero => cases h; cases hf; exact ⟨fun k e => (by cases e), fun e => (by cases e), fun e => (by cases e)⟩
    | succ j =>
     cases j with
     | zero => cases h; cases hf; exact ⟨fun k e => (by cases e), fun e => (by cases e), fun e => (by cases e)⟩
     | succ j =>
      cases j with
      | zero => cases h; cases hf; exact ⟨fun k e => (by cases e), fun e => (by cases e), fun e => (by cases e)⟩
      | succ j =>
       cases h), Tryz.t79, rfl, rfl, fun _ _ => rfl⟩
theorem tn88 : TnOk Tryz.prog 88 (.fn [.st [.sl 3 (.int .i64), .sl 3 (.int .i64), .sl 25 (.sl 3 (.int .i64))], .int .i64] (.int .i64)) := ⟨⟨_, _, _, Tryz.underlying88⟩, fun _ h => (by cases h), Tryz.t88, rfl, rfl, fun _ h => by cases h⟩
theorem tn92 : TnOk Tryz.prog 92 (.fn [.sl 150 (.st [.str, .int .i64, .sl 242 (.st [.int .i64, .sl 3 (.int .i64), .sl 3 (.int .i64)])]), .int .i64] (.int .i64)) := ⟨⟨_, _, _, Tryz.underlying92⟩, fun _ h => (by cases h), Tryz.t92, rfl, rfl, fun _ h => by cases h⟩
theorem tn93 : TnOk Tryz.prog 93 (.fn [.sl 166 (.st [.int .i64, .int .i64, .bool, .int .i64]), .int .i64] (.int .i64)) := ⟨⟨_, _, _, Tryz.underlying93⟩, fun _ h => (by cases h), Tryz.t93, rfl, rfl, fun _ h => by cases h⟩
theorem tn94 : TnOk Tryz.prog 94 (.fn [.sl 154 (.st [.sl 247 (.st [.int .i64, .int .i64]), .sl 25 (.sl 3 (.int .i64))]), .int .i64] (.int .i64)) := ⟨⟨_, _, _, Tryz.underlying94⟩, fun _ h => (by cases h), Tryz.t94, rfl, rfl, fun _ h => by cases h⟩
theorem tn95 : TnOk Tryz.prog 95 (.fn [.sl 3 (.int .i64), .int .i64] (.int .i64)) := ⟨⟨_, _, _, Tryz.underlying95⟩, fun _ h => (by cases h), Tryz.t95, rfl, rfl, fun _ h => by cases h⟩
theorem tn97 : TnOk Tryz.prog 97 (.fn [.int .i64, .int .i64] (.int .i64)) := ⟨⟨_, _, _, Tryz.underlying97⟩, fun _ h => (by cases h), Tryz.t97, rfl, rfl, fun _ h => by cases h⟩
theorem tn99 : TnOk Tryz.prog 99 (.fn [.sl 150 (.st [.str, .int .i64, .sl 242 (.st [.int .i64, .sl 3 (.int .i64), .sl 3 (.int .i64)])])] (.sl 159 (.st [.str, .int .i64, .sl 172 (.st [.int .i64, .sl 3 (.int .i64), .sl 3 (.int .i64)])]))) := ⟨⟨_, _, _, Tryz.underlying99⟩, fun _ h => (by cases h), Tryz.t99, rfl, rfl, fun _ h => by cases h⟩
theorem tn100 : TnOk Tryz.prog 100 (.fn [.sl 166 (.st [.int .i64, .int .i64, .bool, .int .i64])] (.sl 164 (.st [.int .i64, .int .i64, .bool, .int .i64]))) := ⟨⟨_, _, _, Tryz.underlying100⟩, fun _ h => (by cases h), Tryz.t100, rfl, rfl, fun _ h => by cases h⟩
theorem tn101 : TnOk Tryz.prog 101 (.fn [.sl 154 (.st [.sl 247 (.st [.int .i64, .int .i64]), .sl 25 (.sl 3 (.int .i64))])] (.sl 169 (.st [.sl 228 (.st [.int .i64, .int .i64]), .sl 25 (.sl 3 (.int .i64))]))) := ⟨⟨_, _, _, Tryz.underlying101⟩, fun _ h => (by cases h), Tryz.t101, rfl, rfl, fun _ h => by cases h⟩
theorem tn102 : TnOk Tryz.prog 102 (.fn [.sl 3 (.int .i64)] (.sl 3 (.int .i64))) := ⟨⟨_, _, _, Tryz.underlying102⟩, fun _ h => (by cases h), Tryz.t102, rfl, rfl, fun _ h => by cases h⟩
theorem tn103 : TnOk Tryz.prog 103 (.fn [.sl 159 (.st [.str, .int .i64, .sl 172 (.st [.int .i64, .sl 3 (.int .i64), .sl 3 (.int .i64)])]), .sl 159 (.st [.str, .int .i64, .sl 172 (.st [.int .i64, .sl 3 (.int .i64), .sl 3 (.int .i64)])])] (.bool)) := ⟨⟨_, _, _, Tryz.underlying103⟩, fun _ h => (by cases h), Tryz.t103, rfl, rfl, fun _ h => by cases h⟩
theorem tn104 : TnOk Tryz.prog 104 (.fn [.sl 164 (.st [.int .i64, .int .i64, .bool, .int .i64]), .sl 164 (.st [.int .i64, .int .i64, .bool, .int .i64])] (.bool)) := ⟨⟨_, _, _, Tryz.underlying104⟩, fun _ h => (by cases h), Tryz.t104, rfl, rfl, fun _ h => by cases h⟩
theorem tn105 : TnOk Tryz.prog 105 (.fn [.sl 169 (.st [.sl 228 (.st [.int .i64, .int .i64]), .sl 25 (.sl 3 (.int .i64))]), .sl 169 (.st [.sl 228 (.st [.int .i64, .int .i64]), .sl 25 (.sl 3 (.int .i64))])] (.bool)) := ⟨⟨_, _, _, Tryz.underlying105⟩, fun _ h => (by cases h), Tryz.t105, rfl, rfl, fun _ h => by cases h⟩
theorem tn106 : TnOk Tryz.prog 106 (.fn [.sl 3 (.int .i64), .sl 3 (.int .i64)] (.bool)) := ⟨⟨_, _, _, Tryz.underlying106⟩, fun _ h => (by cases h), Tryz.t106, rfl, rfl, fun _ h => by cases h⟩
theorem tn107 : TnOk Tryz.prog 107 (.fn [.st [.int .i64, .sl 159 (.st [.str, .int .i64, .sl 172 (.st [.int .i64, .sl 3 (.int .i64), .sl 3 (.int .i64)])]), .sl 164 (.st [.int .i64, .int .i64, .bool, .int .i64]), .sl 169 (.st [.sl 228 (.st [.int .i64, .int .i64]), .sl 25 (.sl 3 (.int .i64))]), .sl 3 (.int .i64)], .sl 111 (.st [.int .i64, .int .i64, .int .i64])] (.bool)) := ⟨⟨_, _, _, Tryz.underlying107⟩, fun _ h => (by cases h), Tryz.t107, rfl, rfl, fun _ h => by cases h⟩
theorem tn108 : TnOk Tryz.prog 108 (.fn [.st [.int .i64, .sl 159 (.st [.str, .int .i64, .sl 172 (.st [.int .i64, .sl 3 (.int .i64), .sl 3 (.int .i64)])]), .sl 164 (.st [.int .i64, .int .i64, .bool, .int .i64]), .sl 169 (.st [.sl 228 (.st [.int .i64, .int .i64]), .sl 25 (.sl 3 (.int .i64))]), .sl 3 (.int .i64)], .st [.sl 3 (.int .i64), .sl 3 (.int .i64), .sl 25 (.sl 3 (.int .i64))], .st [.int .i64, .int .i64, .int .i64, .int .i64]] (.bool)) := ⟨⟨_, _, _, Tryz.underlying108⟩, fun _ h => (by cases h), Tryz.t108, rfl, rfl, fun _ h => by cases h⟩
theorem tn109 : TnOk Tryz.prog 109 (.fn [.st [.int .i64, .sl 159 (.st [.str, .int .i64, .sl 172 (.st [.int .i64, .sl 3 (.int .i64), .sl 3 (.int .i64)])]), .sl 164 (.st [.int .i64, .int .i64, .bool, .int .i64]), .sl 169 (.st [.sl 228 (.st [.int .i64, .int .i64]), .sl 25 (.sl 3 (.int .i64))]), .sl 3 (.int .i64)], .sl 111 (.st [.int .i64, .int .i64, .int .i64])] (.st [.sl 3 (.int .i64), .sl 3 (.int .i64), .sl 25 (.sl 3 (.int .i64))])) := ⟨⟨_, _, _, Tryz.underlying109⟩, fun _ h => (by cases h), Tryz.t109, rfl, rfl, fun _ h => by cases h⟩
theorem tn110 : TnOk Tryz.prog 110 (.st [.int .i64, .int .i64, .int .i64]) := ⟨⟨_, Tryz.underlying110, Tryz.eqGuardType110, Tryz.stoodInHeld110, rfl, fun j τ h => by
    cases j with
    | zero => cases h; exact ⟨_, _, rfl, rfl, by decide, by decide, Tryz.underlying3, rfl, fun us h => by cases h⟩
    | succ j =>
     cases j with
     | zero => cases h; exact ⟨_, _, rfl, rfl, by decide, by decide, Tryz.underlying3, rfl, fun us h => by cases h⟩
     | succ j =>
      cases j with
      | zero => cases h; exact ⟨_, _, rfl, rfl, by decide, by decide, Tryz.underlying3, rfl, fun us h => by cases h⟩
      | succ j =>
       cases h⟩, (fun us hus fs hfs j τ h f hf => by
    cases hus
    rw [Tryz.underlying110] at hfs
    cases hfs
    cases j with
    | zero => cases h; cases hf; exact ⟨fun k e => by cases e; exact Tryz.underlying3, fun e => (by cases e), fun e => (by cases e)⟩
    | succ j =>
     cases j with
     | zero => cases h; cases hf; exact ⟨fun k e => by cases e; exact Tryz.underlying3, fun e => (by cases e), fun e => (by cases e)⟩
     | succ j =>
      cases j with
      | zero => cases h; cases hf; exact ⟨fun k e => by cases e; exact Tryz.underlying3, fun e => (by cases e), fun e => (by cases e)⟩
      | succ j =>
       cases h), Tryz.t110, rfl, rfl, fun _ _ => rfl⟩
theorem tn111 : TnOk Tryz.prog 111 (.st [.int .i64, .int .i64, .int .i64]) := ⟨⟨_, Tryz.underlying111, Tryz.eqGuardType111, Tryz.stoodInHeld111, rfl, fun j τ h => by
    cases j with
    | zero => cases h; exact ⟨_, _, rfl, rfl, by decide, by decide, Tryz.underlying3, rfl, fun us h => by cases h⟩
    | succ j =>
     cases j with
     | zero => cases h; exact ⟨_, _, rfl, rfl, by decide, by decide, Tryz.underlying3, rfl, fun us h => by cases h⟩
     | succ j =>
      cases j with
      | zero => cases h; exact ⟨_, _, rfl, rfl, by decide, by decide, Tryz.underlying3, rfl, fun us h => by cases h⟩
      | succ j =>
       cases h⟩, (fun us hus fs hfs j τ h f hf => by
    cases hus
    rw [Tryz.underlying111] at hfs
    cases hfs
    cases j with
    | zero => cases h; cases hf; exact ⟨fun k e => by cases e; exact Tryz.underlying3, fun e => (by cases e), fun e => (by cases e)⟩
    | succ j =>
     cases j with
     | zero => cases h; cases hf; exact ⟨fun k e => by cases e; exact Tryz.underlying3, fun e => (by cases e), fun e => (by cases e)⟩
     | succ j =>
      cases j with
      | zero => cases h; cases hf; exact ⟨fun k e => by cases e; exact Tryz.underlying3, fun e => (by cases e), fun e => (by cases e)⟩
      | succ j =>
       cases h), Tryz.t111, rfl, rfl, fun _ _ => rfl⟩
theorem tn112 : TnOk Tryz.prog 112 (.fn [.st [.int .i64, .int .i64, .int .i64]] (.st [.int .i64, .int .i64, .int .i64])) := ⟨⟨_, _, _, Tryz.underlying112⟩, fun _ h => (by cases h), Tryz.t112, rfl, rfl, fun _ h => by cases h⟩
theorem tn113 : TnOk Tryz.prog 113 (.st [.int .i64, .int .i64, .int .i64]) := ⟨⟨_, Tryz.underlying113, Tryz.eqGuardType113, Tryz.stoodInHeld113, rfl, fun j τ h => by
    cases j with
    | zero => cases h; exact ⟨_, _, rfl, rfl, by decide, by decide, Tryz.underlying3, rfl, fun us h => by cases h⟩
    | succ j =>
     cases j with
     | zero => cases h; exact ⟨_, _, rfl, rfl, by decide, by decide, Tryz.underlying3, rfl, fun us h => by cases h⟩
     | succ j =>
      cases j with
      | zero => cases h; exact ⟨_, _, rfl, rfl, by decide, by decide, Tryz.underlying3, rfl, fun us h => by cases h⟩
      | succ j =>
       cases h⟩, (fun us hus fs hfs j τ h f hf => by
    cases hus
    rw [Tryz.underlying113] at hfs
    cases hfs
    cases j with
    | zero => cases h; cases hf; exact ⟨fun k e => by cases e; exact Tryz.underlying3, fun e => (by cases e), fun e => (by cases e)⟩
    | succ j =>
     cases j with
     | zero => cases h; cases hf; exact ⟨fun k e => by cases e; exact Tryz.underlying3, fun e => (by cases e), fun e => (by cases e)⟩
     | succ j =>
      cases j with
      | zero => cases h; cases hf; exact ⟨fun k e => by cases e; exact Tryz.underlying3, fun e => (by cases e), fun e => (by cases e)⟩
      | succ j =>
       cases h), Tryz.t113, rfl, rfl, fun _ _ => rfl⟩
theorem tn114 : TnOk Tryz.prog 114 (.fn [.st [.int .i64, .int .i64, .int .i64], .st [.int .i64, .int .i64, .int .i64]] (.bool)) := ⟨⟨_, _, _, Tryz.underlying114⟩, fun _ h => (by cases h), Tryz.t114, rfl, rfl, fun _ h => by cases h⟩
theorem tn116 : TnOk Tryz.prog 116 (.fn [.sl 3 (.int .i64), .int .i64] (.sl 3 (.int .i64))) := ⟨⟨_, _, _, Tryz.underlying116⟩, fun _ h => (by cases h), Tryz.t116, rfl, rfl, fun _ h => by cases h⟩
theorem tn128 : TnOk Tryz.prog 128 (.fn [.sl 25 (.sl 3 (.int .i64)), .int .i64] (.int .i64)) := ⟨⟨_, _, _, Tryz.underlying128⟩, fun _ h => (by cases h), Tryz.t128, rfl, rfl, fun _ h => by cases h⟩
theorem tn129 : TnOk Tryz.prog 129 (.fn [.st [.sl 3 (.int .i64), .sl 3 (.int .i64), .sl 25 (.sl 3 (.int .i64))]] (.st [.sl 3 (.int .i64), .sl 3 (.int .i64), .sl 25 (.sl 3 (.int .i64))])) := ⟨⟨_, _, _, Tryz.underlying129⟩, fun _ h => (by cases h), Tryz.t129, rfl, rfl, fun _ h => by cases h⟩
theorem tn130 : TnOk Tryz.prog 130 (.fn [.st [.int .i64, .sl 159 (.st [.str, .int .i64, .sl 172 (.st [.int .i64, .sl 3 (.int .i64), .sl 3 (.int .i64)])]), .sl 164 (.st [.int .i64, .int .i64, .bool, .int .i64]), .sl 169 (.st [.sl 228 (.st [.int .i64, .int .i64]), .sl 25 (.sl 3 (.int .i64))]), .sl 3 (.int .i64)], .st [.sl 3 (.int .i64), .sl 3 (.int .i64), .sl 25 (.sl 3 (.int .i64))]] (.bool)) := ⟨⟨_, _, _, Tryz.underlying130⟩, fun _ h => (by cases h), Tryz.t130, rfl, rfl, fun _ h => by cases h⟩
theorem tn131 : TnOk Tryz.prog 131 (.fn [.st [.sl 3 (.int .i64), .sl 3 (.int .i64), .sl 25 (.sl 3 (.int .i64))]] (.bool)) := ⟨⟨_, _, _, Tryz.underlying131⟩, fun _ h => (by cases h), Tryz.t131, rfl, rfl, fun _ h => by cases h⟩
theorem tn134 : TnOk Tryz.prog 134 (.fn [.st [.sl 3 (.int .i64), .sl 3 (.int .i64), .sl 25 (.sl 3 (.int .i64))], .st [.int .i64, .int .i64, .int .i64]] (.st [.sl 3 (.int .i64), .sl 3 (.int .i64), .sl 25 (.sl 3 (.int .i64))])) := ⟨⟨_, _, _, Tryz.underlying134⟩, fun _ h => (by cases h), Tryz.t134, rfl, rfl, fun _ h => by cases h⟩
theorem tn135 : TnOk Tryz.prog 135 (.fn [.sl 25 (.sl 3 (.int .i64))] (.sl 25 (.sl 3 (.int .i64)))) := ⟨⟨_, _, _, Tryz.underlying135⟩, fun _ h => (by cases h), Tryz.t135, rfl, rfl, fun _ h => by cases h⟩
theorem tn136 : TnOk Tryz.prog 136 (.fn [] (.st [.sl 3 (.int .i64), .sl 3 (.int .i64), .sl 25 (.sl 3 (.int .i64))])) := ⟨⟨_, _, _, Tryz.underlying136⟩, fun _ h => (by cases h), Tryz.t136, rfl, rfl, fun _ h => by cases h⟩
theorem tn140 : TnOk Tryz.prog 140 (.fn [.sl 25 (.sl 3 (.int .i64)), .sl 25 (.sl 3 (.int .i64))] (.bool)) := ⟨⟨_, _, _, Tryz.underlying140⟩, fun _ h => (by cases h), Tryz.t140, rfl, rfl, fun _ h => by cases h⟩
theorem tn142 : TnOk Tryz.prog 142 (.fn [.int .i64, .int .i64, .int .i64] (.bool)) := ⟨⟨_, _, _, Tryz.underlying142⟩, fun _ h => (by cases h), Tryz.t142, rfl, rfl, fun _ h => by cases h⟩
theorem tn144 : TnOk Tryz.prog 144 (.fn [.int .i64] (.bool)) := ⟨⟨_, _, _, Tryz.underlying144⟩, fun _ h => (by cases h), Tryz.t144, rfl, rfl, fun _ h => by cases h⟩
theorem tn147 : TnOk Tryz.prog 147 (.fn [.st [.str, .int .i64, .sl 242 (.st [.int .i64, .sl 3 (.int .i64), .sl 3 (.int .i64)])], .int .i64] (.int .i64)) := ⟨⟨_, _, _, Tryz.underlying147⟩, fun _ h => (by cases h), Tryz.t147, rfl, rfl, fun _ h => by cases h⟩
theorem tn148 : TnOk Tryz.prog 148 (.sl 242 (.st [.int .i64, .sl 3 (.int .i64), .sl 3 (.int .i64)])) := ⟨⟨Tryz.underlying148, Tryz.t242, _, rfl, rfl, rfl, rfl, by decide, by decide, fun _ _ => rfl, fun k h => by cases h⟩, fun _ h => (by cases h), Tryz.t148, rfl, rfl, fun _ _ => rfl⟩
theorem tn149 : TnOk Tryz.prog 149 (.st [.str, .int .i64, .sl 242 (.st [.int .i64, .sl 3 (.int .i64), .sl 3 (.int .i64)])]) := ⟨⟨_, Tryz.underlying149, Tryz.eqGuardType149, Tryz.stoodInHeld149, rfl, fun j τ h => by
    cases j with
    | zero => cases h; exact ⟨_, _, rfl, rfl, by decide, by decide, Tryz.underlying9, rfl, fun us h => by cases h⟩
    | succ j =>
     cases j with
     | zero => cases h; exact ⟨_, _, rfl, rfl, by decide, by decide, Tryz.underlying3, rfl, fun us h => by cases h⟩
     | succ j =>
      cases j with
      | zero => cases h; exact ⟨_, _, rfl, rfl, by decide, by decide, Tryz.underlying148, rfl, fun us h => by cases h⟩
      | succ j =>
       cases h⟩, (fun us hus fs hfs j τ h f hf => by
    cases hus
    rw [Tryz.underlying149] at hfs
    cases hfs
    cases j with
    | zero => cases h; cases hf; exact ⟨fun k e => (by cases e), fun e => (by cases e), fun _ => Tryz.underlying9⟩
    | succ j =>
     cases j with
     | zero => cases h; cases hf; exact ⟨fun k e => by cases e; exact Tryz.underlying3, fun e => (by cases e), fun e => (by cases e)⟩
     | succ j =>
      cases j with
      | zero => cases h; cases hf; exact ⟨fun k e => (by cases e), fun e => (by cases e), fun e => (by cases e)⟩
      | succ j =>
       cases h), Tryz.t149, rfl, rfl, fun _ _ => rfl⟩
theorem tn150 : TnOk Tryz.prog 150 (.st [.str, .int .i64, .sl 242 (.st [.int .i64, .sl 3 (.int .i64), .sl 3 (.int .i64)])]) := ⟨⟨_, Tryz.underlying150, Tryz.eqGuardType150, Tryz.stoodInHeld150, rfl, fun j τ h => by
    cases j with
    | zero => cases h; exact ⟨_, _, rfl, rfl, by decide, by decide, Tryz.underlying9, rfl, fun us h => by cases h⟩
    | succ j =>
     cases j with
     | zero => cases h; exact ⟨_, _, rfl, rfl, by decide, by decide, Tryz.underlying3, rfl, fun us h => by cases h⟩
     | succ j =>
      cases j with
      | zero => cases h; exact ⟨_, _, rfl, rfl, by decide, by decide, Tryz.underlying148, rfl, fun us h => by cases h⟩
      | succ j =>
       cases h⟩, (fun us hus fs hfs j τ h f hf => by
    cases hus
    rw [Tryz.underlying150] at hfs
    cases hfs
    cases j with
    | zero => cases h; cases hf; exact ⟨fun k e => (by cases e), fun e => (by cases e), fun _ => Tryz.underlying9⟩
    | succ j =>
     cases j with
     | zero => cases h; cases hf; exact ⟨fun k e => by cases e; exact Tryz.underlying3, fun e => (by cases e), fun e => (by cases e)⟩
     | succ j =>
      cases j with
      | zero => cases h; cases hf; exact ⟨fun k e => (by cases e), fun e => (by cases e), fun e => (by cases e)⟩
      | succ j =>
       cases h), Tryz.t150, rfl, rfl, fun _ _ => rfl⟩
theorem tn151 : TnOk Tryz.prog 151 (.fn [.st [.sl 247 (.st [.int .i64, .int .i64]), .sl 25 (.sl 3 (.int .i64))], .int .i64] (.int .i64)) := ⟨⟨_, _, _, Tryz.underlying151⟩, fun _ h => (by cases h), Tryz.t151, rfl, rfl, fun _ h => by cases h⟩
theorem tn152 : TnOk Tryz.prog 152 (.sl 247 (.st [.int .i64, .int .i64])) := ⟨⟨Tryz.underlying152, Tryz.t247, _, rfl, rfl, rfl, rfl, by decide, by decide, fun _ _ => rfl, fun k h => by cases h⟩, fun _ h => (by cases h), Tryz.t152, rfl, rfl, fun _ _ => rfl⟩
theorem tn153 : TnOk Tryz.prog 153 (.st [.sl 247 (.st [.int .i64, .int .i64]), .sl 25 (.sl 3 (.int .i64))]) := ⟨⟨_, Tryz.underlying153, Tryz.eqGuardType153, Tryz.stoodInHeld153, rfl, fun j τ h => by
    cases j with
    | zero => cases h; exact ⟨_, _, rfl, rfl, by decide, by decide, Tryz.underlying152, rfl, fun us h => by cases h⟩
    | succ j =>
     cases j with
     | zero => cases h; exact ⟨_, _, rfl, rfl, by decide, by decide, Tryz.underlying74, rfl, fun us h => by cases h⟩
     | succ j =>
      cases h⟩, (fun us hus fs hfs j τ h f hf => by
    cases hus
    rw [Tryz.underlying153] at hfs
    cases hfs
    cases j with
    | zero => cases h; cases hf; exact ⟨fun k e => (by cases e), fun e => (by cases e), fun e => (by cases e)⟩
    | succ j =>
     cases j with
     | zero => cases h; cases hf; exact ⟨fun k e => (by cases e), fun e => (by cases e), fun e => (by cases e)⟩
     | succ j =>
      cases h), Tryz.t153, rfl, rfl, fun _ _ => rfl⟩
theorem tn154 : TnOk Tryz.prog 154 (.st [.sl 247 (.st [.int .i64, .int .i64]), .sl 25 (.sl 3 (.int .i64))]) := ⟨⟨_, Tryz.underlying154, Tryz.eqGuardType154, Tryz.stoodInHeld154, rfl, fun j τ h => by
    cases j with
    | zero => cases h; exact ⟨_, _, rfl, rfl, by decide, by decide, Tryz.underlying152, rfl, fun us h => by cases h⟩
    | succ j =>
     cases j with
     | zero => cases h; exact ⟨_, _, rfl, rfl, by decide, by decide, Tryz.underlying74, rfl, fun us h => by cases h⟩
     | succ j =>
      cases h⟩, (fun us hus fs hfs j τ h f hf => by
    cases hus
    rw [Tryz.underlying154] at hfs
    cases hfs
    cases j with
    | zero => cases h; cases hf; exact ⟨fun k e => (by cases e), fun e => (by cases e), fun e => (by cases e)⟩
    | succ j =>
     cases j with
     | zero => cases h; cases hf; exact ⟨fun k e => (by cases e), fun e => (by cases e), fun e => (by cases e)⟩
     | succ j =>
      cases h), Tryz.t154, rfl, rfl, fun _ _ => rfl⟩
theorem tn156 : TnOk Tryz.prog 156 (.fn [.sl 3 (.int .i64), .int .i64] (.bool)) := ⟨⟨_, _, _, Tryz.underlying156⟩, fun _ h => (by cases h), Tryz.t156, rfl, rfl, fun _ h => by cases h⟩
theorem tn157 : TnOk Tryz.prog 157 (.sl 172 (.st [.int .i64, .sl 3 (.int .i64), .sl 3 (.int .i64)])) := ⟨⟨Tryz.underlying157, Tryz.t172, _, rfl, rfl, rfl, rfl, by decide, by decide, fun _ _ => rfl, fun k h => by cases h⟩, fun _ h => (by cases h), Tryz.t157, rfl, rfl, fun _ _ => rfl⟩
theorem tn158 : TnOk Tryz.prog 158 (.st [.str, .int .i64, .sl 172 (.st [.int .i64, .sl 3 (.int .i64), .sl 3 (.int .i64)])]) := ⟨⟨_, Tryz.underlying158, Tryz.eqGuardType158, Tryz.stoodInHeld158, rfl, fun j τ h => by
    cases j with
    | zero => cases h; exact ⟨_, _, rfl, rfl, by decide, by decide, Tryz.underlying9, rfl, fun us h => by cases h⟩
    | succ j =>
     cases j with
     | zero => cases h; exact ⟨_, _, rfl, rfl, by decide, by decide, Tryz.underlying3, rfl, fun us h => by cases h⟩
     | succ j =>
      cases j with
      | zero => cases h; exact ⟨_, _, rfl, rfl, by decide, by decide, Tryz.underlying157, rfl, fun us h => by cases h⟩
      | succ j =>
       cases h⟩, (fun us hus fs hfs j τ h f hf => by
    cases hus
    rw [Tryz.underlying158] at hfs
    cases hfs
    cases j with
    | zero => cases h; cases hf; exact ⟨fun k e => (by cases e), fun e => (by cases e), fun _ => Tryz.underlying9⟩
    | succ j =>
     cases j with
     | zero => cases h; cases hf; exact ⟨fun k e => by cases e; exact Tryz.underlying3, fun e => (by cases e), fun e => (by cases e)⟩
     | succ j =>
      cases j with
      | zero => cases h; cases hf; exact ⟨fun k e => (by cases e), fun e => (by cases e), fun e => (by cases e)⟩
      | succ j =>
       cases h), Tryz.t158, rfl, rfl, fun _ _ => rfl⟩
theorem tn159 : TnOk Tryz.prog 159 (.st [.str, .int .i64, .sl 172 (.st [.int .i64, .sl 3 (.int .i64), .sl 3 (.int .i64)])]) := ⟨⟨_, Tryz.underlying159, Tryz.eqGuardType159, Tryz.stoodInHeld159, rfl, fun j τ h => by
    cases j with
    | zero => cases h; exact ⟨_, _, rfl, rfl, by decide, by decide, Tryz.underlying9, rfl, fun us h => by cases h⟩
    | succ j =>
     cases j with
     | zero => cases h; exact ⟨_, _, rfl, rfl, by decide, by decide, Tryz.underlying3, rfl, fun us h => by cases h⟩
     | succ j =>
      cases j with
      | zero => cases h; exact ⟨_, _, rfl, rfl, by decide, by decide, Tryz.underlying157, rfl, fun us h => by cases h⟩
      | succ j =>
       cases h⟩, (fun us hus fs hfs j τ h f hf => by
    cases hus
    rw [Tryz.underlying159] at hfs
    cases hfs
    cases j with
    | zero => cases h; cases hf; exact ⟨fun k e => (by cases e), fun e => (by cases e), fun _ => Tryz.underlying9⟩
    | succ j =>
     cases j with
     | zero => cases h; cases hf; exact ⟨fun k e => by cases e; exact Tryz.underlying3, fun e => (by cases e), fun e => (by cases e)⟩
     | succ j =>
      cases j with
      | zero => cases h; cases hf; exact ⟨fun k e => (by cases e), fun e => (by cases e), fun e => (by cases e)⟩
      | succ j =>
       cases h), Tryz.t159, rfl, rfl, fun _ _ => rfl⟩
theorem tn162 : TnOk Tryz.prog 162 (.fn [.st [.str, .int .i64, .sl 242 (.st [.int .i64, .sl 3 (.int .i64), .sl 3 (.int .i64)])]] (.st [.str, .int .i64, .sl 172 (.st [.int .i64, .sl 3 (.int .i64), .sl 3 (.int .i64)])])) := ⟨⟨_, _, _, Tryz.underlying162⟩, fun _ h => (by cases h), Tryz.t162, rfl, rfl, fun _ h => by cases h⟩
theorem tn163 : TnOk Tryz.prog 163 (.st [.int .i64, .int .i64, .bool, .int .i64]) := ⟨⟨_, Tryz.underlying163, Tryz.eqGuardType163, Tryz.stoodInHeld163, rfl, fun j τ h => by
    cases j with
    | zero => cases h; exact ⟨_, _, rfl, rfl, by decide, by decide, Tryz.underlying3, rfl, fun us h => by cases h⟩
    | succ j =>
     cases j with
     | zero => cases h; exact ⟨_, _, rfl, rfl, by decide, by decide, Tryz.underlying3, rfl, fun us h => by cases h⟩
     | succ j =>
      cases j with
      | zero => cases h; exact ⟨_, _, rfl, rfl, by decide, by decide, Tryz.underlying4, rfl, fun us h => by cases h⟩
      | succ j =>
       cases j with
       | zero => cases h; exact ⟨_, _, rfl, rfl, by decide, by decide, Tryz.underlying3, rfl, fun us h => by cases h⟩
       | succ j =>
        cases h⟩, (fun us hus fs hfs j τ h f hf => by
    cases hus
    rw [Tryz.underlying163] at hfs
    cases hfs
    cases j with
    | zero => cases h; cases hf; exact ⟨fun k e => by cases e; exact Tryz.underlying3, fun e => (by cases e), fun e => (by cases e)⟩
    | succ j =>
     cases j with
     | zero => cases h; cases hf; exact ⟨fun k e => by cases e; exact Tryz.underlying3, fun e => (by cases e), fun e => (by cases e)⟩
     | succ j =>
      cases j with
      | zero => cases h; cases hf; exact ⟨fun k e => (by cases e), fun _ => Tryz.underlying4, fun e => (by cases e)⟩
      | succ j =>
       cases j with
       | zero => cases h; cases hf; exact ⟨fun k e => by cases e; exact Tryz.underlying3, fun e => (by cases e), fun e => (by cases e)⟩
       | succ j =>
        cases h), Tryz.t163, rfl, rfl, fun _ _ => rfl⟩
theorem tn164 : TnOk Tryz.prog 164 (.st [.int .i64, .int .i64, .bool, .int .i64]) := ⟨⟨_, Tryz.underlying164, Tryz.eqGuardType164, Tryz.stoodInHeld164, rfl, fun j τ h => by
    cases j with
    | zero => cases h; exact ⟨_, _, rfl, rfl, by decide, by decide, Tryz.underlying3, rfl, fun us h => by cases h⟩
    | succ j =>
     cases j with
     | zero => cases h; exact ⟨_, _, rfl, rfl, by decide, by decide, Tryz.underlying3, rfl, fun us h => by cases h⟩
     | succ j =>
      cases j with
      | zero => cases h; exact ⟨_, _, rfl, rfl, by decide, by decide, Tryz.underlying4, rfl, fun us h => by cases h⟩
      | succ j =>
       cases j with
       | zero => cases h; exact ⟨_, _, rfl, rfl, by decide, by decide, Tryz.underlying3, rfl, fun us h => by cases h⟩
       | succ j =>
        cases h⟩, (fun us hus fs hfs j τ h f hf => by
    cases hus
    rw [Tryz.underlying164] at hfs
    cases hfs
    cases j with
    | zero => cases h; cases hf; exact ⟨fun k e => by cases e; exact Tryz.underlying3, fun e => (by cases e), fun e => (by cases e)⟩
    | succ j =>
     cases j with
     | zero => cases h; cases hf; exact ⟨fun k e => by cases e; exact Tryz.underlying3, fun e => (by cases e), fun e => (by cases e)⟩
     | succ j =>
      cases j with
      | zero => cases h; cases hf; exact ⟨fun k e => (by cases e), fun _ => Tryz.underlying4, fun e => (by cases e)⟩
      | succ j =>
       cases j with
       | zero => cases h; cases hf; exact ⟨fun k e => by cases e; exact Tryz.underlying3, fun e => (by cases e), fun e => (by cases e)⟩
       | succ j =>
        cases h), Tryz.t164, rfl, rfl, fun _ _ => rfl⟩
theorem tn165 : TnOk Tryz.prog 165 (.fn [.st [.int .i64, .int .i64, .bool, .int .i64]] (.st [.int .i64, .int .i64, .bool, .int .i64])) := ⟨⟨_, _, _, Tryz.underlying165⟩, fun _ h => (by cases h), Tryz.t165, rfl, rfl, fun _ h => by cases h⟩
theorem tn166 : TnOk Tryz.prog 166 (.st [.int .i64, .int .i64, .bool, .int .i64]) := ⟨⟨_, Tryz.underlying166, Tryz.eqGuardType166, Tryz.stoodInHeld166, rfl, fun j τ h => by
    cases j with
    | zero => cases h; exact ⟨_, _, rfl, rfl, by decide, by decide, Tryz.underlying3, rfl, fun us h => by cases h⟩
    | succ j =>
     cases j with
     | zero => cases h; exact ⟨_, _, rfl, rfl, by decide, by decide, Tryz.underlying3, rfl, fun us h => by cases h⟩
     | succ j =>
      cases j with
      | zero => cases h; exact ⟨_, _, rfl, rfl, by decide, by decide, Tryz.underlying4, rfl, fun us h => by cases h⟩
      | succ j =>
       cases j with
       | zero => cases h; exact ⟨_, _, rfl, rfl, by decide, by decide, Tryz.underlying3, rfl, fun us h => by cases h⟩
       | succ j =>
        cases h⟩, (fun us hus fs hfs j τ h f hf => by
    cases hus
    rw [Tryz.underlying166] at hfs
    cases hfs
    cases j with
    | zero => cases h; cases hf; exact ⟨fun k e => by cases e; exact Tryz.underlying3, fun e => (by cases e), fun e => (by cases e)⟩
    | succ j =>
     cases j with
     | zero => cases h; cases hf; exact ⟨fun k e => by cases e; exact Tryz.underlying3, fun e => (by cases e), fun e => (by cases e)⟩
     | succ j =>
      cases j with
      | zero => cases h; cases hf; exact ⟨fun k e => (by cases e), fun _ => Tryz.underlying4, fun e => (by cases e)⟩
      | succ j =>
       cases j with
       | zero => cases h; cases hf; exact ⟨fun k e => by cases e; exact Tryz.underlying3, fun e => (by cases e), fun e => (by cases e)⟩
       | succ j =>
        cases h), Tryz.t166, rfl, rfl, fun _ _ => rfl⟩
theorem tn167 : TnOk Tryz.prog 167 (.sl 228 (.st [.int .i64, .int .i64])) := ⟨⟨Tryz.underlying167, Tryz.t228, _, rfl, rfl, rfl, rfl, by decide, by decide, fun _ _ => rfl, fun k h => by cases h⟩, fun _ h => (by cases h), Tryz.t167, rfl, rfl, fun _ _ => rfl⟩
theorem tn168 : TnOk Tryz.prog 168 (.st [.sl 228 (.st [.int .i64, .int .i64]), .sl 25 (.sl 3 (.int .i64))]) := ⟨⟨_, Tryz.underlying168, Tryz.eqGuardType168, Tryz.stoodInHeld168, rfl, fun j τ h => by
    cases j with
    | zero => cases h; exact ⟨_, _, rfl, rfl, by decide, by decide, Tryz.underlying167, rfl, fun us h => by cases h⟩
    | succ j =>
     cases j with
     | zero => cases h; exact ⟨_, _, rfl, rfl, by decide, by decide, Tryz.underlying74, rfl, fun us h => by cases h⟩
     | succ j =>
      cases h⟩, (fun us hus fs hfs j τ h f hf => by
    cases hus
    rw [Tryz.underlying168] at hfs
    cases hfs
    cases j with
    | zero => cases h; cases hf; exact ⟨fun k e => (by cases e), fun e => (by cases e), fun e => (by cases e)⟩
    | succ j =>
     cases j with
     | zero => cases h; cases hf; exact ⟨fun k e => (by cases e), fun e => (by cases e), fun e => (by cases e)⟩
     | succ j =>
      cases h), Tryz.t168, rfl, rfl, fun _ _ => rfl⟩
theorem tn169 : TnOk Tryz.prog 169 (.st [.sl 228 (.st [.int .i64, .int .i64]), .sl 25 (.sl 3 (.int .i64))]) := ⟨⟨_, Tryz.underlying169, Tryz.eqGuardType169, Tryz.stoodInHeld169, rfl, fun j τ h => by
    cases j with
    | zero => cases h; exact ⟨_, _, rfl, rfl, by decide, by decide, Tryz.underlying167, rfl, fun us h => by cases h⟩
    | succ j =>
     cases j with
     | zero => cases h; exact ⟨_, _, rfl, rfl, by decide, by decide, Tryz.underlying74, rfl, fun us h => by cases h⟩
     | succ j =>
      cases h⟩, (fun us hus fs hfs j τ h f hf => by
    cases hus
    rw [Tryz.underlying169] at hfs
    cases hfs
    cases j with
    | zero => cases h; cases hf; exact ⟨fun k e => (by cases e), fun e => (by cases e), fun e => (by cases e)⟩
    | succ j =>
     cases j with
     | zero => cases h; cases hf; exact ⟨fun k e => (by cases e), fun e => (by cases e), fun e => (by cases e)⟩
     | succ j =>
      cases h), Tryz.t169, rfl, rfl, fun _ _ => rfl⟩
theorem tn170 : TnOk Tryz.prog 170 (.fn [.st [.sl 247 (.st [.int .i64, .int .i64]), .sl 25 (.sl 3 (.int .i64))]] (.st [.sl 228 (.st [.int .i64, .int .i64]), .sl 25 (.sl 3 (.int .i64))])) := ⟨⟨_, _, _, Tryz.underlying170⟩, fun _ h => (by cases h), Tryz.t170, rfl, rfl, fun _ h => by cases h⟩
theorem tn171 : TnOk Tryz.prog 171 (.st [.int .i64, .sl 3 (.int .i64), .sl 3 (.int .i64)]) := ⟨⟨_, Tryz.underlying171, Tryz.eqGuardType171, Tryz.stoodInHeld171, rfl, fun j τ h => by
    cases j with
    | zero => cases h; exact ⟨_, _, rfl, rfl, by decide, by decide, Tryz.underlying3, rfl, fun us h => by cases h⟩
    | succ j =>
     cases j with
     | zero => cases h; exact ⟨_, _, rfl, rfl, by decide, by decide, Tryz.underlying25, rfl, fun us h => by cases h⟩
     | succ j =>
      cases j with
      | zero => cases h; exact ⟨_, _, rfl, rfl, by decide, by decide, Tryz.underlying25, rfl, fun us h => by cases h⟩
      | succ j =>
       cases h⟩, (fun us hus fs hfs j τ h f hf => by
    cases hus
    rw [Tryz.underlying171] at hfs
    cases hfs
    cases j with
    | zero => cases h; cases hf; exact ⟨fun k e => by cases e; exact Tryz.underlying3, fun e => (by cases e), fun e => (by cases e)⟩
    | succ j =>
     cases j with
     | zero => cases h; cases hf; exact ⟨fun k e => (by cases e), fun e => (by cases e), fun e => (by cases e)⟩
     | succ j =>
      cases j with
      | zero => cases h; cases hf; exact ⟨fun k e => (by cases e), fun e => (by cases e), fun e => (by cases e)⟩
      | succ j =>
       cases h), Tryz.t171, rfl, rfl, fun _ _ => rfl⟩
theorem tn172 : TnOk Tryz.prog 172 (.st [.int .i64, .sl 3 (.int .i64), .sl 3 (.int .i64)]) := ⟨⟨_, Tryz.underlying172, Tryz.eqGuardType172, Tryz.stoodInHeld172, rfl, fun j τ h => by
    cases j with
    | zero => cases h; exact ⟨_, _, rfl, rfl, by decide, by decide, Tryz.underlying3, rfl, fun us h => by cases h⟩
    | succ j =>
     cases j with
     | zero => cases h; exact ⟨_, _, rfl, rfl, by decide, by decide, Tryz.underlying25, rfl, fun us h => by cases h⟩
     | succ j =>
      cases j with
      | zero => cases h; exact ⟨_, _, rfl, rfl, by decide, by decide, Tryz.underlying25, rfl, fun us h => by cases h⟩
      | succ j =>
       cases h⟩, (fun us hus fs hfs j τ h f hf => by
    cases hus
    rw [Tryz.underlying172] at hfs
    cases hfs
    cases j with
    | zero => cases h; cases hf; exact ⟨fun k e => by cases e; exact Tryz.underlying3, fun e => (by cases e), fun e => (by cases e)⟩
    | succ j =>
     cases j with
     | zero => cases h; cases hf; exact ⟨fun k e => (by cases e), fun e => (by cases e), fun e => (by cases e)⟩
     | succ j =>
      cases j with
      | zero => cases h; cases hf; exact ⟨fun k e => (by cases e), fun e => (by cases e), fun e => (by cases e)⟩
      | succ j =>
       cases h), Tryz.t172, rfl, rfl, fun _ _ => rfl⟩
theorem tn173 : TnOk Tryz.prog 173 (.fn [.st [.int .i64, .sl 159 (.st [.str, .int .i64, .sl 172 (.st [.int .i64, .sl 3 (.int .i64), .sl 3 (.int .i64)])]), .sl 164 (.st [.int .i64, .int .i64, .bool, .int .i64]), .sl 169 (.st [.sl 228 (.st [.int .i64, .int .i64]), .sl 25 (.sl 3 (.int .i64))]), .sl 3 (.int .i64)], .int .i64] (.bool)) := ⟨⟨_, _, _, Tryz.underlying173⟩, fun _ h => (by cases h), Tryz.t173, rfl, rfl, fun _ h => by cases h⟩
theorem tn174 : TnOk Tryz.prog 174 (.fn [.st [.str, .int .i64, .sl 172 (.st [.int .i64, .sl 3 (.int .i64), .sl 3 (.int .i64)])], .st [.str, .int .i64, .sl 172 (.st [.int .i64, .sl 3 (.int .i64), .sl 3 (.int .i64)])]] (.bool)) := ⟨⟨_, _, _, Tryz.underlying174⟩, fun _ h => (by cases h), Tryz.t174, rfl, rfl, fun _ h => by cases h⟩
theorem tn175 : TnOk Tryz.prog 175 (.fn [.st [.int .i64, .int .i64, .bool, .int .i64], .st [.int .i64, .int .i64, .bool, .int .i64]] (.bool)) := ⟨⟨_, _, _, Tryz.underlying175⟩, fun _ h => (by cases h), Tryz.t175, rfl, rfl, fun _ h => by cases h⟩
theorem tn176 : TnOk Tryz.prog 176 (.fn [.st [.sl 228 (.st [.int .i64, .int .i64]), .sl 25 (.sl 3 (.int .i64))], .st [.sl 228 (.st [.int .i64, .int .i64]), .sl 25 (.sl 3 (.int .i64))]] (.bool)) := ⟨⟨_, _, _, Tryz.underlying176⟩, fun _ h => (by cases h), Tryz.t176, rfl, rfl, fun _ h => by cases h⟩
theorem tn177 : TnOk Tryz.prog 177 (.fn [.st [.int .i64, .sl 159 (.st [.str, .int .i64, .sl 172 (.st [.int .i64, .sl 3 (.int .i64), .sl 3 (.int .i64)])]), .sl 164 (.st [.int .i64, .int .i64, .bool, .int .i64]), .sl 169 (.st [.sl 228 (.st [.int .i64, .int .i64]), .sl 25 (.sl 3 (.int .i64))]), .sl 3 (.int .i64)], .st [.int .i64, .int .i64, .int .i64]] (.bool)) := ⟨⟨_, _, _, Tryz.underlying177⟩, fun _ h => (by cases h), Tryz.t177, rfl, rfl, fun _ h => by cases h⟩
theorem tn178 : TnOk Tryz.prog 178 (.fn [.st [.int .i64, .int .i64, .int .i64], .st [.int .i64, .int .i64, .int .i64]] (.int .i64)) := ⟨⟨_, _, _, Tryz.underlying178⟩, fun _ h => (by cases h), Tryz.t178, rfl, rfl, fun _ h => by cases h⟩
theorem tn179 : TnOk Tryz.prog 179 (.fn [.st [.int .i64, .sl 159 (.st [.str, .int .i64, .sl 172 (.st [.int .i64, .sl 3 (.int .i64), .sl 3 (.int .i64)])]), .sl 164 (.st [.int .i64, .int .i64, .bool, .int .i64]), .sl 169 (.st [.sl 228 (.st [.int .i64, .int .i64]), .sl 25 (.sl 3 (.int .i64))]), .sl 3 (.int .i64)], .st [.int .i64, .int .i64, .int .i64, .int .i64]] (.bool)) := ⟨⟨_, _, _, Tryz.underlying179⟩, fun _ h => (by cases h), Tryz.t179, rfl, rfl, fun _ h => by cases h⟩
theorem tn180 : TnOk Tryz.prog 180 (.fn [.st [.int .i64, .sl 159 (.st [.str, .int .i64, .sl 172 (.st [.int .i64, .sl 3 (.int .i64), .sl 3 (.int .i64)])]), .sl 164 (.st [.int .i64, .int .i64, .bool, .int .i64]), .sl 169 (.st [.sl 228 (.st [.int .i64, .int .i64]), .sl 25 (.sl 3 (.int .i64))]), .sl 3 (.int .i64)]] (.bool)) := ⟨⟨_, _, _, Tryz.underlying180⟩, fun _ h => (by cases h), Tryz.t180, rfl, rfl, fun _ h => by cases h⟩
theorem tn181 : TnOk Tryz.prog 181 (.fn [.st [.sl 3 (.int .i64), .sl 3 (.int .i64), .sl 25 (.sl 3 (.int .i64))], .sl 111 (.st [.int .i64, .int .i64, .int .i64])] (.st [.sl 3 (.int .i64), .sl 3 (.int .i64), .sl 25 (.sl 3 (.int .i64))])) := ⟨⟨_, _, _, Tryz.underlying181⟩, fun _ h => (by cases h), Tryz.t181, rfl, rfl, fun _ h => by cases h⟩
theorem tn182 : TnOk Tryz.prog 182 (.fn [.st [.int .i64, .sl 159 (.st [.str, .int .i64, .sl 172 (.st [.int .i64, .sl 3 (.int .i64), .sl 3 (.int .i64)])]), .sl 164 (.st [.int .i64, .int .i64, .bool, .int .i64]), .sl 169 (.st [.sl 228 (.st [.int .i64, .int .i64]), .sl 25 (.sl 3 (.int .i64))]), .sl 3 (.int .i64)]] (.st [.sl 3 (.int .i64), .sl 3 (.int .i64), .sl 25 (.sl 3 (.int .i64))])) := ⟨⟨_, _, _, Tryz.underlying182⟩, fun _ h => (by cases h), Tryz.t182, rfl, rfl, fun _ h => by cases h⟩
theorem tn183 : TnOk Tryz.prog 183 (.fn [.st [.sl 3 (.int .i64), .sl 3 (.int .i64), .sl 25 (.sl 3 (.int .i64))], .st [.int .i64, .int .i64, .bool, .int .i64]] (.bool)) := ⟨⟨_, _, _, Tryz.underlying183⟩, fun _ h => (by cases h), Tryz.t183, rfl, rfl, fun _ h => by cases h⟩
theorem tn184 : TnOk Tryz.prog 184 (.fn [.st [.sl 3 (.int .i64), .sl 3 (.int .i64), .sl 25 (.sl 3 (.int .i64))], .int .i64, .int .i64] (.int .i64)) := ⟨⟨_, _, _, Tryz.underlying184⟩, fun _ h => (by cases h), Tryz.t184, rfl, rfl, fun _ h => by cases h⟩
theorem tn185 : TnOk Tryz.prog 185 (.fn [.sl 228 (.st [.int .i64, .int .i64]), .int .i64] (.int .i64)) := ⟨⟨_, _, _, Tryz.underlying185⟩, fun _ h => (by cases h), Tryz.t185, rfl, rfl, fun _ h => by cases h⟩
theorem tn186 : TnOk Tryz.prog 186 (.fn [.st [.int .i64, .sl 159 (.st [.str, .int .i64, .sl 172 (.st [.int .i64, .sl 3 (.int .i64), .sl 3 (.int .i64)])]), .sl 164 (.st [.int .i64, .int .i64, .bool, .int .i64]), .sl 169 (.st [.sl 228 (.st [.int .i64, .int .i64]), .sl 25 (.sl 3 (.int .i64))]), .sl 3 (.int .i64)], .st [.sl 3 (.int .i64), .sl 3 (.int .i64), .sl 25 (.sl 3 (.int .i64))], .int .i64, .int .i64, .int .i64] (.bool)) := ⟨⟨_, _, _, Tryz.underlying186⟩, fun _ h => (by cases h), Tryz.t186, rfl, rfl, fun _ h => by cases h⟩
theorem tn187 : TnOk Tryz.prog 187 (.fn [.st [.sl 3 (.int .i64), .sl 3 (.int .i64), .sl 25 (.sl 3 (.int .i64))], .int .i64] (.bool)) := ⟨⟨_, _, _, Tryz.underlying187⟩, fun _ h => (by cases h), Tryz.t187, rfl, rfl, fun _ h => by cases h⟩
theorem tn188 : TnOk Tryz.prog 188 (.fn [.st [.int .i64, .int .i64, .int .i64]] (.st [.int .i64, .int .i64, .int .i64])) := ⟨⟨_, _, _, Tryz.underlying188⟩, fun _ h => (by cases h), Tryz.t188, rfl, rfl, fun _ h => by cases h⟩
theorem tn197 : TnOk Tryz.prog 197 (.fn [.sl 3 (.int .i64)] (.bool)) := ⟨⟨_, _, _, Tryz.underlying197⟩, fun _ h => (by cases h), Tryz.t197, rfl, rfl, fun _ h => by cases h⟩
theorem tn198 : TnOk Tryz.prog 198 (.fn [.st [.str, .int .i64, .sl 172 (.st [.int .i64, .sl 3 (.int .i64), .sl 3 (.int .i64)])]] (.sl 3 (.int .i64))) := ⟨⟨_, _, _, Tryz.underlying198⟩, fun _ h => (by cases h), Tryz.t198, rfl, rfl, fun _ h => by cases h⟩
theorem tn199 : TnOk Tryz.prog 199 (.fn [.int .i64] (.int .i64)) := ⟨⟨_, _, _, Tryz.underlying199⟩, fun _ h => (by cases h), Tryz.t199, rfl, rfl, fun _ h => by cases h⟩
theorem tn200 : TnOk Tryz.prog 200 (.fn [.sl 3 (.int .i64), .sl 3 (.int .i64)] (.sl 3 (.int .i64))) := ⟨⟨_, _, _, Tryz.underlying200⟩, fun _ h => (by cases h), Tryz.t200, rfl, rfl, fun _ h => by cases h⟩
theorem tn201 : TnOk Tryz.prog 201 (.fn [.sl 25 (.sl 3 (.int .i64)), .fn [.sl 3 (.int .i64)] (.bool)] (.bool)) := ⟨⟨_, _, _, Tryz.underlying201⟩, fun _ h => (by cases h), Tryz.t201, rfl, rfl, fun _ h => by cases h⟩
theorem tn203 : TnOk Tryz.prog 203 (.fn [.sl 3 (.int .i64), .fn [.int .i64] (.bool)] (.sl 3 (.int .i64))) := ⟨⟨_, _, _, Tryz.underlying203⟩, fun _ h => (by cases h), Tryz.t203, rfl, rfl, fun _ h => by cases h⟩
theorem tn206 : TnOk Tryz.prog 206 (.fn [.sl 242 (.st [.int .i64, .sl 3 (.int .i64), .sl 3 (.int .i64)]), .int .i64] (.int .i64)) := ⟨⟨_, _, _, Tryz.underlying206⟩, fun _ h => (by cases h), Tryz.t206, rfl, rfl, fun _ h => by cases h⟩
theorem tn207 : TnOk Tryz.prog 207 (.fn [.sl 247 (.st [.int .i64, .int .i64]), .int .i64] (.int .i64)) := ⟨⟨_, _, _, Tryz.underlying207⟩, fun _ h => (by cases h), Tryz.t207, rfl, rfl, fun _ h => by cases h⟩
theorem tn208 : TnOk Tryz.prog 208 (.fn [.int .i64] (.sl 3 (.int .i64))) := ⟨⟨_, _, _, Tryz.underlying208⟩, fun _ h => (by cases h), Tryz.t208, rfl, rfl, fun _ h => by cases h⟩
theorem tn210 : TnOk Tryz.prog 210 (.fn [.sl 242 (.st [.int .i64, .sl 3 (.int .i64), .sl 3 (.int .i64)])] (.sl 172 (.st [.int .i64, .sl 3 (.int .i64), .sl 3 (.int .i64)]))) := ⟨⟨_, _, _, Tryz.underlying210⟩, fun _ h => (by cases h), Tryz.t210, rfl, rfl, fun _ h => by cases h⟩
theorem tn211 : TnOk Tryz.prog 211 (.fn [.sl 247 (.st [.int .i64, .int .i64])] (.sl 228 (.st [.int .i64, .int .i64]))) := ⟨⟨_, _, _, Tryz.underlying211⟩, fun _ h => (by cases h), Tryz.t211, rfl, rfl, fun _ h => by cases h⟩
theorem tn214 : TnOk Tryz.prog 214 (.fn [.sl 172 (.st [.int .i64, .sl 3 (.int .i64), .sl 3 (.int .i64)]), .sl 172 (.st [.int .i64, .sl 3 (.int .i64), .sl 3 (.int .i64)])] (.bool)) := ⟨⟨_, _, _, Tryz.underlying214⟩, fun _ h => (by cases h), Tryz.t214, rfl, rfl, fun _ h => by cases h⟩
theorem tn215 : TnOk Tryz.prog 215 (.fn [.sl 228 (.st [.int .i64, .int .i64]), .sl 228 (.st [.int .i64, .int .i64])] (.bool)) := ⟨⟨_, _, _, Tryz.underlying215⟩, fun _ h => (by cases h), Tryz.t215, rfl, rfl, fun _ h => by cases h⟩
theorem tn216 : TnOk Tryz.prog 216 (.fn [.st [.int .i64, .sl 159 (.st [.str, .int .i64, .sl 172 (.st [.int .i64, .sl 3 (.int .i64), .sl 3 (.int .i64)])]), .sl 164 (.st [.int .i64, .int .i64, .bool, .int .i64]), .sl 169 (.st [.sl 228 (.st [.int .i64, .int .i64]), .sl 25 (.sl 3 (.int .i64))]), .sl 3 (.int .i64)], .st [.sl 3 (.int .i64), .sl 3 (.int .i64), .sl 25 (.sl 3 (.int .i64))], .int .i64] (.int .i64)) := ⟨⟨_, _, _, Tryz.underlying216⟩, fun _ h => (by cases h), Tryz.t216, rfl, rfl, fun _ h => by cases h⟩
theorem tn217 : TnOk Tryz.prog 217 (.fn [.st [.int .i64, .sl 159 (.st [.str, .int .i64, .sl 172 (.st [.int .i64, .sl 3 (.int .i64), .sl 3 (.int .i64)])]), .sl 164 (.st [.int .i64, .int .i64, .bool, .int .i64]), .sl 169 (.st [.sl 228 (.st [.int .i64, .int .i64]), .sl 25 (.sl 3 (.int .i64))]), .sl 3 (.int .i64)], .st [.sl 3 (.int .i64), .sl 3 (.int .i64), .sl 25 (.sl 3 (.int .i64))], .int .i64, .int .i64] (.int .i64)) := ⟨⟨_, _, _, Tryz.underlying217⟩, fun _ h => (by cases h), Tryz.t217, rfl, rfl, fun _ h => by cases h⟩
theorem tn218 : TnOk Tryz.prog 218 (.fn [.st [.int .i64, .sl 159 (.st [.str, .int .i64, .sl 172 (.st [.int .i64, .sl 3 (.int .i64), .sl 3 (.int .i64)])]), .sl 164 (.st [.int .i64, .int .i64, .bool, .int .i64]), .sl 169 (.st [.sl 228 (.st [.int .i64, .int .i64]), .sl 25 (.sl 3 (.int .i64))]), .sl 3 (.int .i64)], .st [.sl 3 (.int .i64), .sl 3 (.int .i64), .sl 25 (.sl 3 (.int .i64))], .int .i64] (.bool)) := ⟨⟨_, _, _, Tryz.underlying218⟩, fun _ h => (by cases h), Tryz.t218, rfl, rfl, fun _ h => by cases h⟩
theorem tn219 : TnOk Tryz.prog 219 (.fn [.st [.str, .int .i64, .sl 172 (.st [.int .i64, .sl 3 (.int .i64), .sl 3 (.int .i64)])], .int .i64, .int .i64] (.bool)) := ⟨⟨_, _, _, Tryz.underlying219⟩, fun _ h => (by cases h), Tryz.t219, rfl, rfl, fun _ h => by cases h⟩
theorem tn220 : TnOk Tryz.prog 220 (.fn [.st [.int .i64, .sl 159 (.st [.str, .int .i64, .sl 172 (.st [.int .i64, .sl 3 (.int .i64), .sl 3 (.int .i64)])]), .sl 164 (.st [.int .i64, .int .i64, .bool, .int .i64]), .sl 169 (.st [.sl 228 (.st [.int .i64, .int .i64]), .sl 25 (.sl 3 (.int .i64))]), .sl 3 (.int .i64)], .str] (.int .i64)) := ⟨⟨_, _, _, Tryz.underlying220⟩, fun _ h => (by cases h), Tryz.t220, rfl, rfl, fun _ h => by cases h⟩
theorem tn221 : TnOk Tryz.prog 221 (.fn [.st [.sl 228 (.st [.int .i64, .int .i64]), .sl 25 (.sl 3 (.int .i64))]] (.bool)) := ⟨⟨_, _, _, Tryz.underlying221⟩, fun _ h => (by cases h), Tryz.t221, rfl, rfl, fun _ h => by cases h⟩
theorem tn223 : TnOk Tryz.prog 223 (.fn [.st [.str, .int .i64, .sl 172 (.st [.int .i64, .sl 3 (.int .i64), .sl 3 (.int .i64)])], .sl 3 (.int .i64)] (.int .i64)) := ⟨⟨_, _, _, Tryz.underlying223⟩, fun _ h => (by cases h), Tryz.t223, rfl, rfl, fun _ h => by cases h⟩
theorem tn225 : TnOk Tryz.prog 225 (.fn [.st [.sl 3 (.int .i64), .sl 3 (.int .i64), .sl 25 (.sl 3 (.int .i64))], .int .i64] (.tup [.int .i64, .int .i64])) := ⟨⟨_, _, _, Tryz.underlying225⟩, fun _ h => (by cases h), Tryz.t225, rfl, rfl, fun _ h => by cases h⟩
theorem tn226 : TnOk Tryz.prog 226 (.fn [.st [.str, .int .i64, .sl 172 (.st [.int .i64, .sl 3 (.int .i64), .sl 3 (.int .i64)])], .sl 3 (.int .i64), .int .i64] (.int .i64)) := ⟨⟨_, _, _, Tryz.underlying226⟩, fun _ h => (by cases h), Tryz.t226, rfl, rfl, fun _ h => by cases h⟩
theorem tn227 : TnOk Tryz.prog 227 (.st [.int .i64, .int .i64]) := ⟨⟨_, Tryz.underlying227, Tryz.eqGuardType227, Tryz.stoodInHeld227, rfl, fun j τ h => by
    cases j with
    | zero => cases h; exact ⟨_, _, rfl, rfl, by decide, by decide, Tryz.underlying3, rfl, fun us h => by cases h⟩
    | succ j =>
     cases j with
     | zero => cases h; exact ⟨_, _, rfl, rfl, by decide, by decide, Tryz.underlying3, rfl, fun us h => by cases h⟩
     | succ j =>
      cases h⟩, (fun us hus fs hfs j τ h f hf => by
    cases hus
    rw [Tryz.underlying227] at hfs
    cases hfs
    cases j with
    | zero => cases h; cases hf; exact ⟨fun k e => by cases e; exact Tryz.underlying3, fun e => (by cases e), fun e => (by cases e)⟩
    | succ j =>
     cases j with
     | zero => cases h; cases hf; exact ⟨fun k e => by cases e; exact Tryz.underlying3, fun e => (by cases e), fun e => (by cases e)⟩
     | succ j =>
      cases h), Tryz.t227, rfl, rfl, fun _ _ => rfl⟩
theorem tn228 : TnOk Tryz.prog 228 (.st [.int .i64, .int .i64]) := ⟨⟨_, Tryz.underlying228, Tryz.eqGuardType228, Tryz.stoodInHeld228, rfl, fun j τ h => by
    cases j with
    | zero => cases h; exact ⟨_, _, rfl, rfl, by decide, by decide, Tryz.underlying3, rfl, fun us h => by cases h⟩
    | succ j =>
     cases j with
     | zero => cases h; exact ⟨_, _, rfl, rfl, by decide, by decide, Tryz.underlying3, rfl, fun us h => by cases h⟩
     | succ j =>
      cases h⟩, (fun us hus fs hfs j τ h f hf => by
    cases hus
    rw [Tryz.underlying228] at hfs
    cases hfs
    cases j with
    | zero => cases h; cases hf; exact ⟨fun k e => by cases e; exact Tryz.underlying3, fun e => (by cases e), fun e => (by cases e)⟩
    | succ j =>
     cases j with
     | zero => cases h; cases hf; exact ⟨fun k e => by cases e; exact Tryz.underlying3, fun e => (by cases e), fun e => (by cases e)⟩
     | succ j =>
      cases h), Tryz.t228, rfl, rfl, fun _ _ => rfl⟩
theorem tn229 : TnOk Tryz.prog 229 (.fn [.st [.sl 3 (.int .i64), .sl 3 (.int .i64), .sl 25 (.sl 3 (.int .i64))], .int .i64, .int .i64, .int .i64] (.int .i64)) := ⟨⟨_, _, _, Tryz.underlying229⟩, fun _ h => (by cases h), Tryz.t229, rfl, rfl, fun _ h => by cases h⟩
theorem tn230 : TnOk Tryz.prog 230 (.fn [.sl 228 (.st [.int .i64, .int .i64]), .int .i64, .int .i64] (.int .i64)) := ⟨⟨_, _, _, Tryz.underlying230⟩, fun _ h => (by cases h), Tryz.t230, rfl, rfl, fun _ h => by cases h⟩
theorem tn236 : TnOk Tryz.prog 236 (.fn [.sl 164 (.st [.int .i64, .int .i64, .bool, .int .i64]), .fn [.st [.int .i64, .int .i64, .bool, .int .i64]] (.bool)] (.bool)) := ⟨⟨_, _, _, Tryz.underlying236⟩, fun _ h => (by cases h), Tryz.t236, rfl, rfl, fun _ h => by cases h⟩
theorem tn237 : TnOk Tryz.prog 237 (.fn [.st [.int .i64, .int .i64, .bool, .int .i64]] (.bool)) := ⟨⟨_, _, _, Tryz.underlying237⟩, fun _ h => (by cases h), Tryz.t237, rfl, rfl, fun _ h => by cases h⟩
theorem tn238 : TnOk Tryz.prog 238 (.fn [.sl 25 (.sl 3 (.int .i64)), .fn [.sl 3 (.int .i64)] (.bool)] (.int .i64)) := ⟨⟨_, _, _, Tryz.underlying238⟩, fun _ h => (by cases h), Tryz.t238, rfl, rfl, fun _ h => by cases h⟩
theorem tn241 : TnOk Tryz.prog 241 (.fn [.st [.int .i64, .sl 3 (.int .i64), .sl 3 (.int .i64)], .int .i64] (.int .i64)) := ⟨⟨_, _, _, Tryz.underlying241⟩, fun _ h => (by cases h), Tryz.t241, rfl, rfl, fun _ h => by cases h⟩
theorem tn242 : TnOk Tryz.prog 242 (.st [.int .i64, .sl 3 (.int .i64), .sl 3 (.int .i64)]) := ⟨⟨_, Tryz.underlying242, Tryz.eqGuardType242, Tryz.stoodInHeld242, rfl, fun j τ h => by
    cases j with
    | zero => cases h; exact ⟨_, _, rfl, rfl, by decide, by decide, Tryz.underlying3, rfl, fun us h => by cases h⟩
    | succ j =>
     cases j with
     | zero => cases h; exact ⟨_, _, rfl, rfl, by decide, by decide, Tryz.underlying25, rfl, fun us h => by cases h⟩
     | succ j =>
      cases j with
      | zero => cases h; exact ⟨_, _, rfl, rfl, by decide, by decide, Tryz.underlying25, rfl, fun us h => by cases h⟩
      | succ j =>
       cases h⟩, (fun us hus fs hfs j τ h f hf => by
    cases hus
    rw [Tryz.underlying242] at hfs
    cases hfs
    cases j with
    | zero => cases h; cases hf; exact ⟨fun k e => by cases e; exact Tryz.underlying3, fun e => (by cases e), fun e => (by cases e)⟩
    | succ j =>
     cases j with
     | zero => cases h; cases hf; exact ⟨fun k e => (by cases e), fun e => (by cases e), fun e => (by cases e)⟩
     | succ j =>
      cases j with
      | zero => cases h; cases hf; exact ⟨fun k e => (by cases e), fun e => (by cases e), fun e => (by cases e)⟩
      | succ j =>
       cases h), Tryz.t242, rfl, rfl, fun _ _ => rfl⟩
theorem tn243 : TnOk Tryz.prog 243 (.fn [.sl 228 (.st [.int .i64, .int .i64])] (.bool)) := ⟨⟨_, _, _, Tryz.underlying243⟩, fun _ h => (by cases h), Tryz.t243, rfl, rfl, fun _ h => by cases h⟩
theorem tn245 : TnOk Tryz.prog 245 (.fn [.st [.int .i64, .sl 3 (.int .i64), .sl 3 (.int .i64)]] (.st [.int .i64, .sl 3 (.int .i64), .sl 3 (.int .i64)])) := ⟨⟨_, _, _, Tryz.underlying245⟩, fun _ h => (by cases h), Tryz.t245, rfl, rfl, fun _ h => by cases h⟩
theorem tn246 : TnOk Tryz.prog 246 (.fn [.st [.int .i64, .int .i64]] (.st [.int .i64, .int .i64])) := ⟨⟨_, _, _, Tryz.underlying246⟩, fun _ h => (by cases h), Tryz.t246, rfl, rfl, fun _ h => by cases h⟩
theorem tn247 : TnOk Tryz.prog 247 (.st [.int .i64, .int .i64]) := ⟨⟨_, Tryz.underlying247, Tryz.eqGuardType247, Tryz.stoodInHeld247, rfl, fun j τ h => by
    cases j with
    | zero => cases h; exact ⟨_, _, rfl, rfl, by decide, by decide, Tryz.underlying3, rfl, fun us h => by cases h⟩
    | succ j =>
     cases j with
     | zero => cases h; exact ⟨_, _, rfl, rfl, by decide, by decide, Tryz.underlying3, rfl, fun us h => by cases h⟩
     | succ j =>
      cases h⟩, (fun us hus fs hfs j τ h f hf => by
    cases hus
    rw [Tryz.underlying247] at hfs
    cases hfs
    cases j with
    | zero => cases h; cases hf; exact ⟨fun k e => by cases e; exact Tryz.underlying3, fun e => (by cases e), fun e => (by cases e)⟩
    | succ j =>
     cases j with
     | zero => cases h; cases hf; exact ⟨fun k e => by cases e; exact Tryz.underlying3, fun e => (by cases e), fun e => (by cases e)⟩
     | succ j =>
      cases h), Tryz.t247, rfl, rfl, fun _ _ => rfl⟩
theorem tn248 : TnOk Tryz.prog 248 (.fn [.st [.int .i64, .sl 159 (.st [.str, .int .i64, .sl 172 (.st [.int .i64, .sl 3 (.int .i64), .sl 3 (.int .i64)])]), .sl 164 (.st [.int .i64, .int .i64, .bool, .int .i64]), .sl 169 (.st [.sl 228 (.st [.int .i64, .int .i64]), .sl 25 (.sl 3 (.int .i64))]), .sl 3 (.int .i64)], .int .i64, .int .i64, .int .i64] (.int .i64)) := ⟨⟨_, _, _, Tryz.underlying248⟩, fun _ h => (by cases h), Tryz.t248, rfl, rfl, fun _ h => by cases h⟩
theorem tn249 : TnOk Tryz.prog 249 (.fn [.st [.int .i64, .sl 3 (.int .i64), .sl 3 (.int .i64)], .st [.int .i64, .sl 3 (.int .i64), .sl 3 (.int .i64)]] (.bool)) := ⟨⟨_, _, _, Tryz.underlying249⟩, fun _ h => (by cases h), Tryz.t249, rfl, rfl, fun _ h => by cases h⟩
theorem tn250 : TnOk Tryz.prog 250 (.fn [.st [.int .i64, .int .i64], .st [.int .i64, .int .i64]] (.bool)) := ⟨⟨_, _, _, Tryz.underlying250⟩, fun _ h => (by cases h), Tryz.t250, rfl, rfl, fun _ h => by cases h⟩
theorem tn251 : TnOk Tryz.prog 251 (.fn [.st [.int .i64, .sl 159 (.st [.str, .int .i64, .sl 172 (.st [.int .i64, .sl 3 (.int .i64), .sl 3 (.int .i64)])]), .sl 164 (.st [.int .i64, .int .i64, .bool, .int .i64]), .sl 169 (.st [.sl 228 (.st [.int .i64, .int .i64]), .sl 25 (.sl 3 (.int .i64))]), .sl 3 (.int .i64)], .st [.sl 3 (.int .i64), .sl 3 (.int .i64), .sl 25 (.sl 3 (.int .i64))], .int .i64, .int .i64, .int .i64, .int .i64] (.int .i64)) := ⟨⟨_, _, _, Tryz.underlying251⟩, fun _ h => (by cases h), Tryz.t251, rfl, rfl, fun _ h => by cases h⟩
theorem tn252 : TnOk Tryz.prog 252 (.fn [.st [.int .i64, .sl 159 (.st [.str, .int .i64, .sl 172 (.st [.int .i64, .sl 3 (.int .i64), .sl 3 (.int .i64)])]), .sl 164 (.st [.int .i64, .int .i64, .bool, .int .i64]), .sl 169 (.st [.sl 228 (.st [.int .i64, .int .i64]), .sl 25 (.sl 3 (.int .i64))]), .sl 3 (.int .i64)], .st [.sl 3 (.int .i64), .sl 3 (.int .i64), .sl 25 (.sl 3 (.int .i64))], .int .i64, .int .i64, .int .i64] (.int .i64)) := ⟨⟨_, _, _, Tryz.underlying252⟩, fun _ h => (by cases h), Tryz.t252, rfl, rfl, fun _ h => by cases h⟩
theorem tn253 : TnOk Tryz.prog 253 (.fn [.st [.int .i64, .sl 3 (.int .i64), .sl 3 (.int .i64)], .int .i64, .int .i64] (.bool)) := ⟨⟨_, _, _, Tryz.underlying253⟩, fun _ h => (by cases h), Tryz.t253, rfl, rfl, fun _ h => by cases h⟩
theorem tn254 : TnOk Tryz.prog 254 (.fn [.str] (.bool)) := ⟨⟨_, _, _, Tryz.underlying254⟩, fun _ h => (by cases h), Tryz.t254, rfl, rfl, fun _ h => by cases h⟩
theorem tn255 : TnOk Tryz.prog 255 (.fn [.st [.str, .int .i64, .sl 172 (.st [.int .i64, .sl 3 (.int .i64), .sl 3 (.int .i64)])], .sl 3 (.int .i64)] (.sl 172 (.st [.int .i64, .sl 3 (.int .i64), .sl 3 (.int .i64)]))) := ⟨⟨_, _, _, Tryz.underlying255⟩, fun _ h => (by cases h), Tryz.t255, rfl, rfl, fun _ h => by cases h⟩
theorem tn256 : TnOk Tryz.prog 256 (.fn [.sl 172 (.st [.int .i64, .sl 3 (.int .i64), .sl 3 (.int .i64)]), .fn [.st [.int .i64, .sl 3 (.int .i64), .sl 3 (.int .i64)]] (.tup [.int .i64, .bool])] (.int .i64)) := ⟨⟨_, _, _, Tryz.underlying256⟩, fun _ h => (by cases h), Tryz.t256, rfl, rfl, fun _ h => by cases h⟩
theorem tn257 : TnOk Tryz.prog 257 (.fn [.sl 3 (.int .i64), .int .i64] (.tup [.int .i64, .bool])) := ⟨⟨_, _, _, Tryz.underlying257⟩, fun _ h => (by cases h), Tryz.t257, rfl, rfl, fun _ h => by cases h⟩
theorem tn258 : TnOk Tryz.prog 258 (.fn [.st [.int .i64, .sl 3 (.int .i64), .sl 3 (.int .i64)]] (.tup [.int .i64, .bool])) := ⟨⟨_, _, _, Tryz.underlying258⟩, fun _ h => (by cases h), Tryz.t258, rfl, rfl, fun _ h => by cases h⟩
theorem tn259 : TnOk Tryz.prog 259 (.fn [.st [.sl 3 (.int .i64), .sl 3 (.int .i64), .sl 25 (.sl 3 (.int .i64))], .int .i64, .int .i64, .int .i64, .int .i64] (.int .i64)) := ⟨⟨_, _, _, Tryz.underlying259⟩, fun _ h => (by cases h), Tryz.t259, rfl, rfl, fun _ h => by cases h⟩
theorem tn265 : TnOk Tryz.prog 265 (.fn [.sl 159 (.st [.str, .int .i64, .sl 172 (.st [.int .i64, .sl 3 (.int .i64), .sl 3 (.int .i64)])]), .fn [.st [.str, .int .i64, .sl 172 (.st [.int .i64, .sl 3 (.int .i64), .sl 3 (.int .i64)])]] (.bool)] (.int .i64)) := ⟨⟨_, _, _, Tryz.underlying265⟩, fun _ h => (by cases h), Tryz.t265, rfl, rfl, fun _ h => by cases h⟩
theorem tn266 : TnOk Tryz.prog 266 (.fn [.st [.str, .int .i64, .sl 172 (.st [.int .i64, .sl 3 (.int .i64), .sl 3 (.int .i64)])]] (.bool)) := ⟨⟨_, _, _, Tryz.underlying266⟩, fun _ h => (by cases h), Tryz.t266, rfl, rfl, fun _ h => by cases h⟩
theorem tn267 : TnOk Tryz.prog 267 (.fn [.sl 164 (.st [.int .i64, .int .i64, .bool, .int .i64]), .fn [.st [.int .i64, .int .i64, .bool, .int .i64]] (.bool)] (.int .i64)) := ⟨⟨_, _, _, Tryz.underlying267⟩, fun _ h => (by cases h), Tryz.t267, rfl, rfl, fun _ h => by cases h⟩
theorem tn268 : TnOk Tryz.prog 268 (.fn [.sl 228 (.st [.int .i64, .int .i64]), .int .i64, .int .i64] (.bool)) := ⟨⟨_, _, _, Tryz.underlying268⟩, fun _ h => (by cases h), Tryz.t268, rfl, rfl, fun _ h => by cases h⟩
theorem tn269 : TnOk Tryz.prog 269 (.fn [.int .i64, .int .i64, .int .i64, .int .i64] (.int .i64)) := ⟨⟨_, _, _, Tryz.underlying269⟩, fun _ h => (by cases h), Tryz.t269, rfl, rfl, fun _ h => by cases h⟩
theorem tn270 : TnOk Tryz.prog 270 (.fn [.st [.str, .int .i64, .sl 172 (.st [.int .i64, .sl 3 (.int .i64), .sl 3 (.int .i64)])], .sl 3 (.int .i64), .int .i64, .bool, .bool] (.int .i64)) := ⟨⟨_, _, _, Tryz.underlying270⟩, fun _ h => (by cases h), Tryz.t270, rfl, rfl, fun _ h => by cases h⟩
def sg_ (h : Hd) (f : Ty.dens h.ps → Ty.dens h.cs → Option (h.R.den × ioT h.ps h.io)) : FSig := ⟨h.ps, h.cs, h.io, h.im, h.R, h.m, f⟩
theorem e_k {M : Go.Program} {n : Go.FuncId} {a b : FSig} (e : a = b) (h : SigOk M n a) : SigOk M n b := e ▸ h
def y_7 : Ty := .st [.int .i64, .int .i64, .bool, .int .i64]
def y_6 : Ty := .st [.int .i64, .sl 3 (.int .i64), .sl 3 (.int .i64)]
def y_4 : Ty := .st [.sl 228 (.st [.int .i64, .int .i64]), .sl 25 (.sl 3 (.int .i64))]
def y_5 : Ty := .st [.sl 3 (.int .i64), .sl 3 (.int .i64), .sl 25 (.sl 3 (.int .i64))]
def y_2 : Ty := .st [.str, .int .i64, .sl 242 (y_6)]
def y_3 : Ty := .st [.str, .int .i64, .sl 172 (y_6)]
def y_0 : Ty := .st [.int .i64, .sl 150 (y_2), .sl 166 (y_7), .sl 154 (.st [.sl 247 (.st [.int .i64, .int .i64]), .sl 25 (.sl 3 (.int .i64))]), .sl 3 (.int .i64)]
def y_1 : Ty := .st [.int .i64, .sl 159 (y_3), .sl 164 (y_7), .sl 169 (y_4), .sl 3 (.int .i64)]
def tys : List (Nat × Ty) := [(3, .int .i64), (4, .bool), (5, .int .u8), (9, .str), (22, .sl 150 (.st [.str, .int .i64, .sl 242 (.st [.int .i64, .sl 3 (.int .i64), .sl 3 (.int .i64)])])), (23, .sl 166 (.st [.int .i64, .int .i64, .bool, .int .i64])), (24, .sl 154 (.st [.sl 247 (.st [.int .i64, .int .i64]), .sl 25 (.sl 3 (.int .i64))])), (25, .sl 3 (.int .i64)), (26, .st [.int .i64, .sl 150 (.st [.str, .int .i64, .sl 242 (.st [.int .i64, .sl 3 (.int .i64), .sl 3 (.int .i64)])]), .sl 166 (.st [.int .i64, .int .i64, .bool, .int .i64]), .sl 154 (.st [.sl 247 (.st [.int .i64, .int .i64]), .sl 25 (.sl 3 (.int .i64))]), .sl 3 (.int .i64)]), (27, .st [.int .i64, .sl 150 (.st [.str, .int .i64, .sl 242 (.st [.int .i64, .sl 3 (.int .i64), .sl 3 (.int .i64)])]), .sl 166 (.st [.int .i64, .int .i64, .bool, .int .i64]), .sl 154 (.st [.sl 247 (.st [.int .i64, .int .i64]), .sl 25 (.sl 3 (.int .i64))]), .sl 3 (.int .i64)]), (32, .fn [.st [.int .i64, .sl 150 (.st [.str, .int .i64, .sl 242 (.st [.int .i64, .sl 3 (.int .i64), .sl 3 (.int .i64)])]), .sl 166 (.st [.int .i64, .int .i64, .bool, .int .i64]), .sl 154 (.st [.sl 247 (.st [.int .i64, .int .i64]), .sl 25 (.sl 3 (.int .i64))]), .sl 3 (.int .i64)], .int .i64] (.int .i64)), (36, .sl 159 (.st [.str, .int .i64, .sl 172 (.st [.int .i64, .sl 3 (.int .i64), .sl 3 (.int .i64)])])), (37, .sl 164 (.st [.int .i64, .int .i64, .bool, .int .i64])), (38, .sl 169 (.st [.sl 228 (.st [.int .i64, .int .i64]), .sl 25 (.sl 3 (.int .i64))])), (39, .st [.int .i64, .sl 159 (.st [.str, .int .i64, .sl 172 (.st [.int .i64, .sl 3 (.int .i64), .sl 3 (.int .i64)])]), .sl 164 (.st [.int .i64, .int .i64, .bool, .int .i64]), .sl 169 (.st [.sl 228 (.st [.int .i64, .int .i64]), .sl 25 (.sl 3 (.int .i64))]), .sl 3 (.int .i64)]), (40, .st [.int .i64, .sl 159 (.st [.str, .int .i64, .sl 172 (.st [.int .i64, .sl 3 (.int .i64), .sl 3 (.int .i64)])]), .sl 164 (.st [.int .i64, .int .i64, .bool, .int .i64]), .sl 169 (.st [.sl 228 (.st [.int .i64, .int .i64]), .sl 25 (.sl 3 (.int .i64))]), .sl 3 (.int .i64)]), (41, .fn [.st [.int .i64, .sl 150 (.st [.str, .int .i64, .sl 242 (.st [.int .i64, .sl 3 (.int .i64), .sl 3 (.int .i64)])]), .sl 166 (.st [.int .i64, .int .i64, .bool, .int .i64]), .sl 154 (.st [.sl 247 (.st [.int .i64, .int .i64]), .sl 25 (.sl 3 (.int .i64))]), .sl 3 (.int .i64)]] (.st [.int .i64, .sl 159 (.st [.str, .int .i64, .sl 172 (.st [.int .i64, .sl 3 (.int .i64), .sl 3 (.int .i64)])]), .sl 164 (.st [.int .i64, .int .i64, .bool, .int .i64]), .sl 169 (.st [.sl 228 (.st [.int .i64, .int .i64]), .sl 25 (.sl 3 (.int .i64))]), .sl 3 (.int .i64)])), (46, .fn [.st [.int .i64, .sl 159 (.st [.str, .int .i64, .sl 172 (.st [.int .i64, .sl 3 (.int .i64), .sl 3 (.int .i64)])]), .sl 164 (.st [.int .i64, .int .i64, .bool, .int .i64]), .sl 169 (.st [.sl 228 (.st [.int .i64, .int .i64]), .sl 25 (.sl 3 (.int .i64))]), .sl 3 (.int .i64)], .st [.int .i64, .sl 159 (.st [.str, .int .i64, .sl 172 (.st [.int .i64, .sl 3 (.int .i64), .sl 3 (.int .i64)])]), .sl 164 (.st [.int .i64, .int .i64, .bool, .int .i64]), .sl 169 (.st [.sl 228 (.st [.int .i64, .int .i64]), .sl 25 (.sl 3 (.int .i64))]), .sl 3 (.int .i64)]] (.bool)), (49, .st [.int .i64, .int .i64, .int .i64, .int .i64]), (50, .st [.int .i64, .int .i64, .int .i64, .int .i64]), (51, .sl 113 (.st [.int .i64, .int .i64, .int .i64])), (52, .fn [.sl 113 (.st [.int .i64, .int .i64, .int .i64]), .int .i64] (.int .i64)), (53, .fn [.st [.int .i64, .sl 159 (.st [.str, .int .i64, .sl 172 (.st [.int .i64, .sl 3 (.int .i64), .sl 3 (.int .i64)])]), .sl 164 (.st [.int .i64, .int .i64, .bool, .int .i64]), .sl 169 (.st [.sl 228 (.st [.int .i64, .int .i64]), .sl 25 (.sl 3 (.int .i64))]), .sl 3 (.int .i64)], .st [.int .i64, .int .i64, .int .i64, .int .i64], .sl 111 (.st [.int .i64, .int .i64, .int .i64])] (.bool)), (54, .st [.int .i64, .int .i64, .int .i64, .int .i64]), (55, .fn [.st [.int .i64, .int .i64, .int .i64, .int .i64]] (.st [.int .i64, .int .i64, .int .i64, .int .i64])), (56, .sl 111 (.st [.int .i64, .int .i64, .int .i64])), (57, .fn [.sl 113 (.st [.int .i64, .int .i64, .int .i64])] (.sl 111 (.st [.int .i64, .int .i64, .int .i64]))), (58, .fn [.sl 111 (.st [.int .i64, .int .i64, .int .i64]), .sl 111 (.st [.int .i64, .int .i64, .int .i64])] (.bool)), (59, .fn [.st [.int .i64, .sl 150 (.st [.str, .int .i64, .sl 242 (.st [.int .i64, .sl 3 (.int .i64), .sl 3 (.int .i64)])]), .sl 166 (.st [.int .i64, .int .i64, .bool, .int .i64]), .sl 154 (.st [.sl 247 (.st [.int .i64, .int .i64]), .sl 25 (.sl 3 (.int .i64))]), .sl 3 (.int .i64)], .st [.int .i64, .int .i64, .int .i64, .int .i64], .sl 113 (.st [.int .i64, .int .i64, .int .i64])] (.bool)), (74, .sl 25 (.sl 3 (.int .i64))), (75, .st [.sl 3 (.int .i64), .sl 3 (.int .i64), .sl 25 (.sl 3 (.int .i64))]), (79, .st [.sl 3 (.int .i64), .sl 3 (.int .i64), .sl 25 (.sl 3 (.int .i64))]), (88, .fn [.st [.sl 3 (.int .i64), .sl 3 (.int .i64), .sl 25 (.sl 3 (.int .i64))], .int .i64] (.int .i64)), (92, .fn [.sl 150 (.st [.str, .int .i64, .sl 242 (.st [.int .i64, .sl 3 (.int .i64), .sl 3 (.int .i64)])]), .int .i64] (.int .i64)), (93, .fn [.sl 166 (.st [.int .i64, .int .i64, .bool, .int .i64]), .int .i64] (.int .i64)), (94, .fn [.sl 154 (.st [.sl 247 (.st [.int .i64, .int .i64]), .sl 25 (.sl 3 (.int .i64))]), .int .i64] (.int .i64)), (95, .fn [.sl 3 (.int .i64), .int .i64] (.int .i64)), (97, .fn [.int .i64, .int .i64] (.int .i64)), (99, .fn [.sl 150 (.st [.str, .int .i64, .sl 242 (.st [.int .i64, .sl 3 (.int .i64), .sl 3 (.int .i64)])])] (.sl 159 (.st [.str, .int .i64, .sl 172 (.st [.int .i64, .sl 3 (.int .i64), .sl 3 (.int .i64)])]))), (100, .fn [.sl 166 (.st [.int .i64, .int .i64, .bool, .int .i64])] (.sl 164 (.st [.int .i64, .int .i64, .bool, .int .i64]))), (101, .fn [.sl 154 (.st [.sl 247 (.st [.int .i64, .int .i64]), .sl 25 (.sl 3 (.int .i64))])] (.sl 169 (.st [.sl 228 (.st [.int .i64, .int .i64]), .sl 25 (.sl 3 (.int .i64))]))), (102, .fn [.sl 3 (.int .i64)] (.sl 3 (.int .i64))), (103, .fn [.sl 159 (.st [.str, .int .i64, .sl 172 (.st [.int .i64, .sl 3 (.int .i64), .sl 3 (.int .i64)])]), .sl 159 (.st [.str, .int .i64, .sl 172 (.st [.int .i64, .sl 3 (.int .i64), .sl 3 (.int .i64)])])] (.bool)), (104, .fn [.sl 164 (.st [.int .i64, .int .i64, .bool, .int .i64]), .sl 164 (.st [.int .i64, .int .i64, .bool, .int .i64])] (.bool)), (105, .fn [.sl 169 (.st [.sl 228 (.st [.int .i64, .int .i64]), .sl 25 (.sl 3 (.int .i64))]), .sl 169 (.st [.sl 228 (.st [.int .i64, .int .i64]), .sl 25 (.sl 3 (.int .i64))])] (.bool)), (106, .fn [.sl 3 (.int .i64), .sl 3 (.int .i64)] (.bool)), (107, .fn [.st [.int .i64, .sl 159 (.st [.str, .int .i64, .sl 172 (.st [.int .i64, .sl 3 (.int .i64), .sl 3 (.int .i64)])]), .sl 164 (.st [.int .i64, .int .i64, .bool, .int .i64]), .sl 169 (.st [.sl 228 (.st [.int .i64, .int .i64]), .sl 25 (.sl 3 (.int .i64))]), .sl 3 (.int .i64)], .sl 111 (.st [.int .i64, .int .i64, .int .i64])] (.bool)), (108, .fn [.st [.int .i64, .sl 159 (.st [.str, .int .i64, .sl 172 (.st [.int .i64, .sl 3 (.int .i64), .sl 3 (.int .i64)])]), .sl 164 (.st [.int .i64, .int .i64, .bool, .int .i64]), .sl 169 (.st [.sl 228 (.st [.int .i64, .int .i64]), .sl 25 (.sl 3 (.int .i64))]), .sl 3 (.int .i64)], .st [.sl 3 (.int .i64), .sl 3 (.int .i64), .sl 25 (.sl 3 (.int .i64))], .st [.int .i64, .int .i64, .int .i64, .int .i64]] (.bool)), (109, .fn [.st [.int .i64, .sl 159 (.st [.str, .int .i64, .sl 172 (.st [.int .i64, .sl 3 (.int .i64), .sl 3 (.int .i64)])]), .sl 164 (.st [.int .i64, .int .i64, .bool, .int .i64]), .sl 169 (.st [.sl 228 (.st [.int .i64, .int .i64]), .sl 25 (.sl 3 (.int .i64))]), .sl 3 (.int .i64)], .sl 111 (.st [.int .i64, .int .i64, .int .i64])] (.st [.sl 3 (.int .i64), .sl 3 (.int .i64), .sl 25 (.sl 3 (.int .i64))])), (110, .st [.int .i64, .int .i64, .int .i64]), (111, .st [.int .i64, .int .i64, .int .i64]), (112, .fn [.st [.int .i64, .int .i64, .int .i64]] (.st [.int .i64, .int .i64, .int .i64])), (113, .st [.int .i64, .int .i64, .int .i64]), (114, .fn [.st [.int .i64, .int .i64, .int .i64], .st [.int .i64, .int .i64, .int .i64]] (.bool)), (116, .fn [.sl 3 (.int .i64), .int .i64] (.sl 3 (.int .i64))), (128, .fn [.sl 25 (.sl 3 (.int .i64)), .int .i64] (.int .i64)), (129, .fn [.st [.sl 3 (.int .i64), .sl 3 (.int .i64), .sl 25 (.sl 3 (.int .i64))]] (.st [.sl 3 (.int .i64), .sl 3 (.int .i64), .sl 25 (.sl 3 (.int .i64))])), (130, .fn [.st [.int .i64, .sl 159 (.st [.str, .int .i64, .sl 172 (.st [.int .i64, .sl 3 (.int .i64), .sl 3 (.int .i64)])]), .sl 164 (.st [.int .i64, .int .i64, .bool, .int .i64]), .sl 169 (.st [.sl 228 (.st [.int .i64, .int .i64]), .sl 25 (.sl 3 (.int .i64))]), .sl 3 (.int .i64)], .st [.sl 3 (.int .i64), .sl 3 (.int .i64), .sl 25 (.sl 3 (.int .i64))]] (.bool)), (131, .fn [.st [.sl 3 (.int .i64), .sl 3 (.int .i64), .sl 25 (.sl 3 (.int .i64))]] (.bool)), (134, .fn [.st [.sl 3 (.int .i64), .sl 3 (.int .i64), .sl 25 (.sl 3 (.int .i64))], .st [.int .i64, .int .i64, .int .i64]] (.st [.sl 3 (.int .i64), .sl 3 (.int .i64), .sl 25 (.sl 3 (.int .i64))])), (135, .fn [.sl 25 (.sl 3 (.int .i64))] (.sl 25 (.sl 3 (.int .i64)))), (136, .fn [] (.st [.sl 3 (.int .i64), .sl 3 (.int .i64), .sl 25 (.sl 3 (.int .i64))])), (140, .fn [.sl 25 (.sl 3 (.int .i64)), .sl 25 (.sl 3 (.int .i64))] (.bool)), (142, .fn [.int .i64, .int .i64, .int .i64] (.bool)), (144, .fn [.int .i64] (.bool)), (147, .fn [.st [.str, .int .i64, .sl 242 (.st [.int .i64, .sl 3 (.int .i64), .sl 3 (.int .i64)])], .int .i64] (.int .i64)), (148, .sl 242 (.st [.int .i64, .sl 3 (.int .i64), .sl 3 (.int .i64)])), (149, .st [.str, .int .i64, .sl 242 (.st [.int .i64, .sl 3 (.int .i64), .sl 3 (.int .i64)])]), (150, .st [.str, .int .i64, .sl 242 (.st [.int .i64, .sl 3 (.int .i64), .sl 3 (.int .i64)])]), (151, .fn [.st [.sl 247 (.st [.int .i64, .int .i64]), .sl 25 (.sl 3 (.int .i64))], .int .i64] (.int .i64)), (152, .sl 247 (.st [.int .i64, .int .i64])), (153, .st [.sl 247 (.st [.int .i64, .int .i64]), .sl 25 (.sl 3 (.int .i64))]), (154, .st [.sl 247 (.st [.int .i64, .int .i64]), .sl 25 (.sl 3 (.int .i64))]), (156, .fn [.sl 3 (.int .i64), .int .i64] (.bool)), (157, .sl 172 (.st [.int .i64, .sl 3 (.int .i64), .sl 3 (.int .i64)])), (158, .st [.str, .int .i64, .sl 172 (.st [.int .i64, .sl 3 (.int .i64), .sl 3 (.int .i64)])]), (159, .st [.str, .int .i64, .sl 172 (.st [.int .i64, .sl 3 (.int .i64), .sl 3 (.int .i64)])]), (162, .fn [.st [.str, .int .i64, .sl 242 (.st [.int .i64, .sl 3 (.int .i64), .sl 3 (.int .i64)])]] (.st [.str, .int .i64, .sl 172 (.st [.int .i64, .sl 3 (.int .i64), .sl 3 (.int .i64)])])), (163, .st [.int .i64, .int .i64, .bool, .int .i64]), (164, .st [.int .i64, .int .i64, .bool, .int .i64]), (165, .fn [.st [.int .i64, .int .i64, .bool, .int .i64]] (.st [.int .i64, .int .i64, .bool, .int .i64])), (166, .st [.int .i64, .int .i64, .bool, .int .i64]), (167, .sl 228 (.st [.int .i64, .int .i64])), (168, .st [.sl 228 (.st [.int .i64, .int .i64]), .sl 25 (.sl 3 (.int .i64))]), (169, .st [.sl 228 (.st [.int .i64, .int .i64]), .sl 25 (.sl 3 (.int .i64))]), (170, .fn [.st [.sl 247 (.st [.int .i64, .int .i64]), .sl 25 (.sl 3 (.int .i64))]] (.st [.sl 228 (.st [.int .i64, .int .i64]), .sl 25 (.sl 3 (.int .i64))])), (171, .st [.int .i64, .sl 3 (.int .i64), .sl 3 (.int .i64)]), (172, .st [.int .i64, .sl 3 (.int .i64), .sl 3 (.int .i64)]), (173, .fn [.st [.int .i64, .sl 159 (.st [.str, .int .i64, .sl 172 (.st [.int .i64, .sl 3 (.int .i64), .sl 3 (.int .i64)])]), .sl 164 (.st [.int .i64, .int .i64, .bool, .int .i64]), .sl 169 (.st [.sl 228 (.st [.int .i64, .int .i64]), .sl 25 (.sl 3 (.int .i64))]), .sl 3 (.int .i64)], .int .i64] (.bool)), (174, .fn [.st [.str, .int .i64, .sl 172 (.st [.int .i64, .sl 3 (.int .i64), .sl 3 (.int .i64)])], .st [.str, .int .i64, .sl 172 (.st [.int .i64, .sl 3 (.int .i64), .sl 3 (.int .i64)])]] (.bool)), (175, .fn [.st [.int .i64, .int .i64, .bool, .int .i64], .st [.int .i64, .int .i64, .bool, .int .i64]] (.bool)), (176, .fn [.st [.sl 228 (.st [.int .i64, .int .i64]), .sl 25 (.sl 3 (.int .i64))], .st [.sl 228 (.st [.int .i64, .int .i64]), .sl 25 (.sl 3 (.int .i64))]] (.bool)), (177, .fn [.st [.int .i64, .sl 159 (.st [.str, .int .i64, .sl 172 (.st [.int .i64, .sl 3 (.int .i64), .sl 3 (.int .i64)])]), .sl 164 (.st [.int .i64, .int .i64, .bool, .int .i64]), .sl 169 (.st [.sl 228 (.st [.int .i64, .int .i64]), .sl 25 (.sl 3 (.int .i64))]), .sl 3 (.int .i64)], .st [.int .i64, .int .i64, .int .i64]] (.bool)), (178, .fn [.st [.int .i64, .int .i64, .int .i64], .st [.int .i64, .int .i64, .int .i64]] (.int .i64)), (179, .fn [.st [.int .i64, .sl 159 (.st [.str, .int .i64, .sl 172 (.st [.int .i64, .sl 3 (.int .i64), .sl 3 (.int .i64)])]), .sl 164 (.st [.int .i64, .int .i64, .bool, .int .i64]), .sl 169 (.st [.sl 228 (.st [.int .i64, .int .i64]), .sl 25 (.sl 3 (.int .i64))]), .sl 3 (.int .i64)], .st [.int .i64, .int .i64, .int .i64, .int .i64]] (.bool)), (180, .fn [.st [.int .i64, .sl 159 (.st [.str, .int .i64, .sl 172 (.st [.int .i64, .sl 3 (.int .i64), .sl 3 (.int .i64)])]), .sl 164 (.st [.int .i64, .int .i64, .bool, .int .i64]), .sl 169 (.st [.sl 228 (.st [.int .i64, .int .i64]), .sl 25 (.sl 3 (.int .i64))]), .sl 3 (.int .i64)]] (.bool)), (181, .fn [.st [.sl 3 (.int .i64), .sl 3 (.int .i64), .sl 25 (.sl 3 (.int .i64))], .sl 111 (.st [.int .i64, .int .i64, .int .i64])] (.st [.sl 3 (.int .i64), .sl 3 (.int .i64), .sl 25 (.sl 3 (.int .i64))])), (182, .fn [.st [.int .i64, .sl 159 (.st [.str, .int .i64, .sl 172 (.st [.int .i64, .sl 3 (.int .i64), .sl 3 (.int .i64)])]), .sl 164 (.st [.int .i64, .int .i64, .bool, .int .i64]), .sl 169 (.st [.sl 228 (.st [.int .i64, .int .i64]), .sl 25 (.sl 3 (.int .i64))]), .sl 3 (.int .i64)]] (.st [.sl 3 (.int .i64), .sl 3 (.int .i64), .sl 25 (.sl 3 (.int .i64))])), (183, .fn [.st [.sl 3 (.int .i64), .sl 3 (.int .i64), .sl 25 (.sl 3 (.int .i64))], .st [.int .i64, .int .i64, .bool, .int .i64]] (.bool)), (184, .fn [.st [.sl 3 (.int .i64), .sl 3 (.int .i64), .sl 25 (.sl 3 (.int .i64))], .int .i64, .int .i64] (.int .i64)), (185, .fn [.sl 228 (.st [.int .i64, .int .i64]), .int .i64] (.int .i64)), (186, .fn [.st [.int .i64, .sl 159 (.st [.str, .int .i64, .sl 172 (.st [.int .i64, .sl 3 (.int .i64), .sl 3 (.int .i64)])]), .sl 164 (.st [.int .i64, .int .i64, .bool, .int .i64]), .sl 169 (.st [.sl 228 (.st [.int .i64, .int .i64]), .sl 25 (.sl 3 (.int .i64))]), .sl 3 (.int .i64)], .st [.sl 3 (.int .i64), .sl 3 (.int .i64), .sl 25 (.sl 3 (.int .i64))], .int .i64, .int .i64, .int .i64] (.bool)), (187, .fn [.st [.sl 3 (.int .i64), .sl 3 (.int .i64), .sl 25 (.sl 3 (.int .i64))], .int .i64] (.bool)), (188, .fn [.st [.int .i64, .int .i64, .int .i64]] (.st [.int .i64, .int .i64, .int .i64])), (197, .fn [.sl 3 (.int .i64)] (.bool)), (198, .fn [.st [.str, .int .i64, .sl 172 (.st [.int .i64, .sl 3 (.int .i64), .sl 3 (.int .i64)])]] (.sl 3 (.int .i64))), (199, .fn [.int .i64] (.int .i64)), (200, .fn [.sl 3 (.int .i64), .sl 3 (.int .i64)] (.sl 3 (.int .i64))), (201, .fn [.sl 25 (.sl 3 (.int .i64)), .fn [.sl 3 (.int .i64)] (.bool)] (.bool)), (203, .fn [.sl 3 (.int .i64), .fn [.int .i64] (.bool)] (.sl 3 (.int .i64))), (206, .fn [.sl 242 (.st [.int .i64, .sl 3 (.int .i64), .sl 3 (.int .i64)]), .int .i64] (.int .i64)), (207, .fn [.sl 247 (.st [.int .i64, .int .i64]), .int .i64] (.int .i64)), (208, .fn [.int .i64] (.sl 3 (.int .i64))), (210, .fn [.sl 242 (.st [.int .i64, .sl 3 (.int .i64), .sl 3 (.int .i64)])] (.sl 172 (.st [.int .i64, .sl 3 (.int .i64), .sl 3 (.int .i64)]))), (211, .fn [.sl 247 (.st [.int .i64, .int .i64])] (.sl 228 (.st [.int .i64, .int .i64]))), (214, .fn [.sl 172 (.st [.int .i64, .sl 3 (.int .i64), .sl 3 (.int .i64)]), .sl 172 (.st [.int .i64, .sl 3 (.int .i64), .sl 3 (.int .i64)])] (.bool)), (215, .fn [.sl 228 (.st [.int .i64, .int .i64]), .sl 228 (.st [.int .i64, .int .i64])] (.bool)), (216, .fn [.st [.int .i64, .sl 159 (.st [.str, .int .i64, .sl 172 (.st [.int .i64, .sl 3 (.int .i64), .sl 3 (.int .i64)])]), .sl 164 (.st [.int .i64, .int .i64, .bool, .int .i64]), .sl 169 (.st [.sl 228 (.st [.int .i64, .int .i64]), .sl 25 (.sl 3 (.int .i64))]), .sl 3 (.int .i64)], .st [.sl 3 (.int .i64), .sl 3 (.int .i64), .sl 25 (.sl 3 (.int .i64))], .int .i64] (.int .i64)), (217, .fn [.st [.int .i64, .sl 159 (.st [.str, .int .i64, .sl 172 (.st [.int .i64, .sl 3 (.int .i64), .sl 3 (.int .i64)])]), .sl 164 (.st [.int .i64, .int .i64, .bool, .int .i64]), .sl 169 (.st [.sl 228 (.st [.int .i64, .int .i64]), .sl 25 (.sl 3 (.int .i64))]), .sl 3 (.int .i64)], .st [.sl 3 (.int .i64), .sl 3 (.int .i64), .sl 25 (.sl 3 (.int .i64))], .int .i64, .int .i64] (.int .i64)), (218, .fn [.st [.int .i64, .sl 159 (.st [.str, .int .i64, .sl 172 (.st [.int .i64, .sl 3 (.int .i64), .sl 3 (.int .i64)])]), .sl 164 (.st [.int .i64, .int .i64, .bool, .int .i64]), .sl 169 (.st [.sl 228 (.st [.int .i64, .int .i64]), .sl 25 (.sl 3 (.int .i64))]), .sl 3 (.int .i64)], .st [.sl 3 (.int .i64), .sl 3 (.int .i64), .sl 25 (.sl 3 (.int .i64))], .int .i64] (.bool)), (219, .fn [.st [.str, .int .i64, .sl 172 (.st [.int .i64, .sl 3 (.int .i64), .sl 3 (.int .i64)])], .int .i64, .int .i64] (.bool)), (220, .fn [.st [.int .i64, .sl 159 (.st [.str, .int .i64, .sl 172 (.st [.int .i64, .sl 3 (.int .i64), .sl 3 (.int .i64)])]), .sl 164 (.st [.int .i64, .int .i64, .bool, .int .i64]), .sl 169 (.st [.sl 228 (.st [.int .i64, .int .i64]), .sl 25 (.sl 3 (.int .i64))]), .sl 3 (.int .i64)], .str] (.int .i64)), (221, .fn [.st [.sl 228 (.st [.int .i64, .int .i64]), .sl 25 (.sl 3 (.int .i64))]] (.bool)), (223, .fn [.st [.str, .int .i64, .sl 172 (.st [.int .i64, .sl 3 (.int .i64), .sl 3 (.int .i64)])], .sl 3 (.int .i64)] (.int .i64)), (225, .fn [.st [.sl 3 (.int .i64), .sl 3 (.int .i64), .sl 25 (.sl 3 (.int .i64))], .int .i64] (.tup [.int .i64, .int .i64])), (226, .fn [.st [.str, .int .i64, .sl 172 (.st [.int .i64, .sl 3 (.int .i64), .sl 3 (.int .i64)])], .sl 3 (.int .i64), .int .i64] (.int .i64)), (227, .st [.int .i64, .int .i64]), (228, .st [.int .i64, .int .i64]), (229, .fn [.st [.sl 3 (.int .i64), .sl 3 (.int .i64), .sl 25 (.sl 3 (.int .i64))], .int .i64, .int .i64, .int .i64] (.int .i64)), (230, .fn [.sl 228 (.st [.int .i64, .int .i64]), .int .i64, .int .i64] (.int .i64)), (236, .fn [.sl 164 (.st [.int .i64, .int .i64, .bool, .int .i64]), .fn [.st [.int .i64, .int .i64, .bool, .int .i64]] (.bool)] (.bool)), (237, .fn [.st [.int .i64, .int .i64, .bool, .int .i64]] (.bool)), (238, .fn [.sl 25 (.sl 3 (.int .i64)), .fn [.sl 3 (.int .i64)] (.bool)] (.int .i64)), (241, .fn [.st [.int .i64, .sl 3 (.int .i64), .sl 3 (.int .i64)], .int .i64] (.int .i64)), (242, .st [.int .i64, .sl 3 (.int .i64), .sl 3 (.int .i64)]), (243, .fn [.sl 228 (.st [.int .i64, .int .i64])] (.bool)), (245, .fn [.st [.int .i64, .sl 3 (.int .i64), .sl 3 (.int .i64)]] (.st [.int .i64, .sl 3 (.int .i64), .sl 3 (.int .i64)])), (246, .fn [.st [.int .i64, .int .i64]] (.st [.int .i64, .int .i64])), (247, .st [.int .i64, .int .i64]), (248, .fn [.st [.int .i64, .sl 159 (.st [.str, .int .i64, .sl 172 (.st [.int .i64, .sl 3 (.int .i64), .sl 3 (.int .i64)])]), .sl 164 (.st [.int .i64, .int .i64, .bool, .int .i64]), .sl 169 (.st [.sl 228 (.st [.int .i64, .int .i64]), .sl 25 (.sl 3 (.int .i64))]), .sl 3 (.int .i64)], .int .i64, .int .i64, .int .i64] (.int .i64)), (249, .fn [.st [.int .i64, .sl 3 (.int .i64), .sl 3 (.int .i64)], .st [.int .i64, .sl 3 (.int .i64), .sl 3 (.int .i64)]] (.bool)), (250, .fn [.st [.int .i64, .int .i64], .st [.int .i64, .int .i64]] (.bool)), (251, .fn [.st [.int .i64, .sl 159 (.st [.str, .int .i64, .sl 172 (.st [.int .i64, .sl 3 (.int .i64), .sl 3 (.int .i64)])]), .sl 164 (.st [.int .i64, .int .i64, .bool, .int .i64]), .sl 169 (.st [.sl 228 (.st [.int .i64, .int .i64]), .sl 25 (.sl 3 (.int .i64))]), .sl 3 (.int .i64)], .st [.sl 3 (.int .i64), .sl 3 (.int .i64), .sl 25 (.sl 3 (.int .i64))], .int .i64, .int .i64, .int .i64, .int .i64] (.int .i64)), (252, .fn [.st [.int .i64, .sl 159 (.st [.str, .int .i64, .sl 172 (.st [.int .i64, .sl 3 (.int .i64), .sl 3 (.int .i64)])]), .sl 164 (.st [.int .i64, .int .i64, .bool, .int .i64]), .sl 169 (.st [.sl 228 (.st [.int .i64, .int .i64]), .sl 25 (.sl 3 (.int .i64))]), .sl 3 (.int .i64)], .st [.sl 3 (.int .i64), .sl 3 (.int .i64), .sl 25 (.sl 3 (.int .i64))], .int .i64, .int .i64, .int .i64] (.int .i64)), (253, .fn [.st [.int .i64, .sl 3 (.int .i64), .sl 3 (.int .i64)], .int .i64, .int .i64] (.bool)), (254, .fn [.str] (.bool)), (255, .fn [.st [.str, .int .i64, .sl 172 (.st [.int .i64, .sl 3 (.int .i64), .sl 3 (.int .i64)])], .sl 3 (.int .i64)] (.sl 172 (.st [.int .i64, .sl 3 (.int .i64), .sl 3 (.int .i64)]))), (256, .fn [.sl 172 (.st [.int .i64, .sl 3 (.int .i64), .sl 3 (.int .i64)]), .fn [.st [.int .i64, .sl 3 (.int .i64), .sl 3 (.int .i64)]] (.tup [.int .i64, .bool])] (.int .i64)), (257, .fn [.sl 3 (.int .i64), .int .i64] (.tup [.int .i64, .bool])), (258, .fn [.st [.int .i64, .sl 3 (.int .i64), .sl 3 (.int .i64)]] (.tup [.int .i64, .bool])), (259, .fn [.st [.sl 3 (.int .i64), .sl 3 (.int .i64), .sl 25 (.sl 3 (.int .i64))], .int .i64, .int .i64, .int .i64, .int .i64] (.int .i64)), (265, .fn [.sl 159 (.st [.str, .int .i64, .sl 172 (.st [.int .i64, .sl 3 (.int .i64), .sl 3 (.int .i64)])]), .fn [.st [.str, .int .i64, .sl 172 (.st [.int .i64, .sl 3 (.int .i64), .sl 3 (.int .i64)])]] (.bool)] (.int .i64)), (266, .fn [.st [.str, .int .i64, .sl 172 (.st [.int .i64, .sl 3 (.int .i64), .sl 3 (.int .i64)])]] (.bool)), (267, .fn [.sl 164 (.st [.int .i64, .int .i64, .bool, .int .i64]), .fn [.st [.int .i64, .int .i64, .bool, .int .i64]] (.bool)] (.int .i64)), (268, .fn [.sl 228 (.st [.int .i64, .int .i64]), .int .i64, .int .i64] (.bool)), (269, .fn [.int .i64, .int .i64, .int .i64, .int .i64] (.int .i64)), (270, .fn [.st [.str, .int .i64, .sl 172 (.st [.int .i64, .sl 3 (.int .i64), .sl 3 (.int .i64)])], .sl 3 (.int .i64), .int .i64, .bool, .bool] (.int .i64))]
theorem tysOk : LkAll (TnOk Tryz.prog) tys := ⟨tn3, tn4, tn5, tn9, tn22, tn23, tn24, tn25, tn26, tn27, tn32, tn36, tn37, tn38, tn39, tn40, tn41, tn46, tn49, tn50, tn51, tn52, tn53, tn54, tn55, tn56, tn57, tn58, tn59, tn74, tn75, tn79, tn88, tn92, tn93, tn94, tn95, tn97, tn99, tn100, tn101, tn102, tn103, tn104, tn105, tn106, tn107, tn108, tn109, tn110, tn111, tn112, tn113, tn114, tn116, tn128, tn129, tn130, tn131, tn134, tn135, tn136, tn140, tn142, tn144, tn147, tn148, tn149, tn150, tn151, tn152, tn153, tn154, tn156, tn157, tn158, tn159, tn162, tn163, tn164, tn165, tn166, tn167, tn168, tn169, tn170, tn171, tn172, tn173, tn174, tn175, tn176, tn177, tn178, tn179, tn180, tn181, tn182, tn183, tn184, tn185, tn186, tn187, tn188, tn197, tn198, tn199, tn200, tn201, tn203, tn206, tn207, tn208, tn210, tn211, tn214, tn215, tn216, tn217, tn218, tn219, tn220, tn221, tn223, tn225, tn226, tn227, tn228, tn229, tn230, tn236, tn237, tn238, tn241, tn242, tn243, tn245, tn246, tn247, tn248, tn249, tn250, tn251, tn252, tn253, tn254, tn255, tn256, tn257, tn258, tn259, tn265, tn266, tn267, tn268, tn269, tn270, trivial⟩
def laws_szIntS (x : ((List Int) × (Int × Unit))) (c : Unit) : (Option (Int × Unit)) :=
  (if (ltZ (subZ .i64 x.2.1 (lenI x.1)) 0) = true then (some ((-1), ())) else (some ((subZ .i64 x.2.1 (lenI x.1)), ())))
def H_laws_szIntS : Hd := ⟨[.sl 3 (.int .i64), .int .i64], [], none, .p, .int .i64, .p, []⟩
def T_laws_szIntS : FSig := sg_ H_laws_szIntS laws_szIntS
theorem E_laws_szIntS : fnOf tys [] Tryz.f54 H_laws_szIntS = T_laws_szIntS := by kernel_rfl
theorem K_laws_szIntS : SigOk Tryz.prog 54 T_laws_szIntS := e_k E_laws_szIntS (fnOf_ok rfl tysOk trivial Tryz.func54 (by decide) rfl (fun _ h => by cases h) (nilEq_of (by kernel_rfl)))
def laws_szMode (x : (D_Mode × (Int × Unit))) (c : Unit) : (Option (Int × Unit)) :=
  (Option.bind ((Option.bind (laws_szIntS (x.1.2.1, (x.2.1, ())) ()) fun v0 => (some v0.1)) : (Option Int)) fun v1 => (if (ltZ v1 0) = true then (some ((-1), ())) else (Option.bind ((Option.bind (laws_szIntS (x.1.2.2.1, (v1, ())) ()) fun v2 => (some v2.1)) : (Option Int)) fun v3 => (if (ltZ v3 0) = true then (some ((-1), ())) else (some (v3, ()))))))
def H_laws_szMode : Hd := ⟨[y_6, .int .i64], [], none, .p, .int .i64, .p, []⟩
def T_laws_szMode : FSig := sg_ H_laws_szMode laws_szMode
theorem E_laws_szMode : fnOf tys [(54, T_laws_szIntS)] Tryz.f261 H_laws_szMode = T_laws_szMode := by kernel_rfl
theorem K_laws_szMode : SigOk Tryz.prog 261 T_laws_szMode := e_k E_laws_szMode (fnOf_ok rfl tysOk ⟨K_laws_szIntS, trivial⟩ Tryz.func261 (by decide) rfl (fun _ h => by cases h) (nilEq_of (by kernel_rfl)))
abbrev s_laws_szModeS_L0 : Type := (Int × ((List D_Mode) × (Int × Unit)))
def laws_szModeS_L0 : s_laws_szModeS_L0 → Option (Out s_laws_szModeS_L0 ((Bool × s_laws_szModeS_L0) ⊕ Empty) (Int × Unit)) :=
  (fun v0 => (if (ltZ v0.1 (lenI v0.2.1)) = true then (Option.bind (getI v0.2.1 v0.1) fun v1 => (Option.bind ((Option.bind (laws_szMode (v1, (v0.2.2.1, ())) ()) fun v2 => (some v2.1)) : (Option Int)) fun v3 => (if (ltZ v3 0) = true then (some (Out.ret ((-1), ()))) else (some (Out.norm ((addZ .i64 v0.1 1), (v0.2.1, (v3, ())))))))) else (some (Out.exit (Sum.inl ((ltZ v0.1 (lenI v0.2.1)), (v0.1, (v0.2.1, (v0.2.2.1, ())))))))))
def laws_szModeS (x : ((List D_Mode) × (Int × Unit))) (c : Unit) : (Option (Int × Unit)) :=
  (if (ltZ (subZ .i64 x.2.1 (lenI x.1)) 0) = true then (some ((-1), ())) else (Option.bind (loopN (A := s_laws_szModeS_L0) big laws_szModeS_L0 (0, (x.1, ((subZ .i64 x.2.1 (lenI x.1)), ())))) fun v4 => (match v4 with | Out.norm v5 => none | Out.exit v6 => (match ((match v6 with | Sum.inl v9 => (Sum.inl (v9.2.2.2.1, ())) | Sum.inr v10 => (Empty.elim v10)) : ((Int × Unit) ⊕ Empty)) with | Sum.inl v7 => (some (v7.1, ())) | Sum.inr v8 => none) | Out.ret v11 => (some v11))))
def H_laws_szModeS : Hd := ⟨[.sl 242 (y_6), .int .i64], [], none, .p, .int .i64, .p, []⟩
def T_laws_szModeS : FSig := sg_ H_laws_szModeS laws_szModeS
theorem E_laws_szModeS : fnOf tys [(261, T_laws_szMode)] Tryz.f201 H_laws_szModeS = T_laws_szModeS := by kernel_rfl
theorem K_laws_szModeS : SigOk Tryz.prog 201 T_laws_szModeS := e_k E_laws_szModeS (fnOf_ok rfl tysOk ⟨K_laws_szMode, trivial⟩ Tryz.func201 (by decide) rfl (fun _ h => by cases h) (nilEq_of (by kernel_rfl)))
def laws_szActivity (x : (D_Activity × (Int × Unit))) (c : Unit) : (Option (Int × Unit)) :=
  (if (ltZ (subZ .i64 x.2.1 (lenI x.1.1)) 0) = true then (some ((-1), ())) else (Option.bind ((Option.bind (laws_szModeS (x.1.2.2.1, ((subZ .i64 x.2.1 (lenI x.1.1)), ())) ()) fun v0 => (some v0.1)) : (Option Int)) fun v1 => (if (ltZ v1 0) = true then (some ((-1), ())) else (some (v1, ())))))
def H_laws_szActivity : Hd := ⟨[y_2, .int .i64], [], none, .p, .int .i64, .p, []⟩
def T_laws_szActivity : FSig := sg_ H_laws_szActivity laws_szActivity
theorem E_laws_szActivity : fnOf tys [(201, T_laws_szModeS)] Tryz.f118 H_laws_szActivity = T_laws_szActivity := by kernel_rfl
theorem K_laws_szActivity : SigOk Tryz.prog 118 T_laws_szActivity := e_k E_laws_szActivity (fnOf_ok rfl tysOk ⟨K_laws_szModeS, trivial⟩ Tryz.func118 (by decide) rfl (fun _ h => by cases h) (nilEq_of (by kernel_rfl)))
abbrev s_laws_szActivityS_L0 : Type := (Int × ((List D_Activity) × (Int × Unit)))
def laws_szActivityS_L0 : s_laws_szActivityS_L0 → Option (Out s_laws_szActivityS_L0 ((Bool × s_laws_szActivityS_L0) ⊕ Empty) (Int × Unit)) :=
  (fun v0 => (if (ltZ v0.1 (lenI v0.2.1)) = true then (Option.bind (getI v0.2.1 v0.1) fun v1 => (Option.bind ((Option.bind (laws_szActivity (v1, (v0.2.2.1, ())) ()) fun v2 => (some v2.1)) : (Option Int)) fun v3 => (if (ltZ v3 0) = true then (some (Out.ret ((-1), ()))) else (some (Out.norm ((addZ .i64 v0.1 1), (v0.2.1, (v3, ())))))))) else (some (Out.exit (Sum.inl ((ltZ v0.1 (lenI v0.2.1)), (v0.1, (v0.2.1, (v0.2.2.1, ())))))))))
def laws_szActivityS (x : ((List D_Activity) × (Int × Unit))) (c : Unit) : (Option (Int × Unit)) :=
  (if (ltZ (subZ .i64 x.2.1 (lenI x.1)) 0) = true then (some ((-1), ())) else (Option.bind (loopN (A := s_laws_szActivityS_L0) big laws_szActivityS_L0 (0, (x.1, ((subZ .i64 x.2.1 (lenI x.1)), ())))) fun v4 => (match v4 with | Out.norm v5 => none | Out.exit v6 => (match ((match v6 with | Sum.inl v9 => (Sum.inl (v9.2.2.2.1, ())) | Sum.inr v10 => (Empty.elim v10)) : ((Int × Unit) ⊕ Empty)) with | Sum.inl v7 => (some (v7.1, ())) | Sum.inr v8 => none) | Out.ret v11 => (some v11))))
def H_laws_szActivityS : Hd := ⟨[.sl 150 (y_2), .int .i64], [], none, .p, .int .i64, .p, []⟩
def T_laws_szActivityS : FSig := sg_ H_laws_szActivityS laws_szActivityS
theorem E_laws_szActivityS : fnOf tys [(118, T_laws_szActivity)] Tryz.f51 H_laws_szActivityS = T_laws_szActivityS := by kernel_rfl
theorem K_laws_szActivityS : SigOk Tryz.prog 51 T_laws_szActivityS := e_k E_laws_szActivityS (fnOf_ok rfl tysOk ⟨K_laws_szActivity, trivial⟩ Tryz.func51 (by decide) rfl (fun _ h => by cases h) (nilEq_of (by kernel_rfl)))
def laws_szLinkS (x : ((List D_Link) × (Int × Unit))) (c : Unit) : (Option (Int × Unit)) :=
  (if (ltZ (subZ .i64 x.2.1 (lenI x.1)) 0) = true then (some ((-1), ())) else (some ((subZ .i64 x.2.1 (lenI x.1)), ())))
def H_laws_szLinkS : Hd := ⟨[.sl 166 (y_7), .int .i64], [], none, .p, .int .i64, .p, []⟩
def T_laws_szLinkS : FSig := sg_ H_laws_szLinkS laws_szLinkS
theorem E_laws_szLinkS : fnOf tys [] Tryz.f52 H_laws_szLinkS = T_laws_szLinkS := by kernel_rfl
theorem K_laws_szLinkS : SigOk Tryz.prog 52 T_laws_szLinkS := e_k E_laws_szLinkS (fnOf_ok rfl tysOk trivial Tryz.func52 (by decide) rfl (fun _ h => by cases h) (nilEq_of (by kernel_rfl)))
abbrev s_laws_szIntSS_L0 : Type := (Int × ((List (List Int)) × (Int × Unit)))
def laws_szIntSS_L0 : s_laws_szIntSS_L0 → Option (Out s_laws_szIntSS_L0 ((Bool × s_laws_szIntSS_L0) ⊕ Empty) (Int × Unit)) :=
  (fun v0 => (if (ltZ v0.1 (lenI v0.2.1)) = true then (Option.bind (getI v0.2.1 v0.1) fun v1 => (Option.bind ((Option.bind (laws_szIntS (v1, (v0.2.2.1, ())) ()) fun v2 => (some v2.1)) : (Option Int)) fun v3 => (if (ltZ v3 0) = true then (some (Out.ret ((-1), ()))) else (some (Out.norm ((addZ .i64 v0.1 1), (v0.2.1, (v3, ())))))))) else (some (Out.exit (Sum.inl ((ltZ v0.1 (lenI v0.2.1)), (v0.1, (v0.2.1, (v0.2.2.1, ())))))))))
def laws_szIntSS (x : ((List (List Int)) × (Int × Unit))) (c : Unit) : (Option (Int × Unit)) :=
  (if (ltZ (subZ .i64 x.2.1 (lenI x.1)) 0) = true then (some ((-1), ())) else (Option.bind (loopN (A := s_laws_szIntSS_L0) big laws_szIntSS_L0 (0, (x.1, ((subZ .i64 x.2.1 (lenI x.1)), ())))) fun v4 => (match v4 with | Out.norm v5 => none | Out.exit v6 => (match ((match v6 with | Sum.inl v9 => (Sum.inl (v9.2.2.2.1, ())) | Sum.inr v10 => (Empty.elim v10)) : ((Int × Unit) ⊕ Empty)) with | Sum.inl v7 => (some (v7.1, ())) | Sum.inr v8 => none) | Out.ret v11 => (some v11))))
def H_laws_szIntSS : Hd := ⟨[.sl 25 (.sl 3 (.int .i64)), .int .i64], [], none, .p, .int .i64, .p, []⟩
def T_laws_szIntSS : FSig := sg_ H_laws_szIntSS laws_szIntSS
theorem E_laws_szIntSS : fnOf tys [(54, T_laws_szIntS)] Tryz.f93 H_laws_szIntSS = T_laws_szIntSS := by kernel_rfl
theorem K_laws_szIntSS : SigOk Tryz.prog 93 T_laws_szIntSS := e_k E_laws_szIntSS (fnOf_ok rfl tysOk ⟨K_laws_szIntS, trivial⟩ Tryz.func93 (by decide) rfl (fun _ h => by cases h) (nilEq_of (by kernel_rfl)))
def laws_szStepS (x : ((List D_Step) × (Int × Unit))) (c : Unit) : (Option (Int × Unit)) :=
  (if (ltZ (subZ .i64 x.2.1 (lenI x.1)) 0) = true then (some ((-1), ())) else (some ((subZ .i64 x.2.1 (lenI x.1)), ())))
def H_laws_szStepS : Hd := ⟨[.sl 247 (.st [.int .i64, .int .i64]), .int .i64], [], none, .p, .int .i64, .p, []⟩
def T_laws_szStepS : FSig := sg_ H_laws_szStepS laws_szStepS
theorem E_laws_szStepS : fnOf tys [] Tryz.f202 H_laws_szStepS = T_laws_szStepS := by kernel_rfl
theorem K_laws_szStepS : SigOk Tryz.prog 202 T_laws_szStepS := e_k E_laws_szStepS (fnOf_ok rfl tysOk trivial Tryz.func202 (by decide) rfl (fun _ h => by cases h) (nilEq_of (by kernel_rfl)))
def laws_szResource (x : (D_Resource × (Int × Unit))) (c : Unit) : (Option (Int × Unit)) :=
  (Option.bind ((Option.bind (laws_szStepS (x.1.1, (x.2.1, ())) ()) fun v0 => (some v0.1)) : (Option Int)) fun v1 => (if (ltZ v1 0) = true then (some ((-1), ())) else (Option.bind ((Option.bind (laws_szIntSS (x.1.2.1, (v1, ())) ()) fun v2 => (some v2.1)) : (Option Int)) fun v3 => (if (ltZ v3 0) = true then (some ((-1), ())) else (some (v3, ()))))))
def H_laws_szResource : Hd := ⟨[.st [.sl 247 (.st [.int .i64, .int .i64]), .sl 25 (.sl 3 (.int .i64))], .int .i64], [], none, .p, .int .i64, .p, []⟩
def T_laws_szResource : FSig := sg_ H_laws_szResource laws_szResource
theorem E_laws_szResource : fnOf tys [(93, T_laws_szIntSS), (202, T_laws_szStepS)] Tryz.f119 H_laws_szResource = T_laws_szResource := by kernel_rfl
theorem K_laws_szResource : SigOk Tryz.prog 119 T_laws_szResource := e_k E_laws_szResource (fnOf_ok rfl tysOk ⟨K_laws_szIntSS, K_laws_szStepS, trivial⟩ Tryz.func119 (by decide) rfl (fun _ h => by cases h) (nilEq_of (by kernel_rfl)))
abbrev s_laws_szResourceS_L0 : Type := (Int × ((List D_Resource) × (Int × Unit)))
def laws_szResourceS_L0 : s_laws_szResourceS_L0 → Option (Out s_laws_szResourceS_L0 ((Bool × s_laws_szResourceS_L0) ⊕ Empty) (Int × Unit)) :=
  (fun v0 => (if (ltZ v0.1 (lenI v0.2.1)) = true then (Option.bind (getI v0.2.1 v0.1) fun v1 => (Option.bind ((Option.bind (laws_szResource (v1, (v0.2.2.1, ())) ()) fun v2 => (some v2.1)) : (Option Int)) fun v3 => (if (ltZ v3 0) = true then (some (Out.ret ((-1), ()))) else (some (Out.norm ((addZ .i64 v0.1 1), (v0.2.1, (v3, ())))))))) else (some (Out.exit (Sum.inl ((ltZ v0.1 (lenI v0.2.1)), (v0.1, (v0.2.1, (v0.2.2.1, ())))))))))
def laws_szResourceS (x : ((List D_Resource) × (Int × Unit))) (c : Unit) : (Option (Int × Unit)) :=
  (if (ltZ (subZ .i64 x.2.1 (lenI x.1)) 0) = true then (some ((-1), ())) else (Option.bind (loopN (A := s_laws_szResourceS_L0) big laws_szResourceS_L0 (0, (x.1, ((subZ .i64 x.2.1 (lenI x.1)), ())))) fun v4 => (match v4 with | Out.norm v5 => none | Out.exit v6 => (match ((match v6 with | Sum.inl v9 => (Sum.inl (v9.2.2.2.1, ())) | Sum.inr v10 => (Empty.elim v10)) : ((Int × Unit) ⊕ Empty)) with | Sum.inl v7 => (some (v7.1, ())) | Sum.inr v8 => none) | Out.ret v11 => (some v11))))
def H_laws_szResourceS : Hd := ⟨[.sl 154 (.st [.sl 247 (.st [.int .i64, .int .i64]), .sl 25 (.sl 3 (.int .i64))]), .int .i64], [], none, .p, .int .i64, .p, []⟩
def T_laws_szResourceS : FSig := sg_ H_laws_szResourceS laws_szResourceS
theorem E_laws_szResourceS : fnOf tys [(119, T_laws_szResource)] Tryz.f53 H_laws_szResourceS = T_laws_szResourceS := by kernel_rfl
theorem K_laws_szResourceS : SigOk Tryz.prog 53 T_laws_szResourceS := e_k E_laws_szResourceS (fnOf_ok rfl tysOk ⟨K_laws_szResource, trivial⟩ Tryz.func53 (by decide) rfl (fun _ h => by cases h) (nilEq_of (by kernel_rfl)))
def laws_szProject (x : (D_Project × (Int × Unit))) (c : Unit) : (Option (Int × Unit)) :=
  (Option.bind ((Option.bind (laws_szActivityS (x.1.2.1, (x.2.1, ())) ()) fun v0 => (some v0.1)) : (Option Int)) fun v1 => (if (ltZ v1 0) = true then (some ((-1), ())) else (Option.bind ((Option.bind (laws_szLinkS (x.1.2.2.1, (v1, ())) ()) fun v2 => (some v2.1)) : (Option Int)) fun v3 => (if (ltZ v3 0) = true then (some ((-1), ())) else (Option.bind ((Option.bind (laws_szResourceS (x.1.2.2.2.1, (v3, ())) ()) fun v4 => (some v4.1)) : (Option Int)) fun v5 => (if (ltZ v5 0) = true then (some ((-1), ())) else (Option.bind ((Option.bind (laws_szIntS (x.1.2.2.2.2.1, (v5, ())) ()) fun v6 => (some v6.1)) : (Option Int)) fun v7 => (if (ltZ v7 0) = true then (some ((-1), ())) else (some (v7, ()))))))))))
def H_laws_szProject : Hd := ⟨[y_0, .int .i64], [], none, .p, .int .i64, .p, []⟩
def T_laws_szProject : FSig := sg_ H_laws_szProject laws_szProject
theorem E_laws_szProject : fnOf tys [(51, T_laws_szActivityS), (52, T_laws_szLinkS), (53, T_laws_szResourceS), (54, T_laws_szIntS)] Tryz.f10 H_laws_szProject = T_laws_szProject := by kernel_rfl
theorem K_laws_szProject : SigOk Tryz.prog 10 T_laws_szProject := e_k E_laws_szProject (fnOf_ok rfl tysOk ⟨K_laws_szActivityS, K_laws_szLinkS, K_laws_szResourceS, K_laws_szIntS, trivial⟩ Tryz.func10 (by decide) rfl (fun _ h => by cases h) (nilEq_of (by kernel_rfl)))
def spec_l01In (x : D_Literal) (c : Unit) : (Option (Bool × Unit)) :=
  (Option.bind ((if (leZ x.2.1 x.1) = true then (some ((leZ x.1 x.2.2.1), ())) else (some (false, ()))) : (Option (Bool × Unit))) fun v0 => (some (v0.1, ())))
def H_spec_l01In : Hd := ⟨[.int .i64, .int .i64, .int .i64], [], none, .p, .bool, .p, []⟩
def T_spec_l01In : FSig := sg_ H_spec_l01In spec_l01In
theorem E_spec_l01In : fnOf tys [] Tryz.f111 H_spec_l01In = T_spec_l01In := by kernel_rfl
theorem K_spec_l01In : SigOk Tryz.prog 111 T_spec_l01In := e_k E_spec_l01In (fnOf_ok rfl tysOk trivial Tryz.func111 (by decide) rfl (fun _ h => by cases h) (nilEq_of (by kernel_rfl)))
abbrev s_spec_l04Nums_L0 : Type := (Int × (Int × ((List Int) × ((List Int) × (Int × Unit)))))
def spec_l04Nums_L0 : s_spec_l04Nums_L0 → Option (Out s_spec_l04Nums_L0 ((Bool × s_spec_l04Nums_L0) ⊕ Empty) (Bool × Unit)) :=
  (fun v0 => (if (ltZ v0.1 v0.2.1) = true then (Option.bind (getI v0.2.2.1 v0.1) fun v1 => (Option.bind ((Option.bind (spec_l01In (v1, (0, (20, ()))) ()) fun v2 => (some v2.1)) : (Option Bool)) fun v3 => (if (notB v3) = true then (some (Out.ret (false, ()))) else (some (Out.norm ((addZ .i64 v0.1 1), (v0.2.1, (v0.2.2.1, (v0.2.2.2.1, (v0.2.2.2.2.1, ())))))))))) else (some (Out.exit (Sum.inl ((ltZ v0.1 v0.2.1), (v0.1, (v0.2.1, (v0.2.2.1, (v0.2.2.2.1, (v0.2.2.2.2.1, ())))))))))))
def spec_l04Nums (x : ((List Int) × (Int × Unit))) (c : Unit) : (Option (Bool × Unit)) :=
  (Option.bind (loopN (A := s_spec_l04Nums_L0) big spec_l04Nums_L0 (0, ((lenI x.1), (x.1, (x.1, (x.2.1, ())))))) fun v4 => (match v4 with | Out.norm v5 => none | Out.exit v6 => (match ((match v6 with | Sum.inl v9 => (Sum.inl (v9.2.2.2.2.1, (v9.2.2.2.2.2.1, ()))) | Sum.inr v10 => (Empty.elim v10)) : (((List Int) × (Int × Unit)) ⊕ Empty)) with | Sum.inl v7 => (some ((eqZ (lenI v7.1) v7.2.1), ())) | Sum.inr v8 => none) | Out.ret v11 => (some v11)))
def H_spec_l04Nums : Hd := ⟨[.sl 3 (.int .i64), .int .i64], [], none, .p, .bool, .p, []⟩
def T_spec_l04Nums : FSig := sg_ H_spec_l04Nums spec_l04Nums
theorem E_spec_l04Nums : fnOf tys [(111, T_spec_l01In)] Tryz.f306 H_spec_l04Nums = T_spec_l04Nums := by kernel_rfl
theorem K_spec_l04Nums : SigOk Tryz.prog 306 T_spec_l04Nums := e_k E_spec_l04Nums (fnOf_ok rfl tysOk ⟨K_spec_l01In, trivial⟩ Tryz.func306 (by decide) rfl (fun _ h => by cases h) (nilEq_of (by kernel_rfl)))
def spec_ModeOk (x : (D_Mode × D_Step)) (c : Unit) : (Option (Bool × Unit)) :=
  (Option.bind ((Option.bind (spec_l01In (x.1.1, (1, (12, ()))) ()) fun v0 => (some v0.1)) : (Option Bool)) fun v1 => (Option.bind ((if v1 = true then (Option.bind ((Option.bind (spec_l04Nums (x.1.2.1, (x.2.1, ())) ()) fun v2 => (some v2.1)) : (Option Bool)) fun v3 => (Option.bind ((if v3 = true then (Option.bind ((Option.bind (spec_l04Nums (x.1.2.2.1, (x.2.2.1, ())) ()) fun v4 => (some v4.1)) : (Option Bool)) fun v5 => (some (v5, ()))) else (some (false, ()))) : (Option (Bool × Unit))) fun v6 => (some (v6.1, ())))) else (some (false, ()))) : (Option (Bool × Unit))) fun v7 => (some (v7.1, ()))))
def H_spec_ModeOk : Hd := ⟨[y_6, .int .i64, .int .i64], [], none, .p, .bool, .p, []⟩
def T_spec_ModeOk : FSig := sg_ H_spec_ModeOk spec_ModeOk
theorem E_spec_ModeOk : fnOf tys [(111, T_spec_l01In), (306, T_spec_l04Nums)] Tryz.f276 H_spec_ModeOk = T_spec_ModeOk := by kernel_rfl
theorem K_spec_ModeOk : SigOk Tryz.prog 276 T_spec_ModeOk := e_k E_spec_ModeOk (fnOf_ok rfl tysOk ⟨K_spec_l01In, K_spec_l04Nums, trivial⟩ Tryz.func276 (by decide) rfl (fun _ h => by cases h) (nilEq_of (by kernel_rfl)))
abbrev s_spec_IsName_L0 : Type := (Int × ((List UInt8) × Unit))
def spec_IsName_L0 : s_spec_IsName_L0 → Option (Out s_spec_IsName_L0 ((Bool × s_spec_IsName_L0) ⊕ Empty) (Bool × Unit)) :=
  (fun v0 => (if (ltZ v0.1 (lenI v0.2.1)) = true then (Option.bind (byteAt v0.2.1 v0.1) fun v1 => (Option.bind ((if (leZ 97 v1) = true then (Option.bind (byteAt v0.2.1 v0.1) fun v2 => (some ((leZ v2 122), (v0.1, (v0.2.1, ()))))) else (some (false, (v0.1, (v0.2.1, ()))))) : (Option (Bool × (Int × ((List UInt8) × Unit))))) fun v3 => (Option.bind ((if (notB v3.1) = true then (Option.bind ((if (eqZ v3.2.1 0) = true then (some (true, (v3.2.1, (v3.2.2.1, ())))) else (Option.bind (byteAt v3.2.2.1 v3.2.1) fun v4 => (Option.bind ((if (ltZ v4 48) = true then (some (true, (v3.2.1, (v3.2.2.1, ())))) else (Option.bind (byteAt v3.2.2.1 v3.2.1) fun v5 => (some ((ltZ 57 v5), (v3.2.1, (v3.2.2.1, ())))))) : (Option (Bool × (Int × ((List UInt8) × Unit))))) fun v6 => (some (v6.1, (v6.2.1, (v6.2.2.1, ()))))))) : (Option (Bool × (Int × ((List UInt8) × Unit))))) fun v7 => (some (v7.1, (v7.2.1, (v7.2.2.1, ()))))) else (some (false, (v3.2.1, (v3.2.2.1, ()))))) : (Option (Bool × (Int × ((List UInt8) × Unit))))) fun v8 => (if v8.1 = true then (some (Out.ret (false, ()))) else (some (Out.norm ((addZ .i64 v8.2.1 1), (v8.2.2.1, ())))))))) else (some (Out.exit (Sum.inl ((ltZ v0.1 (lenI v0.2.1)), (v0.1, (v0.2.1, ()))))))))
def spec_IsName (x : ((List UInt8) × Unit)) (c : Unit) : (Option (Bool × Unit)) :=
  (Option.bind (loopN (A := s_spec_IsName_L0) big spec_IsName_L0 (0, (x.1, ()))) fun v9 => (match v9 with | Out.norm v10 => none | Out.exit v11 => (match ((match v11 with | Sum.inl v16 => (Sum.inl (v16.2.2.1, ())) | Sum.inr v17 => (Empty.elim v17)) : (((List UInt8) × Unit) ⊕ Empty)) with | Sum.inl v12 => (Option.bind ((Option.bind (spec_l01In ((lenI v12.1), (1, (8, ()))) ()) fun v13 => (some v13.1)) : (Option Bool)) fun v14 => (some (v14, ()))) | Sum.inr v15 => none) | Out.ret v18 => (some v18)))
def H_spec_IsName : Hd := ⟨[.str], [], none, .p, .bool, .p, []⟩
def T_spec_IsName : FSig := sg_ H_spec_IsName spec_IsName
theorem E_spec_IsName : fnOf tys [(111, T_spec_l01In)] Tryz.f277 H_spec_IsName = T_spec_IsName := by kernel_rfl
theorem K_spec_IsName : SigOk Tryz.prog 277 T_spec_IsName := e_k E_spec_IsName (fnOf_ok rfl tysOk ⟨K_spec_l01In, trivial⟩ Tryz.func277 (by decide) rfl (fun _ h => by cases h) (nilEq_of (by kernel_rfl)))
abbrev s_spec_ActivityOk_L0 : Type := (Int × (Int × ((List D_Mode) × (Int × (Int × (D_Activity × Unit))))))
def spec_ActivityOk_L0 : s_spec_ActivityOk_L0 → Option (Out s_spec_ActivityOk_L0 ((Bool × s_spec_ActivityOk_L0) ⊕ Empty) (Bool × Unit)) :=
  (fun v0 => (if (ltZ v0.1 v0.2.1) = true then (Option.bind (getI v0.2.2.1 v0.1) fun v1 => (Option.bind ((Option.bind (spec_ModeOk (v1, (v0.2.2.2.1, (v0.2.2.2.2.1, ()))) ()) fun v2 => (some v2.1)) : (Option Bool)) fun v3 => (if (notB v3) = true then (some (Out.ret (false, ()))) else (some (Out.norm ((addZ .i64 v0.1 1), (v0.2.1, (v0.2.2.1, (v0.2.2.2.1, (v0.2.2.2.2.1, (v0.2.2.2.2.2.1, ()))))))))))) else (some (Out.exit (Sum.inl ((ltZ v0.1 v0.2.1), (v0.1, (v0.2.1, (v0.2.2.1, (v0.2.2.2.1, (v0.2.2.2.2.1, (v0.2.2.2.2.2.1, ()))))))))))))
def spec_ActivityOk (x : (D_Activity × D_Step)) (c : Unit) : (Option (Bool × Unit)) :=
  (Option.bind (loopN (A := s_spec_ActivityOk_L0) big spec_ActivityOk_L0 (0, ((lenI x.1.2.2.1), (x.1.2.2.1, (x.2.1, (x.2.2.1, (x.1, ()))))))) fun v4 => (match v4 with | Out.norm v5 => none | Out.exit v6 => (match ((match v6 with | Sum.inl v17 => (Sum.inl (v17.2.2.2.2.2.2.1, ())) | Sum.inr v18 => (Empty.elim v18)) : ((D_Activity × Unit) ⊕ Empty)) with | Sum.inl v7 => (Option.bind ((Option.bind (spec_IsName (v7.1.1, ()) ()) fun v8 => (some v8.1)) : (Option Bool)) fun v9 => (Option.bind ((if v9 = true then (Option.bind ((Option.bind (spec_l01In (v7.1.2.1, (0, (3, ()))) ()) fun v10 => (some v10.1)) : (Option Bool)) fun v11 => (Option.bind ((if v11 = true then (Option.bind ((Option.bind (spec_l01In ((lenI v7.1.2.2.1), (1, (3, ()))) ()) fun v12 => (some v12.1)) : (Option Bool)) fun v13 => (some (v13, ()))) else (some (false, ()))) : (Option (Bool × Unit))) fun v14 => (some (v14.1, ())))) else (some (false, ()))) : (Option (Bool × Unit))) fun v15 => (some (v15.1, ())))) | Sum.inr v16 => none) | Out.ret v19 => (some v19)))
def H_spec_ActivityOk : Hd := ⟨[y_3, .int .i64, .int .i64], [], none, .p, .bool, .p, []⟩
def T_spec_ActivityOk : FSig := sg_ H_spec_ActivityOk spec_ActivityOk
theorem E_spec_ActivityOk : fnOf tys [(111, T_spec_l01In), (276, T_spec_ModeOk), (277, T_spec_IsName)] Tryz.f225 H_spec_ActivityOk = T_spec_ActivityOk := by kernel_rfl
theorem K_spec_ActivityOk : SigOk Tryz.prog 225 T_spec_ActivityOk := e_k E_spec_ActivityOk (fnOf_ok rfl tysOk ⟨K_spec_l01In, K_spec_ModeOk, K_spec_IsName, trivial⟩ Tryz.func225 (by decide) rfl (fun _ h => by cases h) (nilEq_of (by kernel_rfl)))
abbrev s_spec_ActivityIndex_L0 : Type := (Int × (Int × ((List D_Activity) × ((List UInt8) × Unit))))
def spec_ActivityIndex_L0 : s_spec_ActivityIndex_L0 → Option (Out s_spec_ActivityIndex_L0 ((Bool × s_spec_ActivityIndex_L0) ⊕ Empty) (Int × Unit)) :=
  (fun v0 => (if (ltZ v0.1 v0.2.1) = true then (Option.bind (getI v0.2.2.1 v0.1) fun v1 => (if (eqS v1.1 v0.2.2.2.1) = true then (some (Out.ret (v0.1, ()))) else (some (Out.norm ((addZ .i64 v0.1 1), (v0.2.1, (v0.2.2.1, (v0.2.2.2.1, ())))))))) else (some (Out.exit (Sum.inl ((ltZ v0.1 v0.2.1), (v0.1, (v0.2.1, (v0.2.2.1, (v0.2.2.2.1, ()))))))))))
def spec_ActivityIndex (x : (D_Project × ((List UInt8) × Unit))) (c : Unit) : (Option (Int × Unit)) :=
  (Option.bind (loopN (A := s_spec_ActivityIndex_L0) big spec_ActivityIndex_L0 (0, ((lenI x.1.2.1), (x.1.2.1, (x.2.1, ()))))) fun v2 => (match v2 with | Out.norm v3 => none | Out.exit v4 => (match ((match v4 with | Sum.inl v7 => (Sum.inl ()) | Sum.inr v8 => (Empty.elim v8)) : (Unit ⊕ Empty)) with | Sum.inl v5 => (some ((-1), ())) | Sum.inr v6 => none) | Out.ret v9 => (some v9)))
def H_spec_ActivityIndex : Hd := ⟨[y_1, .str], [], none, .p, .int .i64, .p, []⟩
def T_spec_ActivityIndex : FSig := sg_ H_spec_ActivityIndex spec_ActivityIndex
theorem E_spec_ActivityIndex : fnOf tys [] Tryz.f226 H_spec_ActivityIndex = T_spec_ActivityIndex := by kernel_rfl
theorem K_spec_ActivityIndex : SigOk Tryz.prog 226 T_spec_ActivityIndex := e_k E_spec_ActivityIndex (fnOf_ok rfl tysOk trivial Tryz.func226 (by decide) rfl (fun _ h => by cases h) (nilEq_of (by kernel_rfl)))
abbrev s_spec_StepsOk_L0 : Type := (Int × (Int × ((List D_Step) × ((List D_Step) × Unit))))
def spec_StepsOk_L0 : s_spec_StepsOk_L0 → Option (Out s_spec_StepsOk_L0 ((Bool × s_spec_StepsOk_L0) ⊕ Empty) (Bool × Unit)) :=
  (fun v0 => (if (ltZ v0.1 v0.2.1) = true then (Option.bind (getI v0.2.2.1 v0.1) fun v1 => (Option.bind ((Option.bind (spec_l01In (v1.1, (0, (60, ()))) ()) fun v2 => (some v2.1)) : (Option Bool)) fun v3 => (Option.bind ((if (notB v3) = true then (some (true, (v0.1, (v0.2.1, (v0.2.2.1, (v0.2.2.2.1, ())))))) else (Option.bind ((Option.bind (spec_l01In (v1.2.1, (0, (20, ()))) ()) fun v4 => (some v4.1)) : (Option Bool)) fun v5 => (Option.bind ((if (notB v5) = true then (some (true, (v0.1, (v0.2.1, (v0.2.2.1, (v0.2.2.2.1, ())))))) else (Option.bind ((if (ltZ 0 v0.1) = true then (Option.bind (getI v0.2.2.2.1 (subZ .i64 v0.1 1)) fun v6 => (some ((leZ v1.1 v6.1), (v0.1, (v0.2.1, (v0.2.2.1, (v0.2.2.2.1, ()))))))) else (some (false, (v0.1, (v0.2.1, (v0.2.2.1, (v0.2.2.2.1, ()))))))) : (Option (Bool × (Int × (Int × ((List D_Step) × ((List D_Step) × Unit))))))) fun v7 => (some (v7.1, (v7.2.1, (v7.2.2.1, (v7.2.2.2.1, (v7.2.2.2.2.1, ())))))))) : (Option (Bool × (Int × (Int × ((List D_Step) × ((List D_Step) × Unit))))))) fun v8 => (some (v8.1, (v8.2.1, (v8.2.2.1, (v8.2.2.2.1, (v8.2.2.2.2.1, ()))))))))) : (Option (Bool × (Int × (Int × ((List D_Step) × ((List D_Step) × Unit))))))) fun v9 => (if v9.1 = true then (some (Out.ret (false, ()))) else (some (Out.norm ((addZ .i64 v9.2.1 1), (v9.2.2.1, (v9.2.2.2.1, (v9.2.2.2.2.1, ())))))))))) else (some (Out.exit (Sum.inl ((ltZ v0.1 v0.2.1), (v0.1, (v0.2.1, (v0.2.2.1, (v0.2.2.2.1, ()))))))))))
def spec_StepsOk (x : ((List D_Step) × Unit)) (c : Unit) : (Option (Bool × Unit)) :=
  (Option.bind (loopN (A := s_spec_StepsOk_L0) big spec_StepsOk_L0 (0, ((lenI x.1), (x.1, (x.1, ()))))) fun v10 => (match v10 with | Out.norm v11 => none | Out.exit v12 => (match ((match v12 with | Sum.inl v19 => (Sum.inl (v19.2.2.2.2.1, ())) | Sum.inr v20 => (Empty.elim v20)) : (((List D_Step) × Unit) ⊕ Empty)) with | Sum.inl v13 => (Option.bind ((Option.bind (spec_l01In ((lenI v13.1), (1, (8, ()))) ()) fun v14 => (some v14.1)) : (Option Bool)) fun v15 => (Option.bind ((if v15 = true then (Option.bind (getI v13.1 0) fun v16 => (some ((eqZ v16.1 0), ()))) else (some (false, ()))) : (Option (Bool × Unit))) fun v17 => (some (v17.1, ())))) | Sum.inr v18 => none) | Out.ret v21 => (some v21)))
def H_spec_StepsOk : Hd := ⟨[.sl 228 (.st [.int .i64, .int .i64])], [], none, .p, .bool, .p, []⟩
def T_spec_StepsOk : FSig := sg_ H_spec_StepsOk spec_StepsOk
theorem E_spec_StepsOk : fnOf tys [(111, T_spec_l01In)] Tryz.f262 H_spec_StepsOk = T_spec_StepsOk := by kernel_rfl
theorem K_spec_StepsOk : SigOk Tryz.prog 262 T_spec_StepsOk := e_k E_spec_StepsOk (fnOf_ok rfl tysOk ⟨K_spec_l01In, trivial⟩ Tryz.func262 (by decide) rfl (fun _ h => by cases h) (nilEq_of (by kernel_rfl)))
abbrev s_spec_ResourceOk_L0 : Type := (Int × (Int × ((List Int) × (Int × (Int × ((List (List Int)) × (D_Resource × Unit)))))))
def spec_ResourceOk_L0 : s_spec_ResourceOk_L0 → Option (Out s_spec_ResourceOk_L0 ((Bool × s_spec_ResourceOk_L0) ⊕ Empty) (Bool × Unit)) :=
  (fun v2 => (if (ltZ v2.1 v2.2.1) = true then (Option.bind (getI v2.2.2.1 v2.1) fun v3 => (Option.bind ((Option.bind (spec_l01In (v3, (0, (12, ()))) ()) fun v4 => (some v4.1)) : (Option Bool)) fun v5 => (if (notB v5) = true then (some (Out.ret (false, ()))) else (some (Out.norm ((addZ .i64 v2.1 1), (v2.2.1, (v2.2.2.1, (v2.2.2.2.1, (v2.2.2.2.2.1, (v2.2.2.2.2.2.1, (v2.2.2.2.2.2.2.1, ())))))))))))) else (some (Out.exit (Sum.inl ((ltZ v2.1 v2.2.1), (v2.1, (v2.2.1, (v2.2.2.1, (v2.2.2.2.1, (v2.2.2.2.2.1, (v2.2.2.2.2.2.1, (v2.2.2.2.2.2.2.1, ())))))))))))))
abbrev s_spec_ResourceOk_L1 : Type := (Int × (Int × ((List (List Int)) × (D_Resource × Unit))))
def spec_ResourceOk_L1 : s_spec_ResourceOk_L1 → Option (Out s_spec_ResourceOk_L1 ((Bool × s_spec_ResourceOk_L1) ⊕ Empty) (Bool × Unit)) :=
  (fun v0 => (if (ltZ v0.1 v0.2.1) = true then (Option.bind (getI v0.2.2.1 v0.1) fun v1 => (if (notB (eqZ (lenI v1) 4)) = true then (some (Out.ret (false, ()))) else (Option.bind (loopN (A := s_spec_ResourceOk_L0) big spec_ResourceOk_L0 (0, ((lenI v1), (v1, (v0.1, (v0.2.1, (v0.2.2.1, (v0.2.2.2.1, ())))))))) fun v6 => (match v6 with | Out.norm v7 => none | Out.exit v8 => (match ((match v8 with | Sum.inl v13 => (Sum.inl (v13.2.2.2.2.1, (v13.2.2.2.2.2.1, (v13.2.2.2.2.2.2.1, (v13.2.2.2.2.2.2.2.1, ()))))) | Sum.inr v14 => (Empty.elim v14)) : ((Int × (Int × ((List (List Int)) × (D_Resource × Unit)))) ⊕ Empty)) with | Sum.inl v9 => (some (Out.norm ((addZ .i64 v9.1 1), (v9.2.1, (v9.2.2.1, (v9.2.2.2.1, ())))))) | Sum.inr v10 => (match ((Empty.elim v10) : ((Int × (Int × ((List (List Int)) × (D_Resource × Unit)))) ⊕ Empty)) with | Sum.inl v11 => (some (Out.norm ((addZ .i64 v11.1 1), (v11.2.1, (v11.2.2.1, (v11.2.2.2.1, ())))))) | Sum.inr v12 => (some (Out.exit (Sum.inr (Empty.elim v12)))))) | Out.ret v15 => (some (Out.ret v15)))))) else (some (Out.exit (Sum.inl ((ltZ v0.1 v0.2.1), (v0.1, (v0.2.1, (v0.2.2.1, (v0.2.2.2.1, ()))))))))))
def spec_ResourceOk (x : (D_Resource × Unit)) (c : Unit) : (Option (Bool × Unit)) :=
  (Option.bind (loopN (A := s_spec_ResourceOk_L1) big spec_ResourceOk_L1 (0, ((lenI x.1.2.1), (x.1.2.1, (x.1, ()))))) fun v16 => (match v16 with | Out.norm v17 => none | Out.exit v18 => (match ((match v18 with | Sum.inl v25 => (Sum.inl (v25.2.2.2.2.1, ())) | Sum.inr v26 => (Empty.elim v26)) : ((D_Resource × Unit) ⊕ Empty)) with | Sum.inl v19 => (Option.bind ((Option.bind (spec_StepsOk (v19.1.1, ()) ()) fun v20 => (some v20.1)) : (Option Bool)) fun v21 => (Option.bind ((if v21 = true then (Option.bind ((if (eqZ (lenI v19.1.2.1) 0) = true then (some (true, ())) else (some ((eqZ (lenI v19.1.2.1) 4), ()))) : (Option (Bool × Unit))) fun v22 => (some (v22.1, ()))) else (some (false, ()))) : (Option (Bool × Unit))) fun v23 => (some (v23.1, ())))) | Sum.inr v24 => none) | Out.ret v27 => (some v27)))
def H_spec_ResourceOk : Hd := ⟨[y_4], [], none, .p, .bool, .p, []⟩
def T_spec_ResourceOk : FSig := sg_ H_spec_ResourceOk spec_ResourceOk
theorem E_spec_ResourceOk : fnOf tys [(111, T_spec_l01In), (262, T_spec_StepsOk)] Tryz.f227 H_spec_ResourceOk = T_spec_ResourceOk := by kernel_rfl
theorem K_spec_ResourceOk : SigOk Tryz.prog 227 T_spec_ResourceOk := e_k E_spec_ResourceOk (fnOf_ok rfl tysOk ⟨K_spec_l01In, K_spec_StepsOk, trivial⟩ Tryz.func227 (by decide) rfl (fun _ h => by cases h) (nilEq_of (by kernel_rfl)))
abbrev s_spec_ProjectOk_L0 : Type := (Int × (Int × ((List D_Activity) × (D_Project × (Int × Unit)))))
def spec_ProjectOk_L0 : s_spec_ProjectOk_L0 → Option (Out s_spec_ProjectOk_L0 ((Bool × s_spec_ProjectOk_L0) ⊕ Empty) (Bool × Unit)) :=
  (fun v8 => (if (ltZ v8.1 v8.2.1) = true then (Option.bind (getI v8.2.2.1 v8.1) fun v9 => (Option.bind ((Option.bind (spec_ActivityOk (v9, ((lenI v8.2.2.2.1.2.2.2.1), ((lenI v8.2.2.2.1.2.2.2.2.1), ()))) ()) fun v10 => (some v10.1)) : (Option Bool)) fun v11 => (Option.bind ((if (notB v11) = true then (some (true, (v8.1, (v8.2.1, (v8.2.2.1, (v8.2.2.2.1, (v8.2.2.2.2.1, ()))))))) else (Option.bind ((Option.bind (spec_ActivityIndex (v8.2.2.2.1, (v9.1, ())) ()) fun v12 => (some v12.1)) : (Option Int)) fun v13 => (some ((notB (eqZ v13 v8.1)), (v8.1, (v8.2.1, (v8.2.2.1, (v8.2.2.2.1, (v8.2.2.2.2.1, ()))))))))) : (Option (Bool × (Int × (Int × ((List D_Activity) × (D_Project × (Int × Unit)))))))) fun v14 => (if v14.1 = true then (some (Out.ret (false, ()))) else (some (Out.norm ((addZ .i64 v14.2.1 1), (v14.2.2.1, (v14.2.2.2.1, (v14.2.2.2.2.1, (v14.2.2.2.2.2.1, ()))))))))))) else (some (Out.exit (Sum.inl ((ltZ v8.1 v8.2.1), (v8.1, (v8.2.1, (v8.2.2.1, (v8.2.2.2.1, (v8.2.2.2.2.1, ())))))))))))
abbrev s_spec_ProjectOk_L1 : Type := (Int × (Int × ((List D_Resource) × (D_Project × (Int × Unit)))))
def spec_ProjectOk_L1 : s_spec_ProjectOk_L1 → Option (Out s_spec_ProjectOk_L1 ((Bool × s_spec_ProjectOk_L1) ⊕ Empty) (Bool × Unit)) :=
  (fun v19 => (if (ltZ v19.1 v19.2.1) = true then (Option.bind (getI v19.2.2.1 v19.1) fun v20 => (Option.bind ((Option.bind (spec_ResourceOk (v20, ()) ()) fun v21 => (some v21.1)) : (Option Bool)) fun v22 => (if (notB v22) = true then (some (Out.ret (false, ()))) else (some (Out.norm ((addZ .i64 v19.1 1), (v19.2.1, (v19.2.2.1, (v19.2.2.2.1, (v19.2.2.2.2.1, ())))))))))) else (some (Out.exit (Sum.inl ((ltZ v19.1 v19.2.1), (v19.1, (v19.2.1, (v19.2.2.1, (v19.2.2.2.1, (v19.2.2.2.2.1, ())))))))))))
abbrev s_spec_ProjectOk_L2 : Type := (Int × (Int × ((List Int) × (D_Project × (Int × Unit)))))
def spec_ProjectOk_L2 : s_spec_ProjectOk_L2 → Option (Out s_spec_ProjectOk_L2 ((Bool × s_spec_ProjectOk_L2) ⊕ Empty) (Bool × Unit)) :=
  (fun v27 => (if (ltZ v27.1 v27.2.1) = true then (Option.bind (getI v27.2.2.1 v27.1) fun v28 => (Option.bind ((Option.bind (spec_l01In (v28, (0, (100, ()))) ()) fun v29 => (some v29.1)) : (Option Bool)) fun v30 => (if (notB v30) = true then (some (Out.ret (false, ()))) else (some (Out.norm ((addZ .i64 v27.1 1), (v27.2.1, (v27.2.2.1, (v27.2.2.2.1, (v27.2.2.2.2.1, ())))))))))) else (some (Out.exit (Sum.inl ((ltZ v27.1 v27.2.1), (v27.1, (v27.2.1, (v27.2.2.1, (v27.2.2.2.1, (v27.2.2.2.2.1, ())))))))))))
abbrev s_spec_ProjectOk_L3 : Type := (Int × (Int × ((List D_Link) × (Int × Unit))))
def spec_ProjectOk_L3 : s_spec_ProjectOk_L3 → Option (Out s_spec_ProjectOk_L3 ((Bool × s_spec_ProjectOk_L3) ⊕ Empty) (Bool × Unit)) :=
  (fun v35 => (if (ltZ v35.1 v35.2.1) = true then (Option.bind (getI v35.2.2.1 v35.1) fun v36 => (Option.bind ((Option.bind (spec_l01In (v36.1, (0, ((subZ .i64 v35.2.2.2.1 1), ()))) ()) fun v37 => (some v37.1)) : (Option Bool)) fun v38 => (Option.bind ((if (notB v38) = true then (some (true, (v35.1, (v35.2.1, (v35.2.2.1, (v35.2.2.2.1, ())))))) else (Option.bind ((Option.bind (spec_l01In (v36.2.1, (0, ((subZ .i64 v35.2.2.2.1 1), ()))) ()) fun v39 => (some v39.1)) : (Option Bool)) fun v40 => (Option.bind ((if (notB v40) = true then (some (true, (v35.1, (v35.2.1, (v35.2.2.1, (v35.2.2.2.1, ())))))) else (Option.bind ((if (eqZ v36.1 v36.2.1) = true then (some (true, (v35.1, (v35.2.1, (v35.2.2.1, (v35.2.2.2.1, ())))))) else (Option.bind ((Option.bind (spec_l01In (v36.2.2.2.1, ((-60), (60, ()))) ()) fun v41 => (some v41.1)) : (Option Bool)) fun v42 => (some ((notB v42), (v35.1, (v35.2.1, (v35.2.2.1, (v35.2.2.2.1, ())))))))) : (Option (Bool × (Int × (Int × ((List D_Link) × (Int × Unit))))))) fun v43 => (some (v43.1, (v43.2.1, (v43.2.2.1, (v43.2.2.2.1, (v43.2.2.2.2.1, ())))))))) : (Option (Bool × (Int × (Int × ((List D_Link) × (Int × Unit))))))) fun v44 => (some (v44.1, (v44.2.1, (v44.2.2.1, (v44.2.2.2.1, (v44.2.2.2.2.1, ()))))))))) : (Option (Bool × (Int × (Int × ((List D_Link) × (Int × Unit))))))) fun v45 => (if v45.1 = true then (some (Out.ret (false, ()))) else (some (Out.norm ((addZ .i64 v45.2.1 1), (v45.2.2.1, (v45.2.2.2.1, (v45.2.2.2.2.1, ())))))))))) else (some (Out.exit (Sum.inl ((ltZ v35.1 v35.2.1), (v35.1, (v35.2.1, (v35.2.2.1, (v35.2.2.2.1, ()))))))))))
def spec_ProjectOk (x : (D_Project × Unit)) (c : Unit) : (Option (Bool × Unit)) :=
  (Option.bind ((Option.bind (spec_l01In (x.1.1, (1, (60, ()))) ()) fun v0 => (some v0.1)) : (Option Bool)) fun v1 => (Option.bind ((if (notB v1) = true then (some (true, (x.1, ((lenI x.1.2.1), ())))) else (Option.bind ((Option.bind (spec_l01In ((lenI x.1.2.1), (1, (6, ()))) ()) fun v2 => (some v2.1)) : (Option Bool)) fun v3 => (Option.bind ((if (notB v3) = true then (some (true, (x.1, ((lenI x.1.2.1), ())))) else (Option.bind ((if (ltZ 3 (lenI x.1.2.2.2.1)) = true then (some (true, (x.1, ((lenI x.1.2.1), ())))) else (Option.bind ((if (ltZ 2 (lenI x.1.2.2.2.2.1)) = true then (some (true, (x.1, ((lenI x.1.2.1), ())))) else (some ((ltZ 12 (lenI x.1.2.2.1)), (x.1, ((lenI x.1.2.1), ()))))) : (Option (Bool × (D_Project × (Int × Unit))))) fun v4 => (some (v4.1, (v4.2.1, (v4.2.2.1, ())))))) : (Option (Bool × (D_Project × (Int × Unit))))) fun v5 => (some (v5.1, (v5.2.1, (v5.2.2.1, ())))))) : (Option (Bool × (D_Project × (Int × Unit))))) fun v6 => (some (v6.1, (v6.2.1, (v6.2.2.1, ()))))))) : (Option (Bool × (D_Project × (Int × Unit))))) fun v7 => (if v7.1 = true then (some (false, ())) else (Option.bind (loopN (A := s_spec_ProjectOk_L0) big spec_ProjectOk_L0 (0, ((lenI v7.2.1.2.1), (v7.2.1.2.1, (v7.2.1, (v7.2.2.1, ())))))) fun v15 => (match v15 with | Out.norm v16 => none | Out.exit v17 => (match ((match v17 with | Sum.inl v63 => (Sum.inl (v63.2.2.2.2.1, (v63.2.2.2.2.2.1, ()))) | Sum.inr v64 => (Empty.elim v64)) : ((D_Project × (Int × Unit)) ⊕ Empty)) with | Sum.inl v18 => (Option.bind (loopN (A := s_spec_ProjectOk_L1) big spec_ProjectOk_L1 (0, ((lenI v18.1.2.2.2.1), (v18.1.2.2.2.1, (v18.1, (v18.2.1, ())))))) fun v23 => (match v23 with | Out.norm v24 => none | Out.exit v25 => (match ((match v25 with | Sum.inl v59 => (Sum.inl (v59.2.2.2.2.1, (v59.2.2.2.2.2.1, ()))) | Sum.inr v60 => (Empty.elim v60)) : ((D_Project × (Int × Unit)) ⊕ Empty)) with | Sum.inl v26 => (Option.bind (loopN (A := s_spec_ProjectOk_L2) big spec_ProjectOk_L2 (0, ((lenI v26.1.2.2.2.2.1), (v26.1.2.2.2.2.1, (v26.1, (v26.2.1, ())))))) fun v31 => (match v31 with | Out.norm v32 => none | Out.exit v33 => (match ((match v33 with | Sum.inl v55 => (Sum.inl (v55.2.2.2.2.1, (v55.2.2.2.2.2.1, ()))) | Sum.inr v56 => (Empty.elim v56)) : ((D_Project × (Int × Unit)) ⊕ Empty)) with | Sum.inl v34 => (Option.bind (loopN (A := s_spec_ProjectOk_L3) big spec_ProjectOk_L3 (0, ((lenI v34.1.2.2.1), (v34.1.2.2.1, (v34.2.1, ()))))) fun v46 => (match v46 with | Out.norm v47 => none | Out.exit v48 => (match ((match v48 with | Sum.inl v51 => (Sum.inl ()) | Sum.inr v52 => (Empty.elim v52)) : (Unit ⊕ Empty)) with | Sum.inl v49 => (some (true, ())) | Sum.inr v50 => none) | Out.ret v53 => (some v53))) | Sum.inr v54 => none) | Out.ret v57 => (some v57))) | Sum.inr v58 => none) | Out.ret v61 => (some v61))) | Sum.inr v62 => none) | Out.ret v65 => (some v65))))))
def H_spec_ProjectOk : Hd := ⟨[y_1], [], none, .p, .bool, .p, []⟩
def T_spec_ProjectOk : FSig := sg_ H_spec_ProjectOk spec_ProjectOk
theorem E_spec_ProjectOk : fnOf tys [(111, T_spec_l01In), (225, T_spec_ActivityOk), (226, T_spec_ActivityIndex), (227, T_spec_ResourceOk)] Tryz.f140 H_spec_ProjectOk = T_spec_ProjectOk := by kernel_rfl
theorem K_spec_ProjectOk : SigOk Tryz.prog 140 T_spec_ProjectOk := e_k E_spec_ProjectOk (fnOf_ok rfl tysOk ⟨K_spec_l01In, K_spec_ActivityOk, K_spec_ActivityIndex, K_spec_ResourceOk, trivial⟩ Tryz.func140 (by decide) rfl (fun _ h => by cases h) (nilEq_of (by kernel_rfl)))
abbrev s_spec_SetOk_L0 : Type := (Int × (Int × ((List Int) × Unit)))
def spec_SetOk_L0 : s_spec_SetOk_L0 → Option (Out s_spec_SetOk_L0 ((Bool × s_spec_SetOk_L0) ⊕ Empty) (Bool × Unit)) :=
  (fun v0 => (if (ltZ v0.1 v0.2.1) = true then (Option.bind ((if (ltZ 0 v0.1) = true then (Option.bind (getI v0.2.2.1 (subZ .i64 v0.1 1)) fun v1 => (Option.bind (getI v0.2.2.1 v0.1) fun v2 => (some ((leZ v2 v1), (v0.1, (v0.2.1, (v0.2.2.1, ()))))))) else (some (false, (v0.1, (v0.2.1, (v0.2.2.1, ())))))) : (Option (Bool × (Int × (Int × ((List Int) × Unit)))))) fun v3 => (if v3.1 = true then (some (Out.ret (false, ()))) else (some (Out.norm ((addZ .i64 v3.2.1 1), (v3.2.2.1, (v3.2.2.2.1, ()))))))) else (some (Out.exit (Sum.inl ((ltZ v0.1 v0.2.1), (v0.1, (v0.2.1, (v0.2.2.1, ())))))))))
def spec_SetOk (x : ((List Int) × Unit)) (c : Unit) : (Option (Bool × Unit)) :=
  (Option.bind (loopN (A := s_spec_SetOk_L0) big spec_SetOk_L0 (0, ((lenI x.1), (x.1, ())))) fun v4 => (match v4 with | Out.norm v5 => none | Out.exit v6 => (match ((match v6 with | Sum.inl v9 => (Sum.inl ()) | Sum.inr v10 => (Empty.elim v10)) : (Unit ⊕ Empty)) with | Sum.inl v7 => (some (true, ())) | Sum.inr v8 => none) | Out.ret v11 => (some v11)))
def H_spec_SetOk : Hd := ⟨[.sl 3 (.int .i64)], [], none, .p, .bool, .p, []⟩
def T_spec_SetOk : FSig := sg_ H_spec_SetOk spec_SetOk
theorem E_spec_SetOk : fnOf tys [] Tryz.f178 H_spec_SetOk = T_spec_SetOk := by kernel_rfl
theorem K_spec_SetOk : SigOk Tryz.prog 178 T_spec_SetOk := e_k E_spec_SetOk (fnOf_ok rfl tysOk trivial Tryz.func178 (by decide) rfl (fun _ h => by cases h) (nilEq_of (by kernel_rfl)))
abbrev s_spec_SetHas_L0 : Type := (Int × (Int × ((List Int) × (Int × Unit))))
def spec_SetHas_L0 : s_spec_SetHas_L0 → Option (Out s_spec_SetHas_L0 ((Bool × s_spec_SetHas_L0) ⊕ Empty) (Bool × Unit)) :=
  (fun v0 => (if (ltZ v0.1 v0.2.1) = true then (Option.bind (getI v0.2.2.1 v0.1) fun v1 => (if (eqZ v1 v0.2.2.2.1) = true then (some (Out.ret (true, ()))) else (some (Out.norm ((addZ .i64 v0.1 1), (v0.2.1, (v0.2.2.1, (v0.2.2.2.1, ())))))))) else (some (Out.exit (Sum.inl ((ltZ v0.1 v0.2.1), (v0.1, (v0.2.1, (v0.2.2.1, (v0.2.2.2.1, ()))))))))))
def spec_SetHas (x : ((List Int) × (Int × Unit))) (c : Unit) : (Option (Bool × Unit)) :=
  (Option.bind (loopN (A := s_spec_SetHas_L0) big spec_SetHas_L0 (0, ((lenI x.1), (x.1, (x.2.1, ()))))) fun v2 => (match v2 with | Out.norm v3 => none | Out.exit v4 => (match ((match v4 with | Sum.inl v7 => (Sum.inl ()) | Sum.inr v8 => (Empty.elim v8)) : (Unit ⊕ Empty)) with | Sum.inl v5 => (some (false, ())) | Sum.inr v6 => none) | Out.ret v9 => (some v9)))
def H_spec_SetHas : Hd := ⟨[.sl 3 (.int .i64), .int .i64], [], none, .p, .bool, .p, []⟩
def T_spec_SetHas : FSig := sg_ H_spec_SetHas spec_SetHas
theorem E_spec_SetHas : fnOf tys [] Tryz.f121 H_spec_SetHas = T_spec_SetHas := by kernel_rfl
theorem K_spec_SetHas : SigOk Tryz.prog 121 T_spec_SetHas := e_k E_spec_SetHas (fnOf_ok rfl tysOk trivial Tryz.func121 (by decide) rfl (fun _ h => by cases h) (nilEq_of (by kernel_rfl)))
def spec_SetSubset_L0 : (Int × D_Mode) → Option (Out (Int × D_Mode) ((Bool × (Int × D_Mode)) ⊕ Empty) (Bool × Unit)) :=
  (fun v0 => (if (ltZ v0.1 v0.2.1) = true then (Option.bind (getI v0.2.2.1 v0.1) fun v1 => (Option.bind ((Option.bind (spec_SetHas (v0.2.2.2.1, (v1, ())) ()) fun v2 => (some v2.1)) : (Option Bool)) fun v3 => (if (notB v3) = true then (some (Out.ret (false, ()))) else (some (Out.norm ((addZ .i64 v0.1 1), (v0.2.1, (v0.2.2.1, (v0.2.2.2.1, ()))))))))) else (some (Out.exit (Sum.inl ((ltZ v0.1 v0.2.1), (v0.1, (v0.2.1, (v0.2.2.1, (v0.2.2.2.1, ()))))))))))
def spec_SetSubset (x : ((List Int) × ((List Int) × Unit))) (c : Unit) : (Option (Bool × Unit)) :=
  (Option.bind (loopN (A := (Int × D_Mode)) big spec_SetSubset_L0 (0, ((lenI x.1), (x.1, (x.2.1, ()))))) fun v4 => (match v4 with | Out.norm v5 => none | Out.exit v6 => (match ((match v6 with | Sum.inl v9 => (Sum.inl ()) | Sum.inr v10 => (Empty.elim v10)) : (Unit ⊕ Empty)) with | Sum.inl v7 => (some (true, ())) | Sum.inr v8 => none) | Out.ret v11 => (some v11)))
def H_spec_SetSubset : Hd := ⟨[.sl 3 (.int .i64), .sl 3 (.int .i64)], [], none, .p, .bool, .p, []⟩
def T_spec_SetSubset : FSig := sg_ H_spec_SetSubset spec_SetSubset
theorem E_spec_SetSubset : fnOf tys [(121, T_spec_SetHas)] Tryz.f179 H_spec_SetSubset = T_spec_SetSubset := by kernel_rfl
theorem K_spec_SetSubset : SigOk Tryz.prog 179 T_spec_SetSubset := e_k E_spec_SetSubset (fnOf_ok rfl tysOk ⟨K_spec_SetHas, trivial⟩ Tryz.func179 (by decide) rfl (fun _ h => by cases h) (nilEq_of (by kernel_rfl)))
abbrev s_spec_IntRange_L0 : Type := (Int × (Int × ((List Int) × Unit)))
def spec_IntRange_L0 : s_spec_IntRange_L0 → Option (Out s_spec_IntRange_L0 ((Bool × s_spec_IntRange_L0) ⊕ Empty) ((List Int) × Unit)) :=
  (fun v2 => (if (ltZ v2.1 v2.2.1) = true then (Option.bind (addI v2.2.2.1 (v2.1 :: [])) fun v3 => (some (Out.norm ((addZ .i64 v2.1 1), (v2.2.1, (v3, ())))))) else (some (Out.exit (Sum.inl ((ltZ v2.1 v2.2.1), (v2.1, (v2.2.1, (v2.2.2.1, ())))))))))
def spec_IntRange (x : (Int × Unit)) (c : Unit) : (Option ((List Int) × Unit)) :=
  (Option.bind ((Option.bind (spec_l01In (x.1, (0, (200, ()))) ()) fun v0 => (some v0.1)) : (Option Bool)) fun v1 => (if (notB v1) = true then (some ([], ())) else (Option.bind (loopN (A := s_spec_IntRange_L0) big spec_IntRange_L0 (0, (x.1, ([], ())))) fun v4 => (match v4 with | Out.norm v5 => none | Out.exit v6 => (match ((match v6 with | Sum.inl v9 => (Sum.inl (v9.2.2.2.1, ())) | Sum.inr v10 => (Empty.elim v10)) : (((List Int) × Unit) ⊕ Empty)) with | Sum.inl v7 => (some (v7.1, ())) | Sum.inr v8 => none) | Out.ret v11 => (some v11)))))
def H_spec_IntRange : Hd := ⟨[.int .i64], [], none, .p, .sl 3 (.int .i64), (Ty.all (.sl 3 (.int .i64))), []⟩
def T_spec_IntRange : FSig := sg_ H_spec_IntRange spec_IntRange
theorem E_spec_IntRange : fnOf tys [(111, T_spec_l01In)] Tryz.f203 H_spec_IntRange = T_spec_IntRange := by kernel_rfl
theorem K_spec_IntRange : SigOk Tryz.prog 203 T_spec_IntRange := e_k E_spec_IntRange (fnOf_ok rfl tysOk ⟨K_spec_l01In, trivial⟩ Tryz.func203 (by decide) rfl (fun _ h => by cases h) (nilEq_of (by kernel_rfl)))
def spec_l02Max (x : D_Step) (c : Unit) : (Option (Int × Unit)) :=
  (if (ltZ x.2.1 x.1) = true then (some (x.1, ())) else (some (x.2.1, ())))
def H_spec_l02Max : Hd := ⟨[.int .i64, .int .i64], [], none, .p, .int .i64, .p, []⟩
def T_spec_l02Max : FSig := sg_ H_spec_l02Max spec_l02Max
theorem E_spec_l02Max : fnOf tys [] Tryz.f56 H_spec_l02Max = T_spec_l02Max := by kernel_rfl
theorem K_spec_l02Max : SigOk Tryz.prog 56 T_spec_l02Max := e_k E_spec_l02Max (fnOf_ok rfl tysOk trivial Tryz.func56 (by decide) rfl (fun _ h => by cases h) (nilEq_of (by kernel_rfl)))
abbrev s_spec_l02Put_L0 : Type := (Int × ((List Int) × (Int × Unit)))
def spec_l02Put_L0 : s_spec_l02Put_L0 → Option (Out s_spec_l02Put_L0 ((Bool × s_spec_l02Put_L0) ⊕ Empty) ((List Int) × Unit)) :=
  (fun v2 => (Option.bind ((if (ltZ v2.2.2.1 (lenI v2.2.1)) = true then (Option.bind (getI v2.2.1 v2.2.2.1) fun v3 => (some ((ltZ v3 v2.1), (v2.1, (v2.2.1, (v2.2.2.1, ())))))) else (some (false, (v2.1, (v2.2.1, (v2.2.2.1, ())))))) : (Option (Bool × (Int × ((List Int) × (Int × Unit)))))) fun v4 => (if v4.1 = true then (some (Out.norm (v4.2.1, (v4.2.2.1, ((addZ .i64 v4.2.2.2.1 1), ()))))) else (some (Out.exit (Sum.inl v4))))))
def spec_l02Put (x : ((List Int) × (Int × Unit))) (c : Unit) : (Option ((List Int) × Unit)) :=
  (Option.bind ((Option.bind (spec_SetHas (x.1, (x.2.1, ())) ()) fun v0 => (some v0.1)) : (Option Bool)) fun v1 => (if v1 = true then (some (x.1, ())) else (Option.bind (loopN (A := s_spec_l02Put_L0) big spec_l02Put_L0 (x.2.1, (x.1, (0, ())))) fun v5 => (match v5 with | Out.norm v6 => none | Out.exit v7 => (match ((match v7 with | Sum.inl v15 => (Sum.inl (v15.2.1, (v15.2.2.1, (v15.2.2.2.1, ())))) | Sum.inr v16 => (Empty.elim v16)) : ((Int × ((List Int) × (Int × Unit))) ⊕ Empty)) with | Sum.inl v8 => (Option.bind (cutI v8.2.1 0 v8.2.2.1) fun v9 => (Option.bind (addI [] v9) fun v10 => (Option.bind (addI v10 (v8.1 :: [])) fun v11 => (Option.bind (cutI v8.2.1 v8.2.2.1 (lenI v8.2.1)) fun v12 => (Option.bind (addI v11 v12) fun v13 => (some (v13, ()))))))) | Sum.inr v14 => none) | Out.ret v17 => (some v17)))))
def H_spec_l02Put : Hd := ⟨[.sl 3 (.int .i64), .int .i64], [], none, .p, .sl 3 (.int .i64), .p, []⟩
def T_spec_l02Put : FSig := sg_ H_spec_l02Put spec_l02Put
theorem E_spec_l02Put : fnOf tys [(121, T_spec_SetHas)] Tryz.f155 H_spec_l02Put = T_spec_l02Put := by kernel_rfl
theorem K_spec_l02Put : SigOk Tryz.prog 155 T_spec_l02Put := e_k E_spec_l02Put (fnOf_ok rfl tysOk ⟨K_spec_SetHas, trivial⟩ Tryz.func155 (by decide) rfl (fun _ h => by cases h) (nilEq_of (by kernel_rfl)))
def spec_SetOf_L0 : (Int × D_Mode) → Option (Out (Int × D_Mode) ((Bool × (Int × D_Mode)) ⊕ Empty) ((List Int) × Unit)) :=
  (fun v0 => (if (ltZ v0.1 v0.2.1) = true then (Option.bind (getI v0.2.2.1 v0.1) fun v1 => (Option.bind ((Option.bind (spec_l02Put (v0.2.2.2.1, (v1, ())) ()) fun v2 => (some v2.1)) : (Option (List Int))) fun v3 => (some (Out.norm ((addZ .i64 v0.1 1), (v0.2.1, (v0.2.2.1, (v3, ())))))))) else (some (Out.exit (Sum.inl ((ltZ v0.1 v0.2.1), (v0.1, (v0.2.1, (v0.2.2.1, (v0.2.2.2.1, ()))))))))))
def spec_SetOf (x : ((List Int) × Unit)) (c : Unit) : (Option ((List Int) × Unit)) :=
  (Option.bind (loopN (A := (Int × D_Mode)) big spec_SetOf_L0 (0, ((lenI x.1), (x.1, ([], ()))))) fun v4 => (match v4 with | Out.norm v5 => none | Out.exit v6 => (match ((match v6 with | Sum.inl v9 => (Sum.inl (v9.2.2.2.2.1, ())) | Sum.inr v10 => (Empty.elim v10)) : (((List Int) × Unit) ⊕ Empty)) with | Sum.inl v7 => (some (v7.1, ())) | Sum.inr v8 => none) | Out.ret v11 => (some v11)))
def H_spec_SetOf : Hd := ⟨[.sl 3 (.int .i64)], [], none, .p, .sl 3 (.int .i64), .p, [(1, .p), (2, .p), (3, .p)]⟩
def T_spec_SetOf : FSig := sg_ H_spec_SetOf spec_SetOf
theorem E_spec_SetOf : fnOf tys [(155, T_spec_l02Put)] Tryz.f156 H_spec_SetOf = T_spec_SetOf := by kernel_rfl
theorem K_spec_SetOf : SigOk Tryz.prog 156 T_spec_SetOf := e_k E_spec_SetOf (fnOf_ok rfl tysOk ⟨K_spec_l02Put, trivial⟩ Tryz.func156 (by decide) rfl (fun _ h => by cases h) (nilEq_of (by kernel_rfl)))
abbrev s_spec_l03At_L0 : Type := (Int × (Int × ((List D_Step) × D_Step)))
def spec_l03At_L0 : s_spec_l03At_L0 → Option (Out s_spec_l03At_L0 ((Bool × s_spec_l03At_L0) ⊕ Empty) (Int × Unit)) :=
  (fun v0 => (if (ltZ v0.1 v0.2.1) = true then (Option.bind (getI v0.2.2.1 v0.1) fun v1 => (Option.bind ((if (leZ v1.1 v0.2.2.2.1) = true then (some (Out.norm (v0.1, (v0.2.1, (v0.2.2.1, (v0.2.2.2.1, (v1.2.1, ()))))))) else (some (Out.norm (v0.1, (v0.2.1, (v0.2.2.1, (v0.2.2.2.1, (v0.2.2.2.2.1, ())))))))) : (Option (Out (Int × (Int × ((List D_Step) × D_Step))) Empty (Int × Unit)))) fun v2 => (match ((match ((match v2 with | Out.norm v11 => (Out.norm v11) | Out.exit v12 => (Out.exit v12) | Out.ret v13 => (Out.ret v13)) : (Out (Int × (Int × ((List D_Step) × D_Step))) Empty (Int × Unit))) with | Out.norm v8 => (Out.norm v8) | Out.exit v9 => (Out.exit v9) | Out.ret v10 => (Out.ret v10)) : (Out (Int × (Int × ((List D_Step) × D_Step))) Empty (Int × Unit))) with | Out.norm v3 => (some (Out.norm ((addZ .i64 v3.1 1), (v3.2.1, (v3.2.2.1, (v3.2.2.2.1, (v3.2.2.2.2.1, ()))))))) | Out.exit v4 => (match ((Empty.elim v4) : ((Int × (Int × ((List D_Step) × D_Step))) ⊕ Empty)) with | Sum.inl v5 => (some (Out.norm ((addZ .i64 v5.1 1), (v5.2.1, (v5.2.2.1, (v5.2.2.2.1, (v5.2.2.2.2.1, ()))))))) | Sum.inr v6 => (some (Out.exit (Sum.inr (Empty.elim v6))))) | Out.ret v7 => (some (Out.ret v7))))) else (some (Out.exit (Sum.inl ((ltZ v0.1 v0.2.1), (v0.1, (v0.2.1, (v0.2.2.1, (v0.2.2.2.1, (v0.2.2.2.2.1, ())))))))))))
def spec_l03At (x : ((List D_Step) × (Int × Unit))) (c : Unit) : (Option (Int × Unit)) :=
  (Option.bind (loopN (A := s_spec_l03At_L0) big spec_l03At_L0 (0, ((lenI x.1), (x.1, (x.2.1, (0, ())))))) fun v14 => (match v14 with | Out.norm v15 => none | Out.exit v16 => (match ((match v16 with | Sum.inl v19 => (Sum.inl (v19.2.2.2.2.2.1, ())) | Sum.inr v20 => (Empty.elim v20)) : ((Int × Unit) ⊕ Empty)) with | Sum.inl v17 => (some (v17.1, ())) | Sum.inr v18 => none) | Out.ret v21 => (some v21)))
def H_spec_l03At : Hd := ⟨[.sl 228 (.st [.int .i64, .int .i64]), .int .i64], [], none, .p, .int .i64, .p, []⟩
def T_spec_l03At : FSig := sg_ H_spec_l03At spec_l03At
theorem E_spec_l03At : fnOf tys [] Tryz.f221 H_spec_l03At = T_spec_l03At := by kernel_rfl
theorem K_spec_l03At : SigOk Tryz.prog 221 T_spec_l03At := e_k E_spec_l03At (fnOf_ok rfl tysOk trivial Tryz.func221 (by decide) rfl (fun _ h => by cases h) (nilEq_of (by kernel_rfl)))
def spec_l03Span (x : ((List D_Step) × D_Step)) (c : Unit) : (Option (Bool × Unit)) :=
  (Option.bind ((Option.bind (spec_StepsOk (x.1, ()) ()) fun v0 => (some v0.1)) : (Option Bool)) fun v1 => (Option.bind ((if v1 = true then (Option.bind ((Option.bind (spec_l01In (x.2.1, (0, (60, ()))) ()) fun v2 => (some v2.1)) : (Option Bool)) fun v3 => (Option.bind ((if v3 = true then (Option.bind ((Option.bind (spec_l01In (x.2.2.1, (0, (60, ()))) ()) fun v4 => (some v4.1)) : (Option Bool)) fun v5 => (some (v5, ()))) else (some (false, ()))) : (Option (Bool × Unit))) fun v6 => (some (v6.1, ())))) else (some (false, ()))) : (Option (Bool × Unit))) fun v7 => (some (v7.1, ()))))
def H_spec_l03Span : Hd := ⟨[.sl 228 (.st [.int .i64, .int .i64]), .int .i64, .int .i64], [], none, .p, .bool, .p, []⟩
def T_spec_l03Span : FSig := sg_ H_spec_l03Span spec_l03Span
theorem E_spec_l03Span : fnOf tys [(111, T_spec_l01In), (262, T_spec_StepsOk)] Tryz.f301 H_spec_l03Span = T_spec_l03Span := by kernel_rfl
theorem K_spec_l03Span : SigOk Tryz.prog 301 T_spec_l03Span := e_k E_spec_l03Span (fnOf_ok rfl tysOk ⟨K_spec_l01In, K_spec_StepsOk, trivial⟩ Tryz.func301 (by decide) rfl (fun _ h => by cases h) (nilEq_of (by kernel_rfl)))
abbrev s_spec_TotalCapacity_L0 : Type := (Int × (Int × ((List D_Step) × (Int × Unit))))
def spec_TotalCapacity_L0 : s_spec_TotalCapacity_L0 → Option (Out s_spec_TotalCapacity_L0 ((Bool × s_spec_TotalCapacity_L0) ⊕ Empty) (Int × Unit)) :=
  (fun v2 => (if (ltZ v2.1 v2.2.1) = true then (Option.bind ((Option.bind (spec_l03At (v2.2.2.1, (v2.1, ())) ()) fun v3 => (some v3.1)) : (Option Int)) fun v4 => (some (Out.norm ((addZ .i64 v2.1 1), (v2.2.1, (v2.2.2.1, ((addZ .i64 v2.2.2.2.1 v4), ()))))))) else (some (Out.exit (Sum.inl ((ltZ v2.1 v2.2.1), (v2.1, (v2.2.1, (v2.2.2.1, (v2.2.2.2.1, ()))))))))))
def spec_TotalCapacity (x : ((List D_Step) × D_Step)) (c : Unit) : (Option (Int × Unit)) :=
  (Option.bind ((Option.bind (spec_l03Span (x.1, (x.2.1, (x.2.2.1, ()))) ()) fun v0 => (some v0.1)) : (Option Bool)) fun v1 => (if (notB v1) = true then (some (0, ())) else (Option.bind (loopN (A := s_spec_TotalCapacity_L0) big spec_TotalCapacity_L0 (x.2.1, (x.2.2.1, (x.1, (0, ()))))) fun v5 => (match v5 with | Out.norm v6 => none | Out.exit v7 => (match ((match v7 with | Sum.inl v10 => (Sum.inl (v10.2.2.2.2.1, ())) | Sum.inr v11 => (Empty.elim v11)) : ((Int × Unit) ⊕ Empty)) with | Sum.inl v8 => (some (v8.1, ())) | Sum.inr v9 => none) | Out.ret v12 => (some v12)))))
def H_spec_TotalCapacity : Hd := ⟨[.sl 228 (.st [.int .i64, .int .i64]), .int .i64, .int .i64], [], none, .p, .int .i64, .p, []⟩
def T_spec_TotalCapacity : FSig := sg_ H_spec_TotalCapacity spec_TotalCapacity
theorem E_spec_TotalCapacity : fnOf tys [(221, T_spec_l03At), (301, T_spec_l03Span)] Tryz.f259 H_spec_TotalCapacity = T_spec_TotalCapacity := by kernel_rfl
theorem K_spec_TotalCapacity : SigOk Tryz.prog 259 T_spec_TotalCapacity := e_k E_spec_TotalCapacity (fnOf_ok rfl tysOk ⟨K_spec_l03At, K_spec_l03Span, trivial⟩ Tryz.func259 (by decide) rfl (fun _ h => by cases h) (nilEq_of (by kernel_rfl)))
def spec_IsMachine (x : (D_Project × (Int × Unit))) (c : Unit) : (Option (Bool × Unit)) :=
  (Option.bind ((Option.bind (spec_l01In (x.2.1, (0, ((subZ .i64 (lenI x.1.2.2.2.1) 1), ()))) ()) fun v0 => (some v0.1)) : (Option Bool)) fun v1 => (Option.bind ((if v1 = true then (Option.bind (getI x.1.2.2.2.1 x.2.1) fun v2 => (some ((ltZ 0 (lenI v2.2.1)), ()))) else (some (false, ()))) : (Option (Bool × Unit))) fun v3 => (some (v3.1, ()))))
def H_spec_IsMachine : Hd := ⟨[y_1, .int .i64], [], none, .p, .bool, .p, []⟩
def T_spec_IsMachine : FSig := sg_ H_spec_IsMachine spec_IsMachine
theorem E_spec_IsMachine : fnOf tys [(111, T_spec_l01In)] Tryz.f206 H_spec_IsMachine = T_spec_IsMachine := by kernel_rfl
theorem K_spec_IsMachine : SigOk Tryz.prog 206 T_spec_IsMachine := e_k E_spec_IsMachine (fnOf_ok rfl tysOk ⟨K_spec_l01In, trivial⟩ Tryz.func206 (by decide) rfl (fun _ h => by cases h) (nilEq_of (by kernel_rfl)))
def laws_toIntS_L0 : D_Mode → Option (Out D_Mode ((Bool × D_Mode) ⊕ Empty) ((List Int) × Unit)) :=
  (fun v1 => (if (ltZ v1.1 (lenI v1.2.1)) = true then (Option.bind (getI v1.2.1 v1.1) fun v2 => (Option.bind ((Option.bind (getI v1.2.2.1 v1.1) fun v3 => (some ())) : (Option Unit)) fun v4 => (Option.bind ((Option.bind ((Option.bind (getI v1.2.2.1 v1.1) fun v5 => (some v5)) : (Option Int)) fun v6 => (some v2)) : (Option Int)) fun v7 => (some (Out.norm ((addZ .i64 v1.1 1), (v1.2.1, ((setI v1.2.2.1 v1.1 (fun v8 => v7)), ())))))))) else (some (Out.exit (Sum.inl ((ltZ v1.1 (lenI v1.2.1)), (v1.1, (v1.2.1, (v1.2.2.1, ())))))))))
def laws_toIntS (x : ((List Int) × Unit)) (c : Unit) : (Option ((List Int) × Unit)) :=
  (Option.bind ((if (eqZ (lenI x.1) (lenI x.1)) = true then (zerosI (lenI x.1) 0) else none) : (Option (List Int))) fun v0 => (Option.bind (loopN (A := D_Mode) big laws_toIntS_L0 (0, (x.1, (v0, ())))) fun v9 => (match v9 with | Out.norm v10 => none | Out.exit v11 => (match ((match v11 with | Sum.inl v14 => (Sum.inl (v14.2.2.2.1, ())) | Sum.inr v15 => (Empty.elim v15)) : (((List Int) × Unit) ⊕ Empty)) with | Sum.inl v12 => (some (v12.1, ())) | Sum.inr v13 => none) | Out.ret v16 => (some v16))))
def H_laws_toIntS : Hd := ⟨[.sl 3 (.int .i64)], [], none, .p, .sl 3 (.int .i64), (Ty.all (.sl 3 (.int .i64))), []⟩
def T_laws_toIntS : FSig := sg_ H_laws_toIntS laws_toIntS
theorem E_laws_toIntS : fnOf tys [] Tryz.f61 H_laws_toIntS = T_laws_toIntS := by kernel_rfl
theorem K_laws_toIntS : SigOk Tryz.prog 61 T_laws_toIntS := e_k E_laws_toIntS (fnOf_ok rfl tysOk trivial Tryz.func61 (by decide) rfl (fun _ h => by cases h) (nilEq_of (by kernel_rfl)))
def laws_toMode (x : (D_Mode × Unit)) (c : Unit) : (Option (D_Mode × Unit)) :=
  (Option.bind ((Option.bind (laws_toIntS (x.1.2.1, ()) ()) fun v0 => (some v0.1)) : (Option (List Int))) fun v1 => (Option.bind ((Option.bind (laws_toIntS (x.1.2.2.1, ()) ()) fun v2 => (some v2.1)) : (Option (List Int))) fun v3 => (some ((x.1.1, (v1, (v3, ()))), ()))))
def H_laws_toMode : Hd := ⟨[y_6], [], none, .p, y_6, (Ty.all (y_6)), []⟩
def T_laws_toMode : FSig := sg_ H_laws_toMode laws_toMode
theorem E_laws_toMode : fnOf tys [(61, T_laws_toIntS)] Tryz.f264 H_laws_toMode = T_laws_toMode := by kernel_rfl
theorem K_laws_toMode : SigOk Tryz.prog 264 T_laws_toMode := e_k E_laws_toMode (fnOf_ok rfl tysOk ⟨K_laws_toIntS, trivial⟩ Tryz.func264 (by decide) rfl (fun _ h => by cases h) (nilEq_of (by kernel_rfl)))
abbrev s_laws_toModeS_L0 : Type := (Int × ((List D_Mode) × ((List D_Mode) × Unit)))
def laws_toModeS_L0 : s_laws_toModeS_L0 → Option (Out s_laws_toModeS_L0 ((Bool × s_laws_toModeS_L0) ⊕ Empty) ((List D_Mode) × Unit)) :=
  (fun v1 => (if (ltZ v1.1 (lenI v1.2.1)) = true then (Option.bind (getI v1.2.1 v1.1) fun v2 => (Option.bind ((Option.bind (laws_toMode (v2, ()) ()) fun v3 => (some v3.1)) : (Option D_Mode)) fun v4 => (Option.bind ((Option.bind (getI v1.2.2.1 v1.1) fun v5 => (some ())) : (Option Unit)) fun v6 => (Option.bind ((Option.bind ((Option.bind (getI v1.2.2.1 v1.1) fun v7 => (some v7)) : (Option D_Mode)) fun v8 => (some v4)) : (Option D_Mode)) fun v9 => (some (Out.norm ((addZ .i64 v1.1 1), (v1.2.1, ((setI v1.2.2.1 v1.1 (fun v10 => v9)), ()))))))))) else (some (Out.exit (Sum.inl ((ltZ v1.1 (lenI v1.2.1)), (v1.1, (v1.2.1, (v1.2.2.1, ())))))))))
def laws_toModeS (x : ((List D_Mode) × Unit)) (c : Unit) : (Option ((List D_Mode) × Unit)) :=
  (Option.bind ((if (eqZ (lenI x.1) (lenI x.1)) = true then (zerosI (lenI x.1) (0, ([], ([], ())))) else none) : (Option (List D_Mode))) fun v0 => (Option.bind (loopN (A := s_laws_toModeS_L0) big laws_toModeS_L0 (0, (x.1, (v0, ())))) fun v11 => (match v11 with | Out.norm v12 => none | Out.exit v13 => (match ((match v13 with | Sum.inl v16 => (Sum.inl (v16.2.2.2.1, ())) | Sum.inr v17 => (Empty.elim v17)) : (((List D_Mode) × Unit) ⊕ Empty)) with | Sum.inl v14 => (some (v14.1, ())) | Sum.inr v15 => none) | Out.ret v18 => (some v18))))
def H_laws_toModeS : Hd := ⟨[.sl 242 (y_6)], [], none, .p, .sl 172 (y_6), (Ty.all (.sl 172 (y_6))), []⟩
def T_laws_toModeS : FSig := sg_ H_laws_toModeS laws_toModeS
theorem E_laws_toModeS : fnOf tys [(264, T_laws_toMode)] Tryz.f208 H_laws_toModeS = T_laws_toModeS := by kernel_rfl
theorem K_laws_toModeS : SigOk Tryz.prog 208 T_laws_toModeS := e_k E_laws_toModeS (fnOf_ok rfl tysOk ⟨K_laws_toMode, trivial⟩ Tryz.func208 (by decide) rfl (fun _ h => by cases h) (nilEq_of (by kernel_rfl)))
def laws_toActivity (x : (D_Activity × Unit)) (c : Unit) : (Option (D_Activity × Unit)) :=
  (Option.bind ((Option.bind (laws_toModeS (x.1.2.2.1, ()) ()) fun v0 => (some v0.1)) : (Option (List D_Mode))) fun v1 => (some ((x.1.1, (x.1.2.1, (v1, ()))), ())))
def H_laws_toActivity : Hd := ⟨[y_2], [], none, .p, y_3, (Ty.all (y_3)), []⟩
def T_laws_toActivity : FSig := sg_ H_laws_toActivity laws_toActivity
theorem E_laws_toActivity : fnOf tys [(208, T_laws_toModeS)] Tryz.f126 H_laws_toActivity = T_laws_toActivity := by kernel_rfl
theorem K_laws_toActivity : SigOk Tryz.prog 126 T_laws_toActivity := e_k E_laws_toActivity (fnOf_ok rfl tysOk ⟨K_laws_toModeS, trivial⟩ Tryz.func126 (by decide) rfl (fun _ h => by cases h) (nilEq_of (by kernel_rfl)))
abbrev s_laws_toActivityS_L0 : Type := (Int × ((List D_Activity) × ((List D_Activity) × Unit)))
def laws_toActivityS_L0 : s_laws_toActivityS_L0 → Option (Out s_laws_toActivityS_L0 ((Bool × s_laws_toActivityS_L0) ⊕ Empty) ((List D_Activity) × Unit)) :=
  (fun v1 => (if (ltZ v1.1 (lenI v1.2.1)) = true then (Option.bind (getI v1.2.1 v1.1) fun v2 => (Option.bind ((Option.bind (laws_toActivity (v2, ()) ()) fun v3 => (some v3.1)) : (Option D_Activity)) fun v4 => (Option.bind ((Option.bind (getI v1.2.2.1 v1.1) fun v5 => (some ())) : (Option Unit)) fun v6 => (Option.bind ((Option.bind ((Option.bind (getI v1.2.2.1 v1.1) fun v7 => (some v7)) : (Option D_Activity)) fun v8 => (some v4)) : (Option D_Activity)) fun v9 => (some (Out.norm ((addZ .i64 v1.1 1), (v1.2.1, ((setI v1.2.2.1 v1.1 (fun v10 => v9)), ()))))))))) else (some (Out.exit (Sum.inl ((ltZ v1.1 (lenI v1.2.1)), (v1.1, (v1.2.1, (v1.2.2.1, ())))))))))
def laws_toActivityS (x : ((List D_Activity) × Unit)) (c : Unit) : (Option ((List D_Activity) × Unit)) :=
  (Option.bind ((if (eqZ (lenI x.1) (lenI x.1)) = true then (zerosI (lenI x.1) ([], (0, ([], ())))) else none) : (Option (List D_Activity))) fun v0 => (Option.bind (loopN (A := s_laws_toActivityS_L0) big laws_toActivityS_L0 (0, (x.1, (v0, ())))) fun v11 => (match v11 with | Out.norm v12 => none | Out.exit v13 => (match ((match v13 with | Sum.inl v16 => (Sum.inl (v16.2.2.2.1, ())) | Sum.inr v17 => (Empty.elim v17)) : (((List D_Activity) × Unit) ⊕ Empty)) with | Sum.inl v14 => (some (v14.1, ())) | Sum.inr v15 => none) | Out.ret v18 => (some v18))))
def H_laws_toActivityS : Hd := ⟨[.sl 150 (y_2)], [], none, .p, .sl 159 (y_3), (Ty.all (.sl 159 (y_3))), []⟩
def T_laws_toActivityS : FSig := sg_ H_laws_toActivityS laws_toActivityS
theorem E_laws_toActivityS : fnOf tys [(126, T_laws_toActivity)] Tryz.f58 H_laws_toActivityS = T_laws_toActivityS := by kernel_rfl
theorem K_laws_toActivityS : SigOk Tryz.prog 58 T_laws_toActivityS := e_k E_laws_toActivityS (fnOf_ok rfl tysOk ⟨K_laws_toActivity, trivial⟩ Tryz.func58 (by decide) rfl (fun _ h => by cases h) (nilEq_of (by kernel_rfl)))
def laws_toLink (x : (D_Link × Unit)) (c : Unit) : (Option (D_Link × Unit)) :=
  (some ((x.1.1, (x.1.2.1, (x.1.2.2.1, (x.1.2.2.2.1, ())))), ()))
def H_laws_toLink : Hd := ⟨[y_7], [], none, .p, y_7, .p, []⟩
def T_laws_toLink : FSig := sg_ H_laws_toLink laws_toLink
theorem E_laws_toLink : fnOf tys [] Tryz.f127 H_laws_toLink = T_laws_toLink := by kernel_rfl
theorem K_laws_toLink : SigOk Tryz.prog 127 T_laws_toLink := e_k E_laws_toLink (fnOf_ok rfl tysOk trivial Tryz.func127 (by decide) rfl (fun _ h => by cases h) (nilEq_of (by kernel_rfl)))
abbrev s_laws_toLinkS_L0 : Type := (Int × ((List D_Link) × ((List D_Link) × Unit)))
def laws_toLinkS_L0 : s_laws_toLinkS_L0 → Option (Out s_laws_toLinkS_L0 ((Bool × s_laws_toLinkS_L0) ⊕ Empty) ((List D_Link) × Unit)) :=
  (fun v1 => (if (ltZ v1.1 (lenI v1.2.1)) = true then (Option.bind (getI v1.2.1 v1.1) fun v2 => (Option.bind ((Option.bind (laws_toLink (v2, ()) ()) fun v3 => (some v3.1)) : (Option D_Link)) fun v4 => (Option.bind ((Option.bind (getI v1.2.2.1 v1.1) fun v5 => (some ())) : (Option Unit)) fun v6 => (Option.bind ((Option.bind ((Option.bind (getI v1.2.2.1 v1.1) fun v7 => (some v7)) : (Option D_Link)) fun v8 => (some v4)) : (Option D_Link)) fun v9 => (some (Out.norm ((addZ .i64 v1.1 1), (v1.2.1, ((setI v1.2.2.1 v1.1 (fun v10 => v9)), ()))))))))) else (some (Out.exit (Sum.inl ((ltZ v1.1 (lenI v1.2.1)), (v1.1, (v1.2.1, (v1.2.2.1, ())))))))))
def laws_toLinkS (x : ((List D_Link) × Unit)) (c : Unit) : (Option ((List D_Link) × Unit)) :=
  (Option.bind ((if (eqZ (lenI x.1) (lenI x.1)) = true then (zerosI (lenI x.1) (0, (0, (false, (0, ()))))) else none) : (Option (List D_Link))) fun v0 => (Option.bind (loopN (A := s_laws_toLinkS_L0) big laws_toLinkS_L0 (0, (x.1, (v0, ())))) fun v11 => (match v11 with | Out.norm v12 => none | Out.exit v13 => (match ((match v13 with | Sum.inl v16 => (Sum.inl (v16.2.2.2.1, ())) | Sum.inr v17 => (Empty.elim v17)) : (((List D_Link) × Unit) ⊕ Empty)) with | Sum.inl v14 => (some (v14.1, ())) | Sum.inr v15 => none) | Out.ret v18 => (some v18))))
def H_laws_toLinkS : Hd := ⟨[.sl 166 (y_7)], [], none, .p, .sl 164 (y_7), (Ty.all (.sl 164 (y_7))), []⟩
def T_laws_toLinkS : FSig := sg_ H_laws_toLinkS laws_toLinkS
theorem E_laws_toLinkS : fnOf tys [(127, T_laws_toLink)] Tryz.f59 H_laws_toLinkS = T_laws_toLinkS := by kernel_rfl
theorem K_laws_toLinkS : SigOk Tryz.prog 59 T_laws_toLinkS := e_k E_laws_toLinkS (fnOf_ok rfl tysOk ⟨K_laws_toLink, trivial⟩ Tryz.func59 (by decide) rfl (fun _ h => by cases h) (nilEq_of (by kernel_rfl)))
abbrev s_laws_toIntSS_L0 : Type := (Int × ((List (List Int)) × ((List (List Int)) × Unit)))
def laws_toIntSS_L0 : s_laws_toIntSS_L0 → Option (Out s_laws_toIntSS_L0 ((Bool × s_laws_toIntSS_L0) ⊕ Empty) ((List (List Int)) × Unit)) :=
  (fun v1 => (if (ltZ v1.1 (lenI v1.2.1)) = true then (Option.bind (getI v1.2.1 v1.1) fun v2 => (Option.bind ((Option.bind (laws_toIntS (v2, ()) ()) fun v3 => (some v3.1)) : (Option (List Int))) fun v4 => (Option.bind ((Option.bind (getI v1.2.2.1 v1.1) fun v5 => (some ())) : (Option Unit)) fun v6 => (Option.bind ((Option.bind ((Option.bind (getI v1.2.2.1 v1.1) fun v7 => (some v7)) : (Option (List Int))) fun v8 => (some v4)) : (Option (List Int))) fun v9 => (some (Out.norm ((addZ .i64 v1.1 1), (v1.2.1, ((setI v1.2.2.1 v1.1 (fun v10 => v9)), ()))))))))) else (some (Out.exit (Sum.inl ((ltZ v1.1 (lenI v1.2.1)), (v1.1, (v1.2.1, (v1.2.2.1, ())))))))))
def laws_toIntSS (x : ((List (List Int)) × Unit)) (c : Unit) : (Option ((List (List Int)) × Unit)) :=
  (Option.bind ((if (eqZ (lenI x.1) (lenI x.1)) = true then (zerosI (lenI x.1) []) else none) : (Option (List (List Int)))) fun v0 => (Option.bind (loopN (A := s_laws_toIntSS_L0) big laws_toIntSS_L0 (0, (x.1, (v0, ())))) fun v11 => (match v11 with | Out.norm v12 => none | Out.exit v13 => (match ((match v13 with | Sum.inl v16 => (Sum.inl (v16.2.2.2.1, ())) | Sum.inr v17 => (Empty.elim v17)) : (((List (List Int)) × Unit) ⊕ Empty)) with | Sum.inl v14 => (some (v14.1, ())) | Sum.inr v15 => none) | Out.ret v18 => (some v18))))
def H_laws_toIntSS : Hd := ⟨[.sl 25 (.sl 3 (.int .i64))], [], none, .p, .sl 25 (.sl 3 (.int .i64)), (Ty.all (.sl 25 (.sl 3 (.int .i64)))), []⟩
def T_laws_toIntSS : FSig := sg_ H_laws_toIntSS laws_toIntSS
theorem E_laws_toIntSS : fnOf tys [(61, T_laws_toIntS)] Tryz.f99 H_laws_toIntSS = T_laws_toIntSS := by kernel_rfl
theorem K_laws_toIntSS : SigOk Tryz.prog 99 T_laws_toIntSS := e_k E_laws_toIntSS (fnOf_ok rfl tysOk ⟨K_laws_toIntS, trivial⟩ Tryz.func99 (by decide) rfl (fun _ h => by cases h) (nilEq_of (by kernel_rfl)))
def laws_toStep (x : (D_Step × Unit)) (c : Unit) : (Option (D_Step × Unit)) :=
  (some ((x.1.1, (x.1.2.1, ())), ()))
def H_laws_toStep : Hd := ⟨[.st [.int .i64, .int .i64]], [], none, .p, .st [.int .i64, .int .i64], .p, []⟩
def T_laws_toStep : FSig := sg_ H_laws_toStep laws_toStep
theorem E_laws_toStep : fnOf tys [] Tryz.f265 H_laws_toStep = T_laws_toStep := by kernel_rfl
theorem K_laws_toStep : SigOk Tryz.prog 265 T_laws_toStep := e_k E_laws_toStep (fnOf_ok rfl tysOk trivial Tryz.func265 (by decide) rfl (fun _ h => by cases h) (nilEq_of (by kernel_rfl)))
abbrev s_laws_toStepS_L0 : Type := (Int × ((List D_Step) × ((List D_Step) × Unit)))
def laws_toStepS_L0 : s_laws_toStepS_L0 → Option (Out s_laws_toStepS_L0 ((Bool × s_laws_toStepS_L0) ⊕ Empty) ((List D_Step) × Unit)) :=
  (fun v1 => (if (ltZ v1.1 (lenI v1.2.1)) = true then (Option.bind (getI v1.2.1 v1.1) fun v2 => (Option.bind ((Option.bind (laws_toStep (v2, ()) ()) fun v3 => (some v3.1)) : (Option D_Step)) fun v4 => (Option.bind ((Option.bind (getI v1.2.2.1 v1.1) fun v5 => (some ())) : (Option Unit)) fun v6 => (Option.bind ((Option.bind ((Option.bind (getI v1.2.2.1 v1.1) fun v7 => (some v7)) : (Option D_Step)) fun v8 => (some v4)) : (Option D_Step)) fun v9 => (some (Out.norm ((addZ .i64 v1.1 1), (v1.2.1, ((setI v1.2.2.1 v1.1 (fun v10 => v9)), ()))))))))) else (some (Out.exit (Sum.inl ((ltZ v1.1 (lenI v1.2.1)), (v1.1, (v1.2.1, (v1.2.2.1, ())))))))))
def laws_toStepS (x : ((List D_Step) × Unit)) (c : Unit) : (Option ((List D_Step) × Unit)) :=
  (Option.bind ((if (eqZ (lenI x.1) (lenI x.1)) = true then (zerosI (lenI x.1) (0, (0, ()))) else none) : (Option (List D_Step))) fun v0 => (Option.bind (loopN (A := s_laws_toStepS_L0) big laws_toStepS_L0 (0, (x.1, (v0, ())))) fun v11 => (match v11 with | Out.norm v12 => none | Out.exit v13 => (match ((match v13 with | Sum.inl v16 => (Sum.inl (v16.2.2.2.1, ())) | Sum.inr v17 => (Empty.elim v17)) : (((List D_Step) × Unit) ⊕ Empty)) with | Sum.inl v14 => (some (v14.1, ())) | Sum.inr v15 => none) | Out.ret v18 => (some v18))))
def H_laws_toStepS : Hd := ⟨[.sl 247 (.st [.int .i64, .int .i64])], [], none, .p, .sl 228 (.st [.int .i64, .int .i64]), (Ty.all (.sl 228 (.st [.int .i64, .int .i64]))), []⟩
def T_laws_toStepS : FSig := sg_ H_laws_toStepS laws_toStepS
theorem E_laws_toStepS : fnOf tys [(265, T_laws_toStep)] Tryz.f209 H_laws_toStepS = T_laws_toStepS := by kernel_rfl
theorem K_laws_toStepS : SigOk Tryz.prog 209 T_laws_toStepS := e_k E_laws_toStepS (fnOf_ok rfl tysOk ⟨K_laws_toStep, trivial⟩ Tryz.func209 (by decide) rfl (fun _ h => by cases h) (nilEq_of (by kernel_rfl)))
def laws_toResource (x : (D_Resource × Unit)) (c : Unit) : (Option (D_Resource × Unit)) :=
  (Option.bind ((Option.bind (laws_toStepS (x.1.1, ()) ()) fun v0 => (some v0.1)) : (Option (List D_Step))) fun v1 => (Option.bind ((Option.bind (laws_toIntSS (x.1.2.1, ()) ()) fun v2 => (some v2.1)) : (Option (List (List Int)))) fun v3 => (some ((v1, (v3, ())), ()))))
def H_laws_toResource : Hd := ⟨[.st [.sl 247 (.st [.int .i64, .int .i64]), .sl 25 (.sl 3 (.int .i64))]], [], none, .p, y_4, (Ty.all (y_4)), []⟩
def T_laws_toResource : FSig := sg_ H_laws_toResource laws_toResource
theorem E_laws_toResource : fnOf tys [(99, T_laws_toIntSS), (209, T_laws_toStepS)] Tryz.f128 H_laws_toResource = T_laws_toResource := by kernel_rfl
theorem K_laws_toResource : SigOk Tryz.prog 128 T_laws_toResource := e_k E_laws_toResource (fnOf_ok rfl tysOk ⟨K_laws_toIntSS, K_laws_toStepS, trivial⟩ Tryz.func128 (by decide) rfl (fun _ h => by cases h) (nilEq_of (by kernel_rfl)))
abbrev s_laws_toResourceS_L0 : Type := (Int × ((List D_Resource) × ((List D_Resource) × Unit)))
def laws_toResourceS_L0 : s_laws_toResourceS_L0 → Option (Out s_laws_toResourceS_L0 ((Bool × s_laws_toResourceS_L0) ⊕ Empty) ((List D_Resource) × Unit)) :=
  (fun v1 => (if (ltZ v1.1 (lenI v1.2.1)) = true then (Option.bind (getI v1.2.1 v1.1) fun v2 => (Option.bind ((Option.bind (laws_toResource (v2, ()) ()) fun v3 => (some v3.1)) : (Option D_Resource)) fun v4 => (Option.bind ((Option.bind (getI v1.2.2.1 v1.1) fun v5 => (some ())) : (Option Unit)) fun v6 => (Option.bind ((Option.bind ((Option.bind (getI v1.2.2.1 v1.1) fun v7 => (some v7)) : (Option D_Resource)) fun v8 => (some v4)) : (Option D_Resource)) fun v9 => (some (Out.norm ((addZ .i64 v1.1 1), (v1.2.1, ((setI v1.2.2.1 v1.1 (fun v10 => v9)), ()))))))))) else (some (Out.exit (Sum.inl ((ltZ v1.1 (lenI v1.2.1)), (v1.1, (v1.2.1, (v1.2.2.1, ())))))))))
def laws_toResourceS (x : ((List D_Resource) × Unit)) (c : Unit) : (Option ((List D_Resource) × Unit)) :=
  (Option.bind ((if (eqZ (lenI x.1) (lenI x.1)) = true then (zerosI (lenI x.1) ([], ([], ()))) else none) : (Option (List D_Resource))) fun v0 => (Option.bind (loopN (A := s_laws_toResourceS_L0) big laws_toResourceS_L0 (0, (x.1, (v0, ())))) fun v11 => (match v11 with | Out.norm v12 => none | Out.exit v13 => (match ((match v13 with | Sum.inl v16 => (Sum.inl (v16.2.2.2.1, ())) | Sum.inr v17 => (Empty.elim v17)) : (((List D_Resource) × Unit) ⊕ Empty)) with | Sum.inl v14 => (some (v14.1, ())) | Sum.inr v15 => none) | Out.ret v18 => (some v18))))
def H_laws_toResourceS : Hd := ⟨[.sl 154 (.st [.sl 247 (.st [.int .i64, .int .i64]), .sl 25 (.sl 3 (.int .i64))])], [], none, .p, .sl 169 (y_4), (Ty.all (.sl 169 (y_4))), []⟩
def T_laws_toResourceS : FSig := sg_ H_laws_toResourceS laws_toResourceS
theorem E_laws_toResourceS : fnOf tys [(128, T_laws_toResource)] Tryz.f60 H_laws_toResourceS = T_laws_toResourceS := by kernel_rfl
theorem K_laws_toResourceS : SigOk Tryz.prog 60 T_laws_toResourceS := e_k E_laws_toResourceS (fnOf_ok rfl tysOk ⟨K_laws_toResource, trivial⟩ Tryz.func60 (by decide) rfl (fun _ h => by cases h) (nilEq_of (by kernel_rfl)))
def laws_toProject (x : (D_Project × Unit)) (c : Unit) : (Option (D_Project × Unit)) :=
  (Option.bind ((Option.bind (laws_toActivityS (x.1.2.1, ()) ()) fun v0 => (some v0.1)) : (Option (List D_Activity))) fun v1 => (Option.bind ((Option.bind (laws_toLinkS (x.1.2.2.1, ()) ()) fun v2 => (some v2.1)) : (Option (List D_Link))) fun v3 => (Option.bind ((Option.bind (laws_toResourceS (x.1.2.2.2.1, ()) ()) fun v4 => (some v4.1)) : (Option (List D_Resource))) fun v5 => (Option.bind ((Option.bind (laws_toIntS (x.1.2.2.2.2.1, ()) ()) fun v6 => (some v6.1)) : (Option (List Int))) fun v7 => (some ((x.1.1, (v1, (v3, (v5, (v7, ()))))), ()))))))
def H_laws_toProject : Hd := ⟨[y_0], [], none, .p, y_1, (Ty.all (y_1)), []⟩
def T_laws_toProject : FSig := sg_ H_laws_toProject laws_toProject
theorem E_laws_toProject : fnOf tys [(58, T_laws_toActivityS), (59, T_laws_toLinkS), (60, T_laws_toResourceS), (61, T_laws_toIntS)] Tryz.f13 H_laws_toProject = T_laws_toProject := by kernel_rfl
theorem K_laws_toProject : SigOk Tryz.prog 13 T_laws_toProject := e_k E_laws_toProject (fnOf_ok rfl tysOk ⟨K_laws_toActivityS, K_laws_toLinkS, K_laws_toResourceS, K_laws_toIntS, trivial⟩ Tryz.func13 (by decide) rfl (fun _ h => by cases h) (nilEq_of (by kernel_rfl)))
def slices_Clone_int_int (x : ((List Int) × Unit)) (c : Unit) : (Option ((List Int) × Unit)) :=
  (Option.bind (addI [] x.1) fun v0 => (some (v0, ())))
def H_slices_Clone_int_int : Hd := ⟨[.sl 3 (.int .i64)], [], none, .p, .sl 3 (.int .i64), (Ty.all (.sl 3 (.int .i64))), []⟩
def T_slices_Clone_int_int : FSig := sg_ H_slices_Clone_int_int slices_Clone_int_int
theorem E_slices_Clone_int_int : fnOf tys [] Tryz.f167 H_slices_Clone_int_int = T_slices_Clone_int_int := by kernel_rfl
theorem K_slices_Clone_int_int : SigOk Tryz.prog 167 T_slices_Clone_int_int := e_k E_slices_Clone_int_int (fnOf_ok rfl tysOk trivial Tryz.func167 (by decide) rfl (fun _ h => by cases h) (nilEq_of (by kernel_rfl)))
def cmp_isNaN_int (x : (Int × Unit)) (c : Unit) : (Option (Bool × Unit)) :=
  (some ((notB (eqZ x.1 x.1)), ()))
def H_cmp_isNaN_int : Hd := ⟨[.int .i64], [], none, .p, .bool, .p, []⟩
def T_cmp_isNaN_int : FSig := sg_ H_cmp_isNaN_int cmp_isNaN_int
theorem E_cmp_isNaN_int : fnOf tys [] Tryz.f246 H_cmp_isNaN_int = T_cmp_isNaN_int := by kernel_rfl
theorem K_cmp_isNaN_int : SigOk Tryz.prog 246 T_cmp_isNaN_int := e_k E_cmp_isNaN_int (fnOf_ok rfl tysOk trivial Tryz.func246 (by decide) rfl (fun _ h => by cases h) (nilEq_of (by kernel_rfl)))
def impl_within (x : D_Literal) (c : Unit) : (Option (Bool × Unit)) :=
  (Option.bind ((if (leZ x.2.1 x.1) = true then (some ((leZ x.1 x.2.2.1), ())) else (some (false, ()))) : (Option (Bool × Unit))) fun v0 => (some (v0.1, ())))
def H_impl_within : Hd := ⟨[.int .i64, .int .i64, .int .i64], [], none, .p, .bool, .p, []⟩
def T_impl_within : FSig := sg_ H_impl_within impl_within
theorem E_impl_within : fnOf tys [] Tryz.f131 H_impl_within = T_impl_within := by kernel_rfl
theorem K_impl_within : SigOk Tryz.prog 131 T_impl_within := e_k E_impl_within (fnOf_ok rfl tysOk trivial Tryz.func131 (by decide) rfl (fun _ h => by cases h) (nilEq_of (by kernel_rfl)))
def impl_Project_hasActivity (x : (D_Project × (Int × Unit))) (c : Unit) : (Option (Bool × Unit)) :=
  (Option.bind ((Option.bind (impl_within (x.2.1, (0, ((subZ .i64 (lenI x.1.2.1) 1), ()))) ()) fun v0 => (some v0.1)) : (Option Bool)) fun v1 => (some (v1, ())))
def H_impl_Project_hasActivity : Hd := ⟨[y_1, .int .i64], [], none, .p, .bool, .p, []⟩
def T_impl_Project_hasActivity : FSig := sg_ H_impl_Project_hasActivity impl_Project_hasActivity
theorem E_impl_Project_hasActivity : fnOf tys [(131, T_impl_within)] Tryz.f114 H_impl_Project_hasActivity = T_impl_Project_hasActivity := by kernel_rfl
theorem K_impl_Project_hasActivity : SigOk Tryz.prog 114 T_impl_Project_hasActivity := e_k E_impl_Project_hasActivity (fnOf_ok rfl tysOk ⟨K_impl_within, trivial⟩ Tryz.func114 (by decide) rfl (fun _ h => by cases h) (nilEq_of (by kernel_rfl)))
def impl_isTime (x : (Int × Unit)) (c : Unit) : (Option (Bool × Unit)) :=
  (Option.bind ((Option.bind (impl_within (x.1, (0, (60, ()))) ()) fun v0 => (some v0.1)) : (Option Bool)) fun v1 => (some (v1, ())))
def H_impl_isTime : Hd := ⟨[.int .i64], [], none, .p, .bool, .p, []⟩
def T_impl_isTime : FSig := sg_ H_impl_isTime impl_isTime
theorem E_impl_isTime : fnOf tys [(131, T_impl_within)] Tryz.f115 H_impl_isTime = T_impl_isTime := by kernel_rfl
theorem K_impl_isTime : SigOk Tryz.prog 115 T_impl_isTime := e_k E_impl_isTime (fnOf_ok rfl tysOk ⟨K_impl_within, trivial⟩ Tryz.func115 (by decide) rfl (fun _ h => by cases h) (nilEq_of (by kernel_rfl)))
def impl_isAmount (x : (Int × Unit)) (c : Unit) : (Option (Bool × Unit)) :=
  (Option.bind ((Option.bind (impl_within (x.1, (0, (20, ()))) ()) fun v0 => (some v0.1)) : (Option Bool)) fun v1 => (some (v1, ())))
def H_impl_isAmount : Hd := ⟨[.int .i64], [], none, .p, .bool, .p, []⟩
def T_impl_isAmount : FSig := sg_ H_impl_isAmount impl_isAmount
theorem E_impl_isAmount : fnOf tys [(131, T_impl_within)] Tryz.f302 H_impl_isAmount = T_impl_isAmount := by kernel_rfl
theorem K_impl_isAmount : SigOk Tryz.prog 302 T_impl_isAmount := e_k E_impl_isAmount (fnOf_ok rfl tysOk ⟨K_impl_within, trivial⟩ Tryz.func302 (by decide) rfl (fun _ h => by cases h) (nilEq_of (by kernel_rfl)))
abbrev s_impl_areAmounts_L0 : Type := (Int × (Int × ((List Int) × ((List Int) × (Int × Unit)))))
def impl_areAmounts_L0 : s_impl_areAmounts_L0 → Option (Out s_impl_areAmounts_L0 ((Bool × s_impl_areAmounts_L0) ⊕ Empty) (Bool × Unit)) :=
  (fun v0 => (if (ltZ v0.1 v0.2.1) = true then (Option.bind (getI v0.2.2.1 v0.1) fun v1 => (Option.bind ((Option.bind (impl_isAmount (v1, ()) ()) fun v2 => (some v2.1)) : (Option Bool)) fun v3 => (if (notB v3) = true then (some (Out.ret (false, ()))) else (some (Out.norm ((addZ .i64 v0.1 1), (v0.2.1, (v0.2.2.1, (v0.2.2.2.1, (v0.2.2.2.2.1, ())))))))))) else (some (Out.exit (Sum.inl ((ltZ v0.1 v0.2.1), (v0.1, (v0.2.1, (v0.2.2.1, (v0.2.2.2.1, (v0.2.2.2.2.1, ())))))))))))
def impl_areAmounts (x : ((List Int) × (Int × Unit))) (c : Unit) : (Option (Bool × Unit)) :=
  (Option.bind (loopN (A := s_impl_areAmounts_L0) big impl_areAmounts_L0 (0, ((lenI x.1), (x.1, (x.1, (x.2.1, ())))))) fun v4 => (match v4 with | Out.norm v5 => none | Out.exit v6 => (match ((match v6 with | Sum.inl v9 => (Sum.inl (v9.2.2.2.2.1, (v9.2.2.2.2.2.1, ()))) | Sum.inr v10 => (Empty.elim v10)) : (((List Int) × (Int × Unit)) ⊕ Empty)) with | Sum.inl v7 => (some ((eqZ (lenI v7.1) v7.2.1), ())) | Sum.inr v8 => none) | Out.ret v11 => (some v11)))
def H_impl_areAmounts : Hd := ⟨[.sl 3 (.int .i64), .int .i64], [], none, .p, .bool, .p, []⟩
def T_impl_areAmounts : FSig := sg_ H_impl_areAmounts impl_areAmounts
theorem E_impl_areAmounts : fnOf tys [(302, T_impl_isAmount)] Tryz.f313 H_impl_areAmounts = T_impl_areAmounts := by kernel_rfl
theorem K_impl_areAmounts : SigOk Tryz.prog 313 T_impl_areAmounts := e_k E_impl_areAmounts (fnOf_ok rfl tysOk ⟨K_impl_isAmount, trivial⟩ Tryz.func313 (by decide) rfl (fun _ h => by cases h) (nilEq_of (by kernel_rfl)))
def impl_ModeOk (x : (D_Mode × D_Step)) (c : Unit) : (Option (Bool × Unit)) :=
  (Option.bind ((Option.bind (impl_within (x.1.1, (1, (12, ()))) ()) fun v0 => (some v0.1)) : (Option Bool)) fun v1 => (Option.bind ((if v1 = true then (Option.bind ((Option.bind (impl_areAmounts (x.1.2.1, (x.2.1, ())) ()) fun v2 => (some v2.1)) : (Option Bool)) fun v3 => (Option.bind ((if v3 = true then (Option.bind ((Option.bind (impl_areAmounts (x.1.2.2.1, (x.2.2.1, ())) ()) fun v4 => (some v4.1)) : (Option Bool)) fun v5 => (some (v5, ()))) else (some (false, ()))) : (Option (Bool × Unit))) fun v6 => (some (v6.1, ())))) else (some (false, ()))) : (Option (Bool × Unit))) fun v7 => (some (v7.1, ()))))
def H_impl_ModeOk : Hd := ⟨[y_6, .int .i64, .int .i64], [], none, .p, .bool, .p, []⟩
def T_impl_ModeOk : FSig := sg_ H_impl_ModeOk impl_ModeOk
theorem E_impl_ModeOk : fnOf tys [(131, T_impl_within), (313, T_impl_areAmounts)] Tryz.f294 H_impl_ModeOk = T_impl_ModeOk := by kernel_rfl
theorem K_impl_ModeOk : SigOk Tryz.prog 294 T_impl_ModeOk := e_k E_impl_ModeOk (fnOf_ok rfl tysOk ⟨K_impl_within, K_impl_areAmounts, trivial⟩ Tryz.func294 (by decide) rfl (fun _ h => by cases h) (nilEq_of (by kernel_rfl)))
abbrev s_impl_IsName_L0 : Type := (Int × (Int × ((List UInt8) × Unit)))
def impl_IsName_L0 : s_impl_IsName_L0 → Option (Out s_impl_IsName_L0 ((Bool × s_impl_IsName_L0) ⊕ Empty) (Bool × Unit)) :=
  (fun v0 => (if (ltZ v0.1 v0.2.1) = true then (Option.bind (byteAt v0.2.2.1 v0.1) fun v1 => (Option.bind ((if (leZ 97 v1) = true then (Option.bind (byteAt v0.2.2.1 v0.1) fun v2 => (some ((leZ v2 122), (v0.1, (v0.1, (v0.2.1, (v0.2.2.1, ()))))))) else (some (false, (v0.1, (v0.1, (v0.2.1, (v0.2.2.1, ()))))))) : (Option (Bool × (Int × (Int × (Int × ((List UInt8) × Unit))))))) fun v3 => (Option.bind ((if (notB v3.1) = true then (Option.bind ((if (eqZ v3.2.1 0) = true then (some (true, (v3.2.2.1, (v3.2.2.2.1, (v3.2.2.2.2.1, ()))))) else (Option.bind (byteAt v3.2.2.2.2.1 v3.2.1) fun v4 => (Option.bind ((if (ltZ v4 48) = true then (some (true, (v3.2.2.1, (v3.2.2.2.1, (v3.2.2.2.2.1, ()))))) else (Option.bind (byteAt v3.2.2.2.2.1 v3.2.1) fun v5 => (some ((ltZ 57 v5), (v3.2.2.1, (v3.2.2.2.1, (v3.2.2.2.2.1, ()))))))) : (Option (Bool × (Int × (Int × ((List UInt8) × Unit)))))) fun v6 => (some (v6.1, (v6.2.1, (v6.2.2.1, (v6.2.2.2.1, ())))))))) : (Option (Bool × (Int × (Int × ((List UInt8) × Unit)))))) fun v7 => (some (v7.1, (v7.2.1, (v7.2.2.1, (v7.2.2.2.1, ())))))) else (some (false, (v3.2.2.1, (v3.2.2.2.1, (v3.2.2.2.2.1, ())))))) : (Option (Bool × (Int × (Int × ((List UInt8) × Unit)))))) fun v8 => (if v8.1 = true then (some (Out.ret (false, ()))) else (some (Out.norm ((addZ .i64 v8.2.1 1), (v8.2.2.1, (v8.2.2.2.1, ()))))))))) else (some (Out.exit (Sum.inl ((ltZ v0.1 v0.2.1), (v0.1, (v0.2.1, (v0.2.2.1, ())))))))))
def impl_IsName (x : ((List UInt8) × Unit)) (c : Unit) : (Option (Bool × Unit)) :=
  (Option.bind (loopN (A := s_impl_IsName_L0) big impl_IsName_L0 (0, ((lenI x.1), (x.1, ())))) fun v9 => (match v9 with | Out.norm v10 => none | Out.exit v11 => (match ((match v11 with | Sum.inl v16 => (Sum.inl (v16.2.2.2.1, ())) | Sum.inr v17 => (Empty.elim v17)) : (((List UInt8) × Unit) ⊕ Empty)) with | Sum.inl v12 => (Option.bind ((Option.bind (impl_within ((lenI v12.1), (1, (8, ()))) ()) fun v13 => (some v13.1)) : (Option Bool)) fun v14 => (some (v14, ()))) | Sum.inr v15 => none) | Out.ret v18 => (some v18)))
def H_impl_IsName : Hd := ⟨[.str], [], none, .p, .bool, .p, []⟩
def T_impl_IsName : FSig := sg_ H_impl_IsName impl_IsName
theorem E_impl_IsName : fnOf tys [(131, T_impl_within)] Tryz.f295 H_impl_IsName = T_impl_IsName := by kernel_rfl
theorem K_impl_IsName : SigOk Tryz.prog 295 T_impl_IsName := e_k E_impl_IsName (fnOf_ok rfl tysOk ⟨K_impl_within, trivial⟩ Tryz.func295 (by decide) rfl (fun _ h => by cases h) (nilEq_of (by kernel_rfl)))
abbrev s_impl_ActivityOk_L0 : Type := (Int × (Int × ((List D_Mode) × (Int × (Int × (D_Activity × Unit))))))
def impl_ActivityOk_L0 : s_impl_ActivityOk_L0 → Option (Out s_impl_ActivityOk_L0 ((Bool × s_impl_ActivityOk_L0) ⊕ Empty) (Bool × Unit)) :=
  (fun v0 => (if (ltZ v0.1 v0.2.1) = true then (Option.bind (getI v0.2.2.1 v0.1) fun v1 => (Option.bind ((Option.bind (impl_ModeOk (v1, (v0.2.2.2.1, (v0.2.2.2.2.1, ()))) ()) fun v2 => (some v2.1)) : (Option Bool)) fun v3 => (if (notB v3) = true then (some (Out.ret (false, ()))) else (some (Out.norm ((addZ .i64 v0.1 1), (v0.2.1, (v0.2.2.1, (v0.2.2.2.1, (v0.2.2.2.2.1, (v0.2.2.2.2.2.1, ()))))))))))) else (some (Out.exit (Sum.inl ((ltZ v0.1 v0.2.1), (v0.1, (v0.2.1, (v0.2.2.1, (v0.2.2.2.1, (v0.2.2.2.2.1, (v0.2.2.2.2.2.1, ()))))))))))))
def impl_ActivityOk (x : (D_Activity × D_Step)) (c : Unit) : (Option (Bool × Unit)) :=
  (Option.bind (loopN (A := s_impl_ActivityOk_L0) big impl_ActivityOk_L0 (0, ((lenI x.1.2.2.1), (x.1.2.2.1, (x.2.1, (x.2.2.1, (x.1, ()))))))) fun v4 => (match v4 with | Out.norm v5 => none | Out.exit v6 => (match ((match v6 with | Sum.inl v17 => (Sum.inl (v17.2.2.2.2.2.2.1, ())) | Sum.inr v18 => (Empty.elim v18)) : ((D_Activity × Unit) ⊕ Empty)) with | Sum.inl v7 => (Option.bind ((Option.bind (impl_IsName (v7.1.1, ()) ()) fun v8 => (some v8.1)) : (Option Bool)) fun v9 => (Option.bind ((if v9 = true then (Option.bind ((Option.bind (impl_within (v7.1.2.1, (0, (3, ()))) ()) fun v10 => (some v10.1)) : (Option Bool)) fun v11 => (Option.bind ((if v11 = true then (Option.bind ((Option.bind (impl_within ((lenI v7.1.2.2.1), (1, (3, ()))) ()) fun v12 => (some v12.1)) : (Option Bool)) fun v13 => (some (v13, ()))) else (some (false, ()))) : (Option (Bool × Unit))) fun v14 => (some (v14.1, ())))) else (some (false, ()))) : (Option (Bool × Unit))) fun v15 => (some (v15.1, ())))) | Sum.inr v16 => none) | Out.ret v19 => (some v19)))
def H_impl_ActivityOk : Hd := ⟨[y_3, .int .i64, .int .i64], [], none, .p, .bool, .p, []⟩
def T_impl_ActivityOk : FSig := sg_ H_impl_ActivityOk impl_ActivityOk
theorem E_impl_ActivityOk : fnOf tys [(131, T_impl_within), (294, T_impl_ModeOk), (295, T_impl_IsName)] Tryz.f247 H_impl_ActivityOk = T_impl_ActivityOk := by kernel_rfl
theorem K_impl_ActivityOk : SigOk Tryz.prog 247 T_impl_ActivityOk := e_k E_impl_ActivityOk (fnOf_ok rfl tysOk ⟨K_impl_within, K_impl_ModeOk, K_impl_IsName, trivial⟩ Tryz.func247 (by decide) rfl (fun _ h => by cases h) (nilEq_of (by kernel_rfl)))
abbrev s_slices_IndexFunc_impl_Activity_impl_Activity_L0 : Type := (Int × (Int × (((D_Activity × Unit) → (Option Bool)) × ((List D_Activity) × Unit))))
def slices_IndexFunc_impl_Activity_impl_Activity_L0 : s_slices_IndexFunc_impl_Activity_impl_Activity_L0 → Option (Out s_slices_IndexFunc_impl_Activity_impl_Activity_L0 ((Bool × s_slices_IndexFunc_impl_Activity_impl_Activity_L0) ⊕ Empty) (Int × Unit)) :=
  (fun v0 => (if (ltZ v0.1 v0.2.1) = true then (Option.bind (getI v0.2.2.2.1 v0.1) fun v1 => (Option.bind (v0.2.2.1 (v1, ())) fun v2 => (if v2 = true then (some (Out.ret (v0.1, ()))) else (some (Out.norm ((addZ .i64 v0.1 1), (v0.2.1, (v0.2.2.1, (v0.2.2.2.1, ()))))))))) else (some (Out.exit (Sum.inl ((ltZ v0.1 v0.2.1), (v0.1, (v0.2.1, (v0.2.2.1, (v0.2.2.2.1, ()))))))))))
def slices_IndexFunc_impl_Activity_impl_Activity (x : ((List D_Activity) × (((D_Activity × Unit) → (Option Bool)) × Unit))) (c : Unit) : (Option (Int × Unit)) :=
  (Option.bind (loopN (A := s_slices_IndexFunc_impl_Activity_impl_Activity_L0) big slices_IndexFunc_impl_Activity_impl_Activity_L0 (0, ((lenI x.1), (x.2.1, (x.1, ()))))) fun v3 => (match v3 with | Out.norm v4 => none | Out.exit v5 => (match ((match v5 with | Sum.inl v8 => (Sum.inl ()) | Sum.inr v9 => (Empty.elim v9)) : (Unit ⊕ Empty)) with | Sum.inl v6 => (some ((-1), ())) | Sum.inr v7 => none) | Out.ret v10 => (some v10)))
def H_slices_IndexFunc_impl_Activity_impl_Activity : Hd := ⟨[.sl 159 (y_3), .fn [y_3] (.bool)], [], none, .p, .int .i64, .p, []⟩
def T_slices_IndexFunc_impl_Activity_impl_Activity : FSig := sg_ H_slices_IndexFunc_impl_Activity_impl_Activity slices_IndexFunc_impl_Activity_impl_Activity
theorem E_slices_IndexFunc_impl_Activity_impl_Activity : fnOf tys [] Tryz.f296 H_slices_IndexFunc_impl_Activity_impl_Activity = T_slices_IndexFunc_impl_Activity_impl_Activity := by kernel_rfl
theorem K_slices_IndexFunc_impl_Activity_impl_Activity : SigOk Tryz.prog 296 T_slices_IndexFunc_impl_Activity_impl_Activity := e_k E_slices_IndexFunc_impl_Activity_impl_Activity (fnOf_ok rfl tysOk trivial Tryz.func296 (by decide) rfl (fun _ h => by cases h) (nilEq_of (by kernel_rfl)))
def impl_ActivityIndex_1 (x : (D_Activity × Unit)) (c : ((List UInt8) × Unit)) : (Option (Bool × Unit)) :=
  (some ((eqS x.1.1 c.1), ()))
def H_impl_ActivityIndex_1 : Hd := ⟨[y_3], [.str], none, .p, .bool, .p, []⟩
def T_impl_ActivityIndex_1 : FSig := sg_ H_impl_ActivityIndex_1 impl_ActivityIndex_1
theorem E_impl_ActivityIndex_1 : fnOf tys [] Tryz.f297 H_impl_ActivityIndex_1 = T_impl_ActivityIndex_1 := by kernel_rfl
theorem K_impl_ActivityIndex_1 : SigOk Tryz.prog 297 T_impl_ActivityIndex_1 := e_k E_impl_ActivityIndex_1 (fnOf_ok rfl tysOk trivial Tryz.func297 (by decide) rfl (fun _ h => by cases h) (nilEq_of (by kernel_rfl)))
def impl_ActivityIndex (x : (D_Project × ((List UInt8) × Unit))) (c : Unit) : (Option (Int × Unit)) :=
  (Option.bind ((Option.bind (slices_IndexFunc_impl_Activity_impl_Activity (x.1.2.1, ((fun v0 => (Option.bind (impl_ActivityIndex_1 v0 (x.2.1, ())) fun v1 => (some v1.1))), ())) ()) fun v2 => (some v2.1)) : (Option Int)) fun v3 => (some (v3, ())))
def H_impl_ActivityIndex : Hd := ⟨[y_1, .str], [], none, .p, .int .i64, .p, []⟩
def T_impl_ActivityIndex : FSig := sg_ H_impl_ActivityIndex impl_ActivityIndex
theorem E_impl_ActivityIndex : fnOf tys [(296, T_slices_IndexFunc_impl_Activity_impl_Activity), (297, T_impl_ActivityIndex_1)] Tryz.f248 H_impl_ActivityIndex = T_impl_ActivityIndex := by kernel_rfl
theorem K_impl_ActivityIndex : SigOk Tryz.prog 248 T_impl_ActivityIndex := e_k E_impl_ActivityIndex (fnOf_ok rfl tysOk ⟨K_slices_IndexFunc_impl_Activity_impl_Activity, K_impl_ActivityIndex_1, trivial⟩ Tryz.func248 (by decide) rfl (fun _ h => by cases h) (nilEq_of (by kernel_rfl)))
abbrev s_impl_StepsOk_L0 : Type := (Int × (Int × ((List D_Step) × ((List D_Step) × Unit))))
def impl_StepsOk_L0 : s_impl_StepsOk_L0 → Option (Out s_impl_StepsOk_L0 ((Bool × s_impl_StepsOk_L0) ⊕ Empty) (Bool × Unit)) :=
  (fun v0 => (if (ltZ v0.1 v0.2.1) = true then (Option.bind (getI v0.2.2.1 v0.1) fun v1 => (Option.bind ((Option.bind (impl_isTime (v1.1, ()) ()) fun v2 => (some v2.1)) : (Option Bool)) fun v3 => (Option.bind ((if (notB v3) = true then (some (true, (v0.1, (v0.2.1, (v0.2.2.1, (v0.2.2.2.1, ())))))) else (Option.bind ((Option.bind (impl_isAmount (v1.2.1, ()) ()) fun v4 => (some v4.1)) : (Option Bool)) fun v5 => (Option.bind ((if (notB v5) = true then (some (true, (v0.1, (v0.2.1, (v0.2.2.1, (v0.2.2.2.1, ())))))) else (Option.bind ((if (eqZ v0.1 0) = true then (Option.bind ((if (notB (eqZ v1.1 0)) = true then (some (true, (v0.1, (v0.2.1, (v0.2.2.1, (v0.2.2.2.1, ())))))) else (Option.bind ((if (ltZ 0 v0.1) = true then (Option.bind (getI v0.2.2.2.1 (subZ .i64 v0.1 1)) fun v6 => (some ((leZ v1.1 v6.1), (v0.1, (v0.2.1, (v0.2.2.1, (v0.2.2.2.1, ()))))))) else (some (false, (v0.1, (v0.2.1, (v0.2.2.1, (v0.2.2.2.1, ()))))))) : (Option (Bool × (Int × (Int × ((List D_Step) × ((List D_Step) × Unit))))))) fun v7 => (some (v7.1, (v7.2.1, (v7.2.2.1, (v7.2.2.2.1, (v7.2.2.2.2.1, ())))))))) : (Option (Bool × (Int × (Int × ((List D_Step) × ((List D_Step) × Unit))))))) fun v8 => (some (v8.1, (v8.2.1, (v8.2.2.1, (v8.2.2.2.1, (v8.2.2.2.2.1, ()))))))) else (Option.bind ((Option.bind ((if (ltZ 0 v0.1) = true then (Option.bind (getI v0.2.2.2.1 (subZ .i64 v0.1 1)) fun v9 => (some ((leZ v1.1 v9.1), (v0.1, (v0.2.1, (v0.2.2.1, (v0.2.2.2.1, ()))))))) else (some (false, (v0.1, (v0.2.1, (v0.2.2.1, (v0.2.2.2.1, ()))))))) : (Option (Bool × (Int × (Int × ((List D_Step) × ((List D_Step) × Unit))))))) fun v10 => (some (v10.1, (v10.2.1, (v10.2.2.1, (v10.2.2.2.1, (v10.2.2.2.2.1, ()))))))) : (Option (Bool × (Int × (Int × ((List D_Step) × ((List D_Step) × Unit))))))) fun v11 => (some (v11.1, (v11.2.1, (v11.2.2.1, (v11.2.2.2.1, (v11.2.2.2.2.1, ())))))))) : (Option (Bool × (Int × (Int × ((List D_Step) × ((List D_Step) × Unit))))))) fun v12 => (some (v12.1, (v12.2.1, (v12.2.2.1, (v12.2.2.2.1, (v12.2.2.2.2.1, ())))))))) : (Option (Bool × (Int × (Int × ((List D_Step) × ((List D_Step) × Unit))))))) fun v13 => (some (v13.1, (v13.2.1, (v13.2.2.1, (v13.2.2.2.1, (v13.2.2.2.2.1, ()))))))))) : (Option (Bool × (Int × (Int × ((List D_Step) × ((List D_Step) × Unit))))))) fun v14 => (if v14.1 = true then (some (Out.ret (false, ()))) else (some (Out.norm ((addZ .i64 v14.2.1 1), (v14.2.2.1, (v14.2.2.2.1, (v14.2.2.2.2.1, ())))))))))) else (some (Out.exit (Sum.inl ((ltZ v0.1 v0.2.1), (v0.1, (v0.2.1, (v0.2.2.1, (v0.2.2.2.1, ()))))))))))
def impl_StepsOk (x : ((List D_Step) × Unit)) (c : Unit) : (Option (Bool × Unit)) :=
  (Option.bind (loopN (A := s_impl_StepsOk_L0) big impl_StepsOk_L0 (0, ((lenI x.1), (x.1, (x.1, ()))))) fun v15 => (match v15 with | Out.norm v16 => none | Out.exit v17 => (match ((match v17 with | Sum.inl v22 => (Sum.inl (v22.2.2.2.2.1, ())) | Sum.inr v23 => (Empty.elim v23)) : (((List D_Step) × Unit) ⊕ Empty)) with | Sum.inl v18 => (Option.bind ((Option.bind (impl_within ((lenI v18.1), (1, (8, ()))) ()) fun v19 => (some v19.1)) : (Option Bool)) fun v20 => (some (v20, ()))) | Sum.inr v21 => none) | Out.ret v24 => (some v24)))
def H_impl_StepsOk : Hd := ⟨[.sl 228 (.st [.int .i64, .int .i64])], [], none, .p, .bool, .p, []⟩
def T_impl_StepsOk : FSig := sg_ H_impl_StepsOk impl_StepsOk
theorem E_impl_StepsOk : fnOf tys [(115, T_impl_isTime), (131, T_impl_within), (302, T_impl_isAmount)] Tryz.f267 H_impl_StepsOk = T_impl_StepsOk := by kernel_rfl
theorem K_impl_StepsOk : SigOk Tryz.prog 267 T_impl_StepsOk := e_k E_impl_StepsOk (fnOf_ok rfl tysOk ⟨K_impl_isTime, K_impl_within, K_impl_isAmount, trivial⟩ Tryz.func267 (by decide) rfl (fun _ h => by cases h) (nilEq_of (by kernel_rfl)))
abbrev s_impl_ResourceOk_L0 : Type := (Int × (Int × ((List Int) × (Int × (Int × ((List (List Int)) × (D_Resource × Unit)))))))
def impl_ResourceOk_L0 : s_impl_ResourceOk_L0 → Option (Out s_impl_ResourceOk_L0 ((Bool × s_impl_ResourceOk_L0) ⊕ Empty) (Bool × Unit)) :=
  (fun v2 => (if (ltZ v2.1 v2.2.1) = true then (Option.bind (getI v2.2.2.1 v2.1) fun v3 => (Option.bind ((Option.bind (impl_within (v3, (0, (12, ()))) ()) fun v4 => (some v4.1)) : (Option Bool)) fun v5 => (if (notB v5) = true then (some (Out.ret (false, ()))) else (some (Out.norm ((addZ .i64 v2.1 1), (v2.2.1, (v2.2.2.1, (v2.2.2.2.1, (v2.2.2.2.2.1, (v2.2.2.2.2.2.1, (v2.2.2.2.2.2.2.1, ())))))))))))) else (some (Out.exit (Sum.inl ((ltZ v2.1 v2.2.1), (v2.1, (v2.2.1, (v2.2.2.1, (v2.2.2.2.1, (v2.2.2.2.2.1, (v2.2.2.2.2.2.1, (v2.2.2.2.2.2.2.1, ())))))))))))))
abbrev s_impl_ResourceOk_L1 : Type := (Int × (Int × ((List (List Int)) × (D_Resource × Unit))))
def impl_ResourceOk_L1 : s_impl_ResourceOk_L1 → Option (Out s_impl_ResourceOk_L1 ((Bool × s_impl_ResourceOk_L1) ⊕ Empty) (Bool × Unit)) :=
  (fun v0 => (if (ltZ v0.1 v0.2.1) = true then (Option.bind (getI v0.2.2.1 v0.1) fun v1 => (if (notB (eqZ (lenI v1) 4)) = true then (some (Out.ret (false, ()))) else (Option.bind (loopN (A := s_impl_ResourceOk_L0) big impl_ResourceOk_L0 (0, ((lenI v1), (v1, (v0.1, (v0.2.1, (v0.2.2.1, (v0.2.2.2.1, ())))))))) fun v6 => (match v6 with | Out.norm v7 => none | Out.exit v8 => (match ((match v8 with | Sum.inl v13 => (Sum.inl (v13.2.2.2.2.1, (v13.2.2.2.2.2.1, (v13.2.2.2.2.2.2.1, (v13.2.2.2.2.2.2.2.1, ()))))) | Sum.inr v14 => (Empty.elim v14)) : ((Int × (Int × ((List (List Int)) × (D_Resource × Unit)))) ⊕ Empty)) with | Sum.inl v9 => (some (Out.norm ((addZ .i64 v9.1 1), (v9.2.1, (v9.2.2.1, (v9.2.2.2.1, ())))))) | Sum.inr v10 => (match ((Empty.elim v10) : ((Int × (Int × ((List (List Int)) × (D_Resource × Unit)))) ⊕ Empty)) with | Sum.inl v11 => (some (Out.norm ((addZ .i64 v11.1 1), (v11.2.1, (v11.2.2.1, (v11.2.2.2.1, ())))))) | Sum.inr v12 => (some (Out.exit (Sum.inr (Empty.elim v12)))))) | Out.ret v15 => (some (Out.ret v15)))))) else (some (Out.exit (Sum.inl ((ltZ v0.1 v0.2.1), (v0.1, (v0.2.1, (v0.2.2.1, (v0.2.2.2.1, ()))))))))))
def impl_ResourceOk (x : (D_Resource × Unit)) (c : Unit) : (Option (Bool × Unit)) :=
  (Option.bind (loopN (A := s_impl_ResourceOk_L1) big impl_ResourceOk_L1 (0, ((lenI x.1.2.1), (x.1.2.1, (x.1, ()))))) fun v16 => (match v16 with | Out.norm v17 => none | Out.exit v18 => (match ((match v18 with | Sum.inl v25 => (Sum.inl (v25.2.2.2.2.1, ())) | Sum.inr v26 => (Empty.elim v26)) : ((D_Resource × Unit) ⊕ Empty)) with | Sum.inl v19 => (Option.bind ((Option.bind (impl_StepsOk (v19.1.1, ()) ()) fun v20 => (some v20.1)) : (Option Bool)) fun v21 => (Option.bind ((if v21 = true then (Option.bind ((if (eqZ (lenI v19.1.2.1) 0) = true then (some (true, ())) else (some ((eqZ (lenI v19.1.2.1) 4), ()))) : (Option (Bool × Unit))) fun v22 => (some (v22.1, ()))) else (some (false, ()))) : (Option (Bool × Unit))) fun v23 => (some (v23.1, ())))) | Sum.inr v24 => none) | Out.ret v27 => (some v27)))
def H_impl_ResourceOk : Hd := ⟨[y_4], [], none, .p, .bool, .p, []⟩
def T_impl_ResourceOk : FSig := sg_ H_impl_ResourceOk impl_ResourceOk
theorem E_impl_ResourceOk : fnOf tys [(131, T_impl_within), (267, T_impl_StepsOk)] Tryz.f249 H_impl_ResourceOk = T_impl_ResourceOk := by kernel_rfl
theorem K_impl_ResourceOk : SigOk Tryz.prog 249 T_impl_ResourceOk := e_k E_impl_ResourceOk (fnOf_ok rfl tysOk ⟨K_impl_within, K_impl_StepsOk, trivial⟩ Tryz.func249 (by decide) rfl (fun _ h => by cases h) (nilEq_of (by kernel_rfl)))
abbrev s_slices_IndexFunc_impl_Link_impl_Link_L0 : Type := (Int × (Int × (((D_Link × Unit) → (Option Bool)) × ((List D_Link) × Unit))))
def slices_IndexFunc_impl_Link_impl_Link_L0 : s_slices_IndexFunc_impl_Link_impl_Link_L0 → Option (Out s_slices_IndexFunc_impl_Link_impl_Link_L0 ((Bool × s_slices_IndexFunc_impl_Link_impl_Link_L0) ⊕ Empty) (Int × Unit)) :=
  (fun v0 => (if (ltZ v0.1 v0.2.1) = true then (Option.bind (getI v0.2.2.2.1 v0.1) fun v1 => (Option.bind (v0.2.2.1 (v1, ())) fun v2 => (if v2 = true then (some (Out.ret (v0.1, ()))) else (some (Out.norm ((addZ .i64 v0.1 1), (v0.2.1, (v0.2.2.1, (v0.2.2.2.1, ()))))))))) else (some (Out.exit (Sum.inl ((ltZ v0.1 v0.2.1), (v0.1, (v0.2.1, (v0.2.2.1, (v0.2.2.2.1, ()))))))))))
def slices_IndexFunc_impl_Link_impl_Link (x : ((List D_Link) × (((D_Link × Unit) → (Option Bool)) × Unit))) (c : Unit) : (Option (Int × Unit)) :=
  (Option.bind (loopN (A := s_slices_IndexFunc_impl_Link_impl_Link_L0) big slices_IndexFunc_impl_Link_impl_Link_L0 (0, ((lenI x.1), (x.2.1, (x.1, ()))))) fun v3 => (match v3 with | Out.norm v4 => none | Out.exit v5 => (match ((match v5 with | Sum.inl v8 => (Sum.inl ()) | Sum.inr v9 => (Empty.elim v9)) : (Unit ⊕ Empty)) with | Sum.inl v6 => (some ((-1), ())) | Sum.inr v7 => none) | Out.ret v10 => (some v10)))
def H_slices_IndexFunc_impl_Link_impl_Link : Hd := ⟨[.sl 164 (y_7), .fn [y_7] (.bool)], [], none, .p, .int .i64, .p, []⟩
def T_slices_IndexFunc_impl_Link_impl_Link : FSig := sg_ H_slices_IndexFunc_impl_Link_impl_Link slices_IndexFunc_impl_Link_impl_Link
theorem E_slices_IndexFunc_impl_Link_impl_Link : fnOf tys [] Tryz.f298 H_slices_IndexFunc_impl_Link_impl_Link = T_slices_IndexFunc_impl_Link_impl_Link := by kernel_rfl
theorem K_slices_IndexFunc_impl_Link_impl_Link : SigOk Tryz.prog 298 T_slices_IndexFunc_impl_Link_impl_Link := e_k E_slices_IndexFunc_impl_Link_impl_Link (fnOf_ok rfl tysOk trivial Tryz.func298 (by decide) rfl (fun _ h => by cases h) (nilEq_of (by kernel_rfl)))
def slices_ContainsFunc_impl_Link_impl_Link (x : ((List D_Link) × (((D_Link × Unit) → (Option Bool)) × Unit))) (c : Unit) : (Option (Bool × Unit)) :=
  (Option.bind ((Option.bind (slices_IndexFunc_impl_Link_impl_Link (x.1, (x.2.1, ())) ()) fun v0 => (some v0.1)) : (Option Int)) fun v1 => (some ((leZ 0 v1), ())))
def H_slices_ContainsFunc_impl_Link_impl_Link : Hd := ⟨[.sl 164 (y_7), .fn [y_7] (.bool)], [], none, .p, .bool, .p, []⟩
def T_slices_ContainsFunc_impl_Link_impl_Link : FSig := sg_ H_slices_ContainsFunc_impl_Link_impl_Link slices_ContainsFunc_impl_Link_impl_Link
theorem E_slices_ContainsFunc_impl_Link_impl_Link : fnOf tys [(298, T_slices_IndexFunc_impl_Link_impl_Link)] Tryz.f250 H_slices_ContainsFunc_impl_Link_impl_Link = T_slices_ContainsFunc_impl_Link_impl_Link := by kernel_rfl
theorem K_slices_ContainsFunc_impl_Link_impl_Link : SigOk Tryz.prog 250 T_slices_ContainsFunc_impl_Link_impl_Link := e_k E_slices_ContainsFunc_impl_Link_impl_Link (fnOf_ok rfl tysOk ⟨K_slices_IndexFunc_impl_Link_impl_Link, trivial⟩ Tryz.func250 (by decide) rfl (fun _ h => by cases h) (nilEq_of (by kernel_rfl)))
def impl_Project_linkOk (x : (D_Project × (D_Link × Unit))) (c : Unit) : (Option (Bool × Unit)) :=
  (Option.bind ((Option.bind (impl_Project_hasActivity (x.1, (x.2.1.1, ())) ()) fun v0 => (some v0.1)) : (Option Bool)) fun v1 => (Option.bind ((if v1 = true then (Option.bind ((Option.bind (impl_Project_hasActivity (x.1, (x.2.1.2.1, ())) ()) fun v2 => (some v2.1)) : (Option Bool)) fun v3 => (Option.bind ((if v3 = true then (Option.bind ((if (notB (eqZ x.2.1.1 x.2.1.2.1)) = true then (Option.bind ((Option.bind (impl_within (x.2.1.2.2.2.1, ((-60), (60, ()))) ()) fun v4 => (some v4.1)) : (Option Bool)) fun v5 => (some (v5, ()))) else (some (false, ()))) : (Option (Bool × Unit))) fun v6 => (some (v6.1, ()))) else (some (false, ()))) : (Option (Bool × Unit))) fun v7 => (some (v7.1, ())))) else (some (false, ()))) : (Option (Bool × Unit))) fun v8 => (some (v8.1, ()))))
def H_impl_Project_linkOk : Hd := ⟨[y_1, y_7], [], none, .p, .bool, .p, []⟩
def T_impl_Project_linkOk : FSig := sg_ H_impl_Project_linkOk impl_Project_linkOk
theorem E_impl_Project_linkOk : fnOf tys [(114, T_impl_Project_hasActivity), (131, T_impl_within)] Tryz.f252 H_impl_Project_linkOk = T_impl_Project_linkOk := by kernel_rfl
theorem K_impl_Project_linkOk : SigOk Tryz.prog 252 T_impl_Project_linkOk := e_k E_impl_Project_linkOk (fnOf_ok rfl tysOk ⟨K_impl_Project_hasActivity, K_impl_within, trivial⟩ Tryz.func252 (by decide) rfl (fun _ h => by cases h) (nilEq_of (by kernel_rfl)))
def impl_ProjectOk_1 (x : (D_Link × Unit)) (c : (D_Project × Unit)) : (Option (Bool × Unit)) :=
  (Option.bind ((Option.bind (impl_Project_linkOk (c.1, (x.1, ())) ()) fun v0 => (some v0.1)) : (Option Bool)) fun v1 => (some ((notB v1), ())))
def H_impl_ProjectOk_1 : Hd := ⟨[y_7], [y_1], none, .p, .bool, .p, []⟩
def T_impl_ProjectOk_1 : FSig := sg_ H_impl_ProjectOk_1 impl_ProjectOk_1
theorem E_impl_ProjectOk_1 : fnOf tys [(252, T_impl_Project_linkOk)] Tryz.f251 H_impl_ProjectOk_1 = T_impl_ProjectOk_1 := by kernel_rfl
theorem K_impl_ProjectOk_1 : SigOk Tryz.prog 251 T_impl_ProjectOk_1 := e_k E_impl_ProjectOk_1 (fnOf_ok rfl tysOk ⟨K_impl_Project_linkOk, trivial⟩ Tryz.func251 (by decide) rfl (fun _ h => by cases h) (nilEq_of (by kernel_rfl)))
abbrev s_impl_ProjectOk_L0 : Type := (Int × (Int × ((List D_Activity) × (D_Project × Unit))))
def impl_ProjectOk_L0 : s_impl_ProjectOk_L0 → Option (Out s_impl_ProjectOk_L0 ((Bool × s_impl_ProjectOk_L0) ⊕ Empty) (Bool × Unit)) :=
  (fun v8 => (if (ltZ v8.1 v8.2.1) = true then (Option.bind (getI v8.2.2.1 v8.1) fun v9 => (Option.bind ((Option.bind (impl_ActivityOk (v9, ((lenI v8.2.2.2.1.2.2.2.1), ((lenI v8.2.2.2.1.2.2.2.2.1), ()))) ()) fun v10 => (some v10.1)) : (Option Bool)) fun v11 => (Option.bind ((if (notB v11) = true then (some (true, (v8.1, (v8.2.1, (v8.2.2.1, (v8.2.2.2.1, ())))))) else (Option.bind ((Option.bind (impl_ActivityIndex (v8.2.2.2.1, (v9.1, ())) ()) fun v12 => (some v12.1)) : (Option Int)) fun v13 => (some ((notB (eqZ v13 v8.1)), (v8.1, (v8.2.1, (v8.2.2.1, (v8.2.2.2.1, ())))))))) : (Option (Bool × (Int × (Int × ((List D_Activity) × (D_Project × Unit))))))) fun v14 => (if v14.1 = true then (some (Out.ret (false, ()))) else (some (Out.norm ((addZ .i64 v14.2.1 1), (v14.2.2.1, (v14.2.2.2.1, (v14.2.2.2.2.1, ())))))))))) else (some (Out.exit (Sum.inl ((ltZ v8.1 v8.2.1), (v8.1, (v8.2.1, (v8.2.2.1, (v8.2.2.2.1, ()))))))))))
abbrev s_impl_ProjectOk_L1 : Type := (Int × (Int × ((List D_Resource) × (D_Project × Unit))))
def impl_ProjectOk_L1 : s_impl_ProjectOk_L1 → Option (Out s_impl_ProjectOk_L1 ((Bool × s_impl_ProjectOk_L1) ⊕ Empty) (Bool × Unit)) :=
  (fun v19 => (if (ltZ v19.1 v19.2.1) = true then (Option.bind (getI v19.2.2.1 v19.1) fun v20 => (Option.bind ((Option.bind (impl_ResourceOk (v20, ()) ()) fun v21 => (some v21.1)) : (Option Bool)) fun v22 => (if (notB v22) = true then (some (Out.ret (false, ()))) else (some (Out.norm ((addZ .i64 v19.1 1), (v19.2.1, (v19.2.2.1, (v19.2.2.2.1, ()))))))))) else (some (Out.exit (Sum.inl ((ltZ v19.1 v19.2.1), (v19.1, (v19.2.1, (v19.2.2.1, (v19.2.2.2.1, ()))))))))))
abbrev s_impl_ProjectOk_L2 : Type := (Int × (Int × ((List Int) × (D_Project × Unit))))
def impl_ProjectOk_L2 : s_impl_ProjectOk_L2 → Option (Out s_impl_ProjectOk_L2 ((Bool × s_impl_ProjectOk_L2) ⊕ Empty) (Bool × Unit)) :=
  (fun v27 => (if (ltZ v27.1 v27.2.1) = true then (Option.bind (getI v27.2.2.1 v27.1) fun v28 => (Option.bind ((Option.bind (impl_within (v28, (0, (100, ()))) ()) fun v29 => (some v29.1)) : (Option Bool)) fun v30 => (if (notB v30) = true then (some (Out.ret (false, ()))) else (some (Out.norm ((addZ .i64 v27.1 1), (v27.2.1, (v27.2.2.1, (v27.2.2.2.1, ()))))))))) else (some (Out.exit (Sum.inl ((ltZ v27.1 v27.2.1), (v27.1, (v27.2.1, (v27.2.2.1, (v27.2.2.2.1, ()))))))))))
def impl_ProjectOk (x : (D_Project × Unit)) (c : Unit) : (Option (Bool × Unit)) :=
  (Option.bind ((Option.bind (impl_within (x.1.1, (1, (60, ()))) ()) fun v0 => (some v0.1)) : (Option Bool)) fun v1 => (Option.bind ((if (notB v1) = true then (some (true, (x.1, ()))) else (Option.bind ((Option.bind (impl_within ((lenI x.1.2.1), (1, (6, ()))) ()) fun v2 => (some v2.1)) : (Option Bool)) fun v3 => (Option.bind ((if (notB v3) = true then (some (true, (x.1, ()))) else (Option.bind ((if (ltZ 3 (lenI x.1.2.2.2.1)) = true then (some (true, (x.1, ()))) else (Option.bind ((if (ltZ 2 (lenI x.1.2.2.2.2.1)) = true then (some (true, (x.1, ()))) else (some ((ltZ 12 (lenI x.1.2.2.1)), (x.1, ())))) : (Option (Bool × (D_Project × Unit)))) fun v4 => (some (v4.1, (v4.2.1, ()))))) : (Option (Bool × (D_Project × Unit)))) fun v5 => (some (v5.1, (v5.2.1, ()))))) : (Option (Bool × (D_Project × Unit)))) fun v6 => (some (v6.1, (v6.2.1, ())))))) : (Option (Bool × (D_Project × Unit)))) fun v7 => (if v7.1 = true then (some (false, ())) else (Option.bind (loopN (A := s_impl_ProjectOk_L0) big impl_ProjectOk_L0 (0, ((lenI v7.2.1.2.1), (v7.2.1.2.1, (v7.2.1, ()))))) fun v15 => (match v15 with | Out.norm v16 => none | Out.exit v17 => (match ((match v17 with | Sum.inl v48 => (Sum.inl (v48.2.2.2.2.1, ())) | Sum.inr v49 => (Empty.elim v49)) : ((D_Project × Unit) ⊕ Empty)) with | Sum.inl v18 => (Option.bind (loopN (A := s_impl_ProjectOk_L1) big impl_ProjectOk_L1 (0, ((lenI v18.1.2.2.2.1), (v18.1.2.2.2.1, (v18.1, ()))))) fun v23 => (match v23 with | Out.norm v24 => none | Out.exit v25 => (match ((match v25 with | Sum.inl v44 => (Sum.inl (v44.2.2.2.2.1, ())) | Sum.inr v45 => (Empty.elim v45)) : ((D_Project × Unit) ⊕ Empty)) with | Sum.inl v26 => (Option.bind (loopN (A := s_impl_ProjectOk_L2) big impl_ProjectOk_L2 (0, ((lenI v26.1.2.2.2.2.1), (v26.1.2.2.2.2.1, (v26.1, ()))))) fun v31 => (match v31 with | Out.norm v32 => none | Out.exit v33 => (match ((match v33 with | Sum.inl v40 => (Sum.inl (v40.2.2.2.2.1, ())) | Sum.inr v41 => (Empty.elim v41)) : ((D_Project × Unit) ⊕ Empty)) with | Sum.inl v34 => (Option.bind ((Option.bind (slices_ContainsFunc_impl_Link_impl_Link (v34.1.2.2.1, ((fun v35 => (Option.bind (impl_ProjectOk_1 v35 (v34.1, ())) fun v36 => (some v36.1))), ())) ()) fun v37 => (some v37.1)) : (Option Bool)) fun v38 => (some ((notB v38), ()))) | Sum.inr v39 => none) | Out.ret v42 => (some v42))) | Sum.inr v43 => none) | Out.ret v46 => (some v46))) | Sum.inr v47 => none) | Out.ret v50 => (some v50))))))
def H_impl_ProjectOk : Hd := ⟨[y_1], [], none, .p, .bool, .p, []⟩
def T_impl_ProjectOk : FSig := sg_ H_impl_ProjectOk impl_ProjectOk
theorem E_impl_ProjectOk : fnOf tys [(131, T_impl_within), (247, T_impl_ActivityOk), (248, T_impl_ActivityIndex), (249, T_impl_ResourceOk), (250, T_slices_ContainsFunc_impl_Link_impl_Link), (251, T_impl_ProjectOk_1)] Tryz.f174 H_impl_ProjectOk = T_impl_ProjectOk := by kernel_rfl
theorem K_impl_ProjectOk : SigOk Tryz.prog 174 T_impl_ProjectOk := e_k E_impl_ProjectOk (fnOf_ok rfl tysOk ⟨K_impl_within, K_impl_ActivityOk, K_impl_ActivityIndex, K_impl_ResourceOk, K_slices_ContainsFunc_impl_Link_impl_Link, K_impl_ProjectOk_1, trivial⟩ Tryz.func174 (by decide) rfl (fun _ h => by cases h) (nilEq_of (by kernel_rfl)))
abbrev s_impl_SetOk_L0 : Type := (Int × ((List Int) × Unit))
def impl_SetOk_L0 : s_impl_SetOk_L0 → Option (Out s_impl_SetOk_L0 ((Bool × s_impl_SetOk_L0) ⊕ Empty) (Bool × Unit)) :=
  (fun v0 => (if (ltZ v0.1 (lenI v0.2.1)) = true then (Option.bind (getI v0.2.1 v0.1) fun v1 => (Option.bind (getI v0.2.1 (subZ .i64 v0.1 1)) fun v2 => (if (leZ v1 v2) = true then (some (Out.ret (false, ()))) else (some (Out.norm ((addZ .i64 v0.1 1), (v0.2.1, ()))))))) else (some (Out.exit (Sum.inl ((ltZ v0.1 (lenI v0.2.1)), (v0.1, (v0.2.1, ()))))))))
def impl_SetOk (x : ((List Int) × Unit)) (c : Unit) : (Option (Bool × Unit)) :=
  (Option.bind (loopN (A := s_impl_SetOk_L0) big impl_SetOk_L0 (1, (x.1, ()))) fun v3 => (match v3 with | Out.norm v4 => none | Out.exit v5 => (match ((match v5 with | Sum.inl v8 => (Sum.inl ()) | Sum.inr v9 => (Empty.elim v9)) : (Unit ⊕ Empty)) with | Sum.inl v6 => (some (true, ())) | Sum.inr v7 => none) | Out.ret v10 => (some v10)))
def H_impl_SetOk : Hd := ⟨[.sl 3 (.int .i64)], [], none, .p, .bool, .p, []⟩
def T_impl_SetOk : FSig := sg_ H_impl_SetOk impl_SetOk
theorem E_impl_SetOk : fnOf tys [] Tryz.f188 H_impl_SetOk = T_impl_SetOk := by kernel_rfl
theorem K_impl_SetOk : SigOk Tryz.prog 188 T_impl_SetOk := e_k E_impl_SetOk (fnOf_ok rfl tysOk trivial Tryz.func188 (by decide) rfl (fun _ h => by cases h) (nilEq_of (by kernel_rfl)))
abbrev s_slices_Index_int_int_L0 : Type := (Int × (Int × (Int × ((List Int) × Unit))))
def slices_Index_int_int_L0 : s_slices_Index_int_int_L0 → Option (Out s_slices_Index_int_int_L0 ((Bool × s_slices_Index_int_int_L0) ⊕ Empty) (Int × Unit)) :=
  (fun v0 => (if (ltZ v0.1 v0.2.1) = true then (Option.bind (getI v0.2.2.2.1 v0.1) fun v1 => (if (eqZ v0.2.2.1 v1) = true then (some (Out.ret (v0.1, ()))) else (some (Out.norm ((addZ .i64 v0.1 1), (v0.2.1, (v0.2.2.1, (v0.2.2.2.1, ())))))))) else (some (Out.exit (Sum.inl ((ltZ v0.1 v0.2.1), (v0.1, (v0.2.1, (v0.2.2.1, (v0.2.2.2.1, ()))))))))))
def slices_Index_int_int (x : ((List Int) × (Int × Unit))) (c : Unit) : (Option (Int × Unit)) :=
  (Option.bind (loopN (A := s_slices_Index_int_int_L0) big slices_Index_int_int_L0 (0, ((lenI x.1), (x.2.1, (x.1, ()))))) fun v2 => (match v2 with | Out.norm v3 => none | Out.exit v4 => (match ((match v4 with | Sum.inl v7 => (Sum.inl ()) | Sum.inr v8 => (Empty.elim v8)) : (Unit ⊕ Empty)) with | Sum.inl v5 => (some ((-1), ())) | Sum.inr v6 => none) | Out.ret v9 => (some v9)))
def H_slices_Index_int_int : Hd := ⟨[.sl 3 (.int .i64), .int .i64], [], none, .p, .int .i64, .p, []⟩
def T_slices_Index_int_int : FSig := sg_ H_slices_Index_int_int slices_Index_int_int
theorem E_slices_Index_int_int : fnOf tys [] Tryz.f266 H_slices_Index_int_int = T_slices_Index_int_int := by kernel_rfl
theorem K_slices_Index_int_int : SigOk Tryz.prog 266 T_slices_Index_int_int := e_k E_slices_Index_int_int (fnOf_ok rfl tysOk trivial Tryz.func266 (by decide) rfl (fun _ h => by cases h) (nilEq_of (by kernel_rfl)))
def slices_Contains_int_int (x : ((List Int) × (Int × Unit))) (c : Unit) : (Option (Bool × Unit)) :=
  (Option.bind ((Option.bind (slices_Index_int_int (x.1, (x.2.1, ())) ()) fun v0 => (some v0.1)) : (Option Int)) fun v1 => (some ((leZ 0 v1), ())))
def H_slices_Contains_int_int : Hd := ⟨[.sl 3 (.int .i64), .int .i64], [], none, .p, .bool, .p, []⟩
def T_slices_Contains_int_int : FSig := sg_ H_slices_Contains_int_int slices_Contains_int_int
theorem E_slices_Contains_int_int : fnOf tys [(266, T_slices_Index_int_int)] Tryz.f211 H_slices_Contains_int_int = T_slices_Contains_int_int := by kernel_rfl
theorem K_slices_Contains_int_int : SigOk Tryz.prog 211 T_slices_Contains_int_int := e_k E_slices_Contains_int_int (fnOf_ok rfl tysOk ⟨K_slices_Index_int_int, trivial⟩ Tryz.func211 (by decide) rfl (fun _ h => by cases h) (nilEq_of (by kernel_rfl)))
def impl_SetHas (x : ((List Int) × (Int × Unit))) (c : Unit) : (Option (Bool × Unit)) :=
  (Option.bind ((Option.bind (slices_Contains_int_int (x.1, (x.2.1, ())) ()) fun v0 => (some v0.1)) : (Option Bool)) fun v1 => (some (v1, ())))
def H_impl_SetHas : Hd := ⟨[.sl 3 (.int .i64), .int .i64], [], none, .p, .bool, .p, []⟩
def T_impl_SetHas : FSig := sg_ H_impl_SetHas impl_SetHas
theorem E_impl_SetHas : fnOf tys [(211, T_slices_Contains_int_int)] Tryz.f130 H_impl_SetHas = T_impl_SetHas := by kernel_rfl
theorem K_impl_SetHas : SigOk Tryz.prog 130 T_impl_SetHas := e_k E_impl_SetHas (fnOf_ok rfl tysOk ⟨K_slices_Contains_int_int, trivial⟩ Tryz.func130 (by decide) rfl (fun _ h => by cases h) (nilEq_of (by kernel_rfl)))
def impl_SetSubset_L0 : (Int × D_Mode) → Option (Out (Int × D_Mode) ((Bool × (Int × D_Mode)) ⊕ Empty) (Bool × Unit)) :=
  (fun v0 => (if (ltZ v0.1 v0.2.1) = true then (Option.bind (getI v0.2.2.1 v0.1) fun v1 => (Option.bind ((Option.bind (impl_SetHas (v0.2.2.2.1, (v1, ())) ()) fun v2 => (some v2.1)) : (Option Bool)) fun v3 => (if (notB v3) = true then (some (Out.ret (false, ()))) else (some (Out.norm ((addZ .i64 v0.1 1), (v0.2.1, (v0.2.2.1, (v0.2.2.2.1, ()))))))))) else (some (Out.exit (Sum.inl ((ltZ v0.1 v0.2.1), (v0.1, (v0.2.1, (v0.2.2.1, (v0.2.2.2.1, ()))))))))))
def impl_SetSubset (x : ((List Int) × ((List Int) × Unit))) (c : Unit) : (Option (Bool × Unit)) :=
  (Option.bind (loopN (A := (Int × D_Mode)) big impl_SetSubset_L0 (0, ((lenI x.1), (x.1, (x.2.1, ()))))) fun v4 => (match v4 with | Out.norm v5 => none | Out.exit v6 => (match ((match v6 with | Sum.inl v9 => (Sum.inl ()) | Sum.inr v10 => (Empty.elim v10)) : (Unit ⊕ Empty)) with | Sum.inl v7 => (some (true, ())) | Sum.inr v8 => none) | Out.ret v11 => (some v11)))
def H_impl_SetSubset : Hd := ⟨[.sl 3 (.int .i64), .sl 3 (.int .i64)], [], none, .p, .bool, .p, []⟩
def T_impl_SetSubset : FSig := sg_ H_impl_SetSubset impl_SetSubset
theorem E_impl_SetSubset : fnOf tys [(130, T_impl_SetHas)] Tryz.f189 H_impl_SetSubset = T_impl_SetSubset := by kernel_rfl
theorem K_impl_SetSubset : SigOk Tryz.prog 189 T_impl_SetSubset := e_k E_impl_SetSubset (fnOf_ok rfl tysOk ⟨K_impl_SetHas, trivial⟩ Tryz.func189 (by decide) rfl (fun _ h => by cases h) (nilEq_of (by kernel_rfl)))
abbrev s_impl_IntRange_L0 : Type := (Int × (Int × ((List Int) × Unit)))
def impl_IntRange_L0 : s_impl_IntRange_L0 → Option (Out s_impl_IntRange_L0 ((Bool × s_impl_IntRange_L0) ⊕ Empty) ((List Int) × Unit)) :=
  (fun v2 => (if (ltZ v2.1 v2.2.1) = true then (Option.bind (addI v2.2.2.1 (v2.1 :: [])) fun v3 => (some (Out.norm ((addZ .i64 v2.1 1), (v2.2.1, (v3, ())))))) else (some (Out.exit (Sum.inl ((ltZ v2.1 v2.2.1), (v2.1, (v2.2.1, (v2.2.2.1, ())))))))))
def impl_IntRange (x : (Int × Unit)) (c : Unit) : (Option ((List Int) × Unit)) :=
  (Option.bind ((Option.bind (impl_within (x.1, (0, (200, ()))) ()) fun v0 => (some v0.1)) : (Option Bool)) fun v1 => (if (notB v1) = true then (some ([], ())) else (Option.bind (loopN (A := s_impl_IntRange_L0) big impl_IntRange_L0 (0, (x.1, ([], ())))) fun v4 => (match v4 with | Out.norm v5 => none | Out.exit v6 => (match ((match v6 with | Sum.inl v9 => (Sum.inl (v9.2.2.2.1, ())) | Sum.inr v10 => (Empty.elim v10)) : (((List Int) × Unit) ⊕ Empty)) with | Sum.inl v7 => (some (v7.1, ())) | Sum.inr v8 => none) | Out.ret v11 => (some v11)))))
def H_impl_IntRange : Hd := ⟨[.int .i64], [], none, .p, .sl 3 (.int .i64), (Ty.all (.sl 3 (.int .i64))), []⟩
def T_impl_IntRange : FSig := sg_ H_impl_IntRange impl_IntRange
theorem E_impl_IntRange : fnOf tys [(131, T_impl_within)] Tryz.f210 H_impl_IntRange = T_impl_IntRange := by kernel_rfl
theorem K_impl_IntRange : SigOk Tryz.prog 210 T_impl_IntRange := e_k E_impl_IntRange (fnOf_ok rfl tysOk ⟨K_impl_within, trivial⟩ Tryz.func210 (by decide) rfl (fun _ h => by cases h) (nilEq_of (by kernel_rfl)))
end Go.Proofs.YtafnhdfjcocpgaaGreat