/-
  The functions of this seat as plain Lean functions, and that the program computes them. No condition.
-/
import Derived.Test.YtjgmjljdhgfdhaaGreatN37
import Derived.Test.YtjgmjljdhgfdhaaGreatj4X
import Derived.Test.YtjgmjljdhgfdhaaGreatProg
import Derived.KernelRfl
namespace Go.Proofs.YtjgmjljdhgfdhaaGreat
open Go.Abs
set_option linter.unusedVariables false
set_option maxRecDepth 100000
abbrev D_Mode : Type := (Int × ((List Int) × ((List Int) × Unit)))
abbrev D_Activity : Type := ((List UInt8) × (Int × ((List D_Mode) × Unit)))
abbrev D_Link : Type := (Int × (Int × (Bool × (Int × Unit))))
abbrev D_Step : Type := (Int × (Int × Unit))
abbrev D_Resource : Type := ((List D_Step) × ((List (List Int)) × Unit))
abbrev D_Project : Type := (Int × ((List D_Activity) × ((List D_Link) × ((List D_Resource) × ((List Int) × Unit)))))
abbrev D_Literal : Type := (Int × D_Step)
abbrev D_Domain : Type := ((List Int) × ((List Int) × ((List (List Int)) × Unit)))
theorem tn3 : TnOk Tryz.prog 3 (.int .i64) := ⟨Tryz.underlying3, fun _ h => (by cases h), Tryz.t3, rfl, rfl, fun _ _ => rfl⟩
theorem tn4 : TnOk Tryz.prog 4 (.bool) := ⟨Tryz.underlying4, fun _ h => (by cases h), Tryz.t4, rfl, rfl, fun _ _ => rfl⟩
theorem tn5 : TnOk Tryz.prog 5 (.int .u8) := ⟨Tryz.underlying5, fun _ h => (by cases h), Tryz.t5, rfl, rfl, fun _ _ => rfl⟩
theorem tn9 : TnOk Tryz.prog 9 (.str) := ⟨Tryz.underlying9, fun _ h => (by cases h), Tryz.t9, rfl, rfl, fun _ _ => rfl⟩
theorem tn22 : TnOk Tryz.prog 22 (.sl 103 (.st [.str, .int .i64, .sl 176 (.st [.int .i64, .sl 3 (.int .i64), .sl 3 (.int .i64)])])) := ⟨⟨Tryz.underlying22, Tryz.t103, _, rfl, rfl, rfl, rfl, by decide, by decide, fun _ _ => rfl, fun k h => by cases h⟩, fun _ h => (by cases h), Tryz.t22, rfl, rfl, fun _ _ => rfl⟩
theorem tn23 : TnOk Tryz.prog 23 (.sl 123 (.st [.int .i64, .int .i64, .bool, .int .i64])) := ⟨⟨Tryz.underlying23, Tryz.t123, _, rfl, rfl, rfl, rfl, by decide, by decide, fun _ _ => rfl, fun k h => by cases h⟩, fun _ h => (by cases h), Tryz.t23, rfl, rfl, fun _ _ => rfl⟩
theorem tn24 : TnOk Tryz.prog 24 (.sl 107 (.st [.sl 185 (.st [.int .i64, .int .i64]), .sl 25 (.sl 3 (.int .i64))])) := ⟨⟨Tryz.underlying24, Tryz.t107, _, rfl, rfl, rfl, rfl, by decide, by decide, fun _ _ => rfl, fun k h => by cases h⟩, fun _ h => (by cases h), Tryz.t24, rfl, rfl, fun _ _ => rfl⟩
theorem tn25 : TnOk Tryz.prog 25 (.sl 3 (.int .i64)) := ⟨⟨Tryz.underlying25, Tryz.t3, _, rfl, rfl, rfl, rfl, by decide, by decide, fun _ _ => rfl, fun k h => by cases h; exact Tryz.underlying3⟩, fun _ h => (by cases h), Tryz.t25, rfl, rfl, fun _ _ => rfl⟩
theorem tn26 : TnOk Tryz.prog 26 (.st [.int .i64, .sl 103 (.st [.str, .int .i64, .sl 176 (.st [.int .i64, .sl 3 (.int .i64), .sl 3 (.int .i64)])]), .sl 123 (.st [.int .i64, .int .i64, .bool, .int .i64]), .sl 107 (.st [.sl 185 (.st [.int .i64, .int .i64]), .sl 25 (.sl 3 (.int .i64))]), .sl 3 (.int .i64)]) := ⟨⟨_, Tryz.underlying26, Tryz.eqGuardType26, Tryz.stoodInHeld26, rfl, fun j τ h => by
    cases j with
    | zero => cases h; exact ⟨_, _, rfl, rfl, by decide, by decide, Tryz.underlying3, rfl, fun us h => by cases h⟩
    | succ j =>
     cases j with
     | zero => cases h; exact ⟨_, _, rfl, rfl, by decide, by decide, Tryz.underlying22, rfl, fun us h => by cases h⟩
     | succ j =>
      cases j with
      | zero => cases h; exact ⟨_, _, rfl, rfl, by decide, by decide, Tryz.underlying23, rfl, fun us h => by cases h⟩
      | succ j =>
       cases j with
       | zero => cases h; exact ⟨_, _, rfl, rfl, by decide, by decide, Tryz.underlying24, rfl, fun us h => by cases h⟩
       | succ j =>
        cases j with
        | zero => cases h; exact ⟨_, _, rfl, rfl, by decide, by decide, Tryz.underlying25, rfl, fun us h => by cases h⟩
        | succ j =>
         cases h⟩, (fun us hus fs hfs j τ h f hf => by
    cases hus
    rw [Tryz.underlying26] at hfs
    cases hfs
    cases j with
    | zero => cases h; cases hf; exact ⟨fun k e => by cases e; exact Tryz.underlying3, fun e => (by cases e), fun e => (by cases e)⟩
    | succ j =>
     cases j with
     | zero => cases h; cases hf; exact ⟨fun k e => (by cases e), fun e => (by cases e), fun e => (by cases e)⟩
     | succ j =>
      cases j with
      | zero => cases h; cases hf; exact ⟨fun k e => (by cases e), fun e => (by cases e), fun e => (by cases e)⟩
      | succ j =>
       cases j with
       | zero => cases h; cases hf; exact ⟨fun k e => (by cases e), fun e => (by cases e), fun e => (by cases e)⟩
       | succ j =>
        cases j with
        | zero => cases h; cases hf; exact ⟨fun k e => (by cases e), fun e => (by cases e), fun e => (by cases e)⟩
        | succ j =>
         cases h), Tryz.t26, rfl, rfl, fun _ _ => rfl⟩
theorem tn27 : TnOk Tryz.prog 27 (.st [.int .i64, .sl 103 (.st [.str, .int .i64, .sl 176 (.st [.int .i64, .sl 3 (.int .i64), .sl 3 (.int .i64)])]), .sl 123 (.st [.int .i64, .int .i64, .bool, .int .i64]), .sl 107 (.st [.sl 185 (.st [.int .i64, .int .i64]), .sl 25 (.sl 3 (.int .i64))]), .sl 3 (.int .i64)]) := ⟨⟨_, Tryz.underlying27, Tryz.eqGuardType27, Tryz.stoodInHeld27, rfl, fun j τ h => by
    cases j with
    | zero => cases h; exact ⟨_, _, rfl, rfl, by decide, by decide, Tryz.underlying3, rfl, fun us h => by cases h⟩
    | succ j =>
     cases j with
     | zero => cases h; exact ⟨_, _, rfl, rfl, by decide, by decide, Tryz.underlying22, rfl, fun us h => by cases h⟩
     | succ j =>
      cases j with
      | zero => cases h; exact ⟨_, _, rfl, rfl, by decide, by decide, Tryz.underlying23, rfl, fun us h => by cases h⟩
      | succ j =>
       cases j with
       | zero => cases h; exact ⟨_, _, rfl, rfl, by decide, by decide, Tryz.underlying24, rfl, fun us h => by cases h⟩
       | succ j =>
        cases j with
        | zero => cases h; exact ⟨_, _, rfl, rfl, by decide, by decide, Tryz.underlying25, rfl, fun us h => by cases h⟩
        | succ j =>
         cases h⟩, (fun us hus fs hfs j τ h f hf => by
    cases hus
    rw [Tryz.underlying27] at hfs
    cases hfs
    cases j with
    | zero => cases h; cases hf; exact ⟨fun k e => by cases e; exact Tryz.underlying3, fun e => (by cases e), fun e => (by cases e)⟩
    | succ j =>
     cases j with
     | zero => cases h; cases hf; exact ⟨fun k e => (by cases e), fun e => (by cases e), fun e => (by cases e)⟩
     | succ j =>
      cases j with
      | zero => cases h; cases hf; exact ⟨fun k e => (by cases e), fun e => (by cases e), fun e => (by cases e)⟩
      | succ j =>
       cases j with
       | zero => cases h; cases hf; exact ⟨fun k e => (by cases e), fun e => (by cases e), fun e => (by cases e)⟩
       | succ j =>
        cases j with
        | zero => cases h; cases hf; exact ⟨fun k e => (by cases e), fun e => (by cases e), fun e => (by cases e)⟩
        | succ j =>
         cases h), Tryz.t27, rfl, rfl, fun _ _ => rfl⟩
theorem tn28 : TnOk Tryz.prog 28 (.fn [.st [.int .i64, .sl 103 (.st [.str, .int .i64, .sl 176 (.st [.int .i64, .sl 3 (.int .i64), .sl 3 (.int .i64)])]), .sl 123 (.st [.int .i64, .int .i64, .bool, .int .i64]), .sl 107 (.st [.sl 185 (.st [.int .i64, .int .i64]), .sl 25 (.sl 3 (.int .i64))]), .sl 3 (.int .i64)], .int .i64] (.int .i64)) := ⟨⟨_, _, _, Tryz.underlying28⟩, fun _ h => (by cases h), Tryz.t28, rfl, rfl, fun _ h => by cases h⟩
theorem tn33 : TnOk Tryz.prog 33 (.sl 118 (.st [.str, .int .i64, .sl 159 (.st [.int .i64, .sl 3 (.int .i64), .sl 3 (.int .i64)])])) := ⟨⟨Tryz.underlying33, Tryz.t118, _, rfl, rfl, rfl, rfl, by decide, by decide, fun _ _ => rfl, fun k h => by cases h⟩, fun _ h => (by cases h), Tryz.t33, rfl, rfl, fun _ _ => rfl⟩
theorem tn34 : TnOk Tryz.prog 34 (.sl 121 (.st [.int .i64, .int .i64, .bool, .int .i64])) := ⟨⟨Tryz.underlying34, Tryz.t121, _, rfl, rfl, rfl, rfl, by decide, by decide, fun _ _ => rfl, fun k h => by cases h⟩, fun _ h => (by cases h), Tryz.t34, rfl, rfl, fun _ _ => rfl⟩
theorem tn35 : TnOk Tryz.prog 35 (.sl 126 (.st [.sl 170 (.st [.int .i64, .int .i64]), .sl 25 (.sl 3 (.int .i64))])) := ⟨⟨Tryz.underlying35, Tryz.t126, _, rfl, rfl, rfl, rfl, by decide, by decide, fun _ _ => rfl, fun k h => by cases h⟩, fun _ h => (by cases h), Tryz.t35, rfl, rfl, fun _ _ => rfl⟩
theorem tn36 : TnOk Tryz.prog 36 (.st [.int .i64, .sl 118 (.st [.str, .int .i64, .sl 159 (.st [.int .i64, .sl 3 (.int .i64), .sl 3 (.int .i64)])]), .sl 121 (.st [.int .i64, .int .i64, .bool, .int .i64]), .sl 126 (.st [.sl 170 (.st [.int .i64, .int .i64]), .sl 25 (.sl 3 (.int .i64))]), .sl 3 (.int .i64)]) := ⟨⟨_, Tryz.underlying36, Tryz.eqGuardType36, Tryz.stoodInHeld36, rfl, fun j τ h => by
    cases j with
    | zero => cases h; exact ⟨_, _, rfl, rfl, by decide, by decide, Tryz.underlying3, rfl, fun us h => by cases h⟩
    | succ j =>
     cases j with
     | zero => cases h; exact ⟨_, _, rfl, rfl, by decide, by decide, Tryz.underlying33, rfl, fun us h => by cases h⟩
     | succ j =>
      cases j with
      | zero => cases h; exact ⟨_, _, rfl, rfl, by decide, by decide, Tryz.underlying34, rfl, fun us h => by cases h⟩
      | succ j =>
       cases j with
       | zero => cases h; exact ⟨_, _, rfl, rfl, by decide, by decide, Tryz.underlying35, rfl, fun us h => by cases h⟩
       | succ j =>
        cases j with
        | zero => cases h; exact ⟨_, _, rfl, rfl, by decide, by decide, Tryz.underlying25, rfl, fun us h => by cases h⟩
        | succ j =>
         cases h⟩, (fun us hus fs hfs j τ h f hf => by
    cases hus
    rw [Tryz.underlying36] at hfs
    cases hfs
    cases j with
    | zero => cases h; cases hf; exact ⟨fun k e => by cases e; exact Tryz.underlying3, fun e => (by cases e), fun e => (by cases e)⟩
    | succ j =>
     cases j with
     | zero => cases h; cases hf; exact ⟨fun k e => (by cases e), fun e => (by cases e), fun e => (by cases e)⟩
     | succ j =>
      cases j with
      | zero => cases h; cases hf; exact ⟨fun k e => (by cases e), fun e => (by cases e), fun e => (by cases e)⟩
      | succ j =>
       cases j with
       | zero => cases h; cases hf; exact ⟨fun k e => (by cases e), fun e => (by cases e), fun e => (by cases e)⟩
       | succ j =>
        cases j with
        | zero => cases h; cases hf; exact ⟨fun k e => (by cases e), fun e => (by cases e), fun e => (by cases e)⟩
        | succ j =>
         cases h), Tryz.t36, rfl, rfl, fun _ _ => rfl⟩
theorem tn37 : TnOk Tryz.prog 37 (.st [.int .i64, .sl 118 (.st [.str, .int .i64, .sl 159 (.st [.int .i64, .sl 3 (.int .i64), .sl 3 (.int .i64)])]), .sl 121 (.st [.int .i64, .int .i64, .bool, .int .i64]), .sl 126 (.st [.sl 170 (.st [.int .i64, .int .i64]), .sl 25 (.sl 3 (.int .i64))]), .sl 3 (.int .i64)]) := ⟨⟨_, Tryz.underlying37, Tryz.eqGuardType37, Tryz.stoodInHeld37, rfl, fun j τ h => by
    cases j with
    | zero => cases h; exact ⟨_, _, rfl, rfl, by decide, by decide, Tryz.underlying3, rfl, fun us h => by cases h⟩
    | succ j =>
     cases j with
     | zero => cases h; exact ⟨_, _, rfl, rfl, by decide, by decide, Tryz.underlying33, rfl, fun us h => by cases h⟩
     | succ j =>
      cases j with
      | zero => cases h; exact ⟨_, _, rfl, rfl, by decide, by decide, Tryz.underlying34, rfl, fun us h => by cases h⟩
      | succ j =>
       cases j with
       | zero => cases h; exact ⟨_, _, rfl, rfl, by decide, by decide, Tryz.underlying35, rfl, fun us h => by cases h⟩
       | succ j =>
        cases j with
        | zero => cases h; exact ⟨_, _, rfl, rfl, by decide, by decide, Tryz.underlying25, rfl, fun us h => by cases h⟩
        | succ j =>
         cases h⟩, (fun us hus fs hfs j τ h f hf => by
    cases hus
    rw [Tryz.underlying37] at hfs
    cases hfs
    cases j with
    | zero => cases h; cases hf; exact ⟨fun k e => by cases e; exact Tryz.underlying3, fun e => (by cases e), fun e => (by cases e)⟩
    | succ j =>
     cases j with
     | zero => cases h; cases hf; exact ⟨fun k e => (by cases e), fun e => (by cases e), fun e => (by cases e)⟩
     | succ j =>
      cases j with
      | zero => cases h; cases hf; exact ⟨fun k e => (by cases e), fun e => (by cases e), fun e => (by cases e)⟩
      | succ j =>
       cases j with
       | zero => cases h; cases hf; exact ⟨fun k e => (by cases e), fun e => (by cases e), fun e => (by cases e)⟩
       | succ j =>
        cases j with
        | zero => cases h; cases hf; exact ⟨fun k e => (by cases e), fun e => (by cases e), fun e => (by cases e)⟩
        | succ j =>
         cases h), Tryz.t37, rfl, rfl, fun _ _ => rfl⟩
theorem tn38 : TnOk Tryz.prog 38 (.fn [.st [.int .i64, .sl 103 (.st [.str, .int .i64, .sl 176 (.st [.int .i64, .sl 3 (.int .i64), .sl 3 (.int .i64)])]), .sl 123 (.st [.int .i64, .int .i64, .bool, .int .i64]), .sl 107 (.st [.sl 185 (.st [.int .i64, .int .i64]), .sl 25 (.sl 3 (.int .i64))]), .sl 3 (.int .i64)]] (.st [.int .i64, .sl 118 (.st [.str, .int .i64, .sl 159 (.st [.int .i64, .sl 3 (.int .i64), .sl 3 (.int .i64)])]), .sl 121 (.st [.int .i64, .int .i64, .bool, .int .i64]), .sl 126 (.st [.sl 170 (.st [.int .i64, .int .i64]), .sl 25 (.sl 3 (.int .i64))]), .sl 3 (.int .i64)])) := ⟨⟨_, _, _, Tryz.underlying38⟩, fun _ h => (by cases h), Tryz.t38, rfl, rfl, fun _ h => by cases h⟩
theorem tn40 : TnOk Tryz.prog 40 (.fn [.st [.int .i64, .sl 118 (.st [.str, .int .i64, .sl 159 (.st [.int .i64, .sl 3 (.int .i64), .sl 3 (.int .i64)])]), .sl 121 (.st [.int .i64, .int .i64, .bool, .int .i64]), .sl 126 (.st [.sl 170 (.st [.int .i64, .int .i64]), .sl 25 (.sl 3 (.int .i64))]), .sl 3 (.int .i64)], .st [.int .i64, .sl 118 (.st [.str, .int .i64, .sl 159 (.st [.int .i64, .sl 3 (.int .i64), .sl 3 (.int .i64)])]), .sl 121 (.st [.int .i64, .int .i64, .bool, .int .i64]), .sl 126 (.st [.sl 170 (.st [.int .i64, .int .i64]), .sl 25 (.sl 3 (.int .i64))]), .sl 3 (.int .i64)]] (.bool)) := ⟨⟨_, _, _, Tryz.underlying40⟩, fun _ h => (by cases h), Tryz.t40, rfl, rfl, fun _ h => by cases h⟩
theorem tn41 : TnOk Tryz.prog 41 (.fn [.st [.int .i64, .sl 118 (.st [.str, .int .i64, .sl 159 (.st [.int .i64, .sl 3 (.int .i64), .sl 3 (.int .i64)])]), .sl 121 (.st [.int .i64, .int .i64, .bool, .int .i64]), .sl 126 (.st [.sl 170 (.st [.int .i64, .int .i64]), .sl 25 (.sl 3 (.int .i64))]), .sl 3 (.int .i64)], .int .i64] (.int .i64)) := ⟨⟨_, _, _, Tryz.underlying41⟩, fun _ h => (by cases h), Tryz.t41, rfl, rfl, fun _ h => by cases h⟩
theorem tn44 : TnOk Tryz.prog 44 (.sl 80 (.sl 142 (.st [.int .i64, .int .i64, .int .i64]))) := ⟨⟨Tryz.underlying44, Tryz.t80, _, rfl, rfl, rfl, rfl, by decide, by decide, fun _ _ => rfl, fun k h => by cases h⟩, fun _ h => (by cases h), Tryz.t44, rfl, rfl, fun _ _ => rfl⟩
theorem tn45 : TnOk Tryz.prog 45 (.sl 25 (.sl 3 (.int .i64))) := ⟨⟨Tryz.underlying45, Tryz.t25, _, rfl, rfl, rfl, rfl, by decide, by decide, fun _ _ => rfl, fun k h => by cases h⟩, fun _ h => (by cases h), Tryz.t45, rfl, rfl, fun _ _ => rfl⟩
theorem tn46 : TnOk Tryz.prog 46 (.st [.sl 3 (.int .i64), .sl 3 (.int .i64), .sl 25 (.sl 3 (.int .i64))]) := ⟨⟨_, Tryz.underlying46, Tryz.eqGuardType46, Tryz.stoodInHeld46, rfl, fun j τ h => by
    cases j with
    | zero => cases h; exact ⟨_, _, rfl, rfl, by decide, by decide, Tryz.underlying25, rfl, fun us h => by cases h⟩
    | succ j =>
     cases j with
     | zero => cases h; exact ⟨_, _, rfl, rfl, by decide, by decide, Tryz.underlying25, rfl, fun us h => by cases h⟩
     | succ j =>
      cases j with
      | zero => cases h; exact ⟨_, _, rfl, rfl, by decide, by decide, Tryz.underlying45, rfl, fun us h => by cases h⟩
      | succ j =>
       cases h⟩, (fun us hus fs hfs j τ h f hf => by
    cases hus
    rw [Tryz.underlying46] at hfs
    cases hfs
    cases j with
    | zero => cases h; cases hf; exact ⟨fun k e => (by cases e), fun e => (by cases e), fun e => (by cases e)⟩
    | succ j =>
     cases j with
     | zero => cases h; cases hf; exact ⟨fun k e => (by cases e), fun e => (by cases e), fun e => (by cases e)⟩
     | succ j =>
      cases j with
      | zero => cases h; cases hf; exact ⟨fun k e => (by cases e), fun e => (by cases e), fun e => (by cases e)⟩
      | succ j =>
       cases h), Tryz.t46, rfl, rfl, fun _ _ => rfl⟩
theorem tn47 : TnOk Tryz.prog 47 (.st [.sl 3 (.int .i64), .sl 3 (.int .i64), .sl 25 (.sl 3 (.int .i64))]) := ⟨⟨_, Tryz.underlying47, Tryz.eqGuardType47, Tryz.stoodInHeld47, rfl, fun j τ h => by
    cases j with
    | zero => cases h; exact ⟨_, _, rfl, rfl, by decide, by decide, Tryz.underlying25, rfl, fun us h => by cases h⟩
    | succ j =>
     cases j with
     | zero => cases h; exact ⟨_, _, rfl, rfl, by decide, by decide, Tryz.underlying25, rfl, fun us h => by cases h⟩
     | succ j =>
      cases j with
      | zero => cases h; exact ⟨_, _, rfl, rfl, by decide, by decide, Tryz.underlying45, rfl, fun us h => by cases h⟩
      | succ j =>
       cases h⟩, (fun us hus fs hfs j τ h f hf => by
    cases hus
    rw [Tryz.underlying47] at hfs
    cases hfs
    cases j with
    | zero => cases h; cases hf; exact ⟨fun k e => (by cases e), fun e => (by cases e), fun e => (by cases e)⟩
    | succ j =>
     cases j with
     | zero => cases h; cases hf; exact ⟨fun k e => (by cases e), fun e => (by cases e), fun e => (by cases e)⟩
     | succ j =>
      cases j with
      | zero => cases h; cases hf; exact ⟨fun k e => (by cases e), fun e => (by cases e), fun e => (by cases e)⟩
      | succ j =>
       cases h), Tryz.t47, rfl, rfl, fun _ _ => rfl⟩
theorem tn48 : TnOk Tryz.prog 48 (.fn [.sl 80 (.sl 142 (.st [.int .i64, .int .i64, .int .i64])), .int .i64] (.int .i64)) := ⟨⟨_, _, _, Tryz.underlying48⟩, fun _ h => (by cases h), Tryz.t48, rfl, rfl, fun _ h => by cases h⟩
theorem tn49 : TnOk Tryz.prog 49 (.fn [.st [.sl 3 (.int .i64), .sl 3 (.int .i64), .sl 25 (.sl 3 (.int .i64))], .int .i64] (.int .i64)) := ⟨⟨_, _, _, Tryz.underlying49⟩, fun _ h => (by cases h), Tryz.t49, rfl, rfl, fun _ h => by cases h⟩
theorem tn50 : TnOk Tryz.prog 50 (.st [.sl 3 (.int .i64), .sl 3 (.int .i64), .sl 25 (.sl 3 (.int .i64))]) := ⟨⟨_, Tryz.underlying50, Tryz.eqGuardType50, Tryz.stoodInHeld50, rfl, fun j τ h => by
    cases j with
    | zero => cases h; exact ⟨_, _, rfl, rfl, by decide, by decide, Tryz.underlying25, rfl, fun us h => by cases h⟩
    | succ j =>
     cases j with
     | zero => cases h; exact ⟨_, _, rfl, rfl, by decide, by decide, Tryz.underlying25, rfl, fun us h => by cases h⟩
     | succ j =>
      cases j with
      | zero => cases h; exact ⟨_, _, rfl, rfl, by decide, by decide, Tryz.underlying45, rfl, fun us h => by cases h⟩
      | succ j =>
       cases h⟩, (fun us hus fs hfs j τ h f hf => by
    cases hus
    rw [Tryz.underlying50] at hfs
    cases hfs
    cases j with
    | zero => cases h; cases hf; exact ⟨fun k e => (by cases e), fun e => (by cases e), fun e => (by cases e)⟩
    | succ j =>
     cases j with
     | zero => cases h; cases hf; exact ⟨fun k e => (by cases e), fun e => (by cases e), fun e => (by cases e)⟩
     | succ j =>
      cases j with
      | zero => cases h; cases hf; exact ⟨fun k e => (by cases e), fun e => (by cases e), fun e => (by cases e)⟩
      | succ j =>
       cases h), Tryz.t50, rfl, rfl, fun _ _ => rfl⟩
theorem tn52 : TnOk Tryz.prog 52 (.fn [.st [.int .i64, .sl 118 (.st [.str, .int .i64, .sl 159 (.st [.int .i64, .sl 3 (.int .i64), .sl 3 (.int .i64)])]), .sl 121 (.st [.int .i64, .int .i64, .bool, .int .i64]), .sl 126 (.st [.sl 170 (.st [.int .i64, .int .i64]), .sl 25 (.sl 3 (.int .i64))]), .sl 3 (.int .i64)], .sl 90 (.sl 86 (.st [.int .i64, .int .i64, .int .i64])), .st [.sl 3 (.int .i64), .sl 3 (.int .i64), .sl 25 (.sl 3 (.int .i64))]] (.tup [.st [.sl 3 (.int .i64), .sl 3 (.int .i64), .sl 25 (.sl 3 (.int .i64))], .bool])) := ⟨⟨_, _, _, Tryz.underlying52⟩, fun _ h => (by cases h), Tryz.t52, rfl, rfl, fun _ h => by cases h⟩
theorem tn53 : TnOk Tryz.prog 53 (.sl 90 (.sl 86 (.st [.int .i64, .int .i64, .int .i64]))) := ⟨⟨Tryz.underlying53, Tryz.t90, _, rfl, rfl, rfl, rfl, by decide, by decide, fun _ _ => rfl, fun k h => by cases h⟩, fun _ h => (by cases h), Tryz.t53, rfl, rfl, fun _ _ => rfl⟩
theorem tn54 : TnOk Tryz.prog 54 (.fn [.sl 80 (.sl 142 (.st [.int .i64, .int .i64, .int .i64]))] (.sl 90 (.sl 86 (.st [.int .i64, .int .i64, .int .i64])))) := ⟨⟨_, _, _, Tryz.underlying54⟩, fun _ h => (by cases h), Tryz.t54, rfl, rfl, fun _ h => by cases h⟩
theorem tn55 : TnOk Tryz.prog 55 (.fn [.st [.sl 3 (.int .i64), .sl 3 (.int .i64), .sl 25 (.sl 3 (.int .i64))]] (.st [.sl 3 (.int .i64), .sl 3 (.int .i64), .sl 25 (.sl 3 (.int .i64))])) := ⟨⟨_, _, _, Tryz.underlying55⟩, fun _ h => (by cases h), Tryz.t55, rfl, rfl, fun _ h => by cases h⟩
theorem tn56 : TnOk Tryz.prog 56 (.fn [.st [.sl 3 (.int .i64), .sl 3 (.int .i64), .sl 25 (.sl 3 (.int .i64))], .st [.sl 3 (.int .i64), .sl 3 (.int .i64), .sl 25 (.sl 3 (.int .i64))]] (.bool)) := ⟨⟨_, _, _, Tryz.underlying56⟩, fun _ h => (by cases h), Tryz.t56, rfl, rfl, fun _ h => by cases h⟩
theorem tn57 : TnOk Tryz.prog 57 (.fn [.sl 90 (.sl 86 (.st [.int .i64, .int .i64, .int .i64])), .sl 90 (.sl 86 (.st [.int .i64, .int .i64, .int .i64]))] (.bool)) := ⟨⟨_, _, _, Tryz.underlying57⟩, fun _ h => (by cases h), Tryz.t57, rfl, rfl, fun _ h => by cases h⟩
theorem tn58 : TnOk Tryz.prog 58 (.fn [.sl 90 (.sl 86 (.st [.int .i64, .int .i64, .int .i64])), .int .i64] (.int .i64)) := ⟨⟨_, _, _, Tryz.underlying58⟩, fun _ h => (by cases h), Tryz.t58, rfl, rfl, fun _ h => by cases h⟩
theorem tn59 : TnOk Tryz.prog 59 (.fn [.st [.sl 3 (.int .i64), .sl 3 (.int .i64), .sl 25 (.sl 3 (.int .i64))], .int .i64] (.int .i64)) := ⟨⟨_, _, _, Tryz.underlying59⟩, fun _ h => (by cases h), Tryz.t59, rfl, rfl, fun _ h => by cases h⟩
theorem tn60 : TnOk Tryz.prog 60 (.fn [.st [.int .i64, .sl 103 (.st [.str, .int .i64, .sl 176 (.st [.int .i64, .sl 3 (.int .i64), .sl 3 (.int .i64)])]), .sl 123 (.st [.int .i64, .int .i64, .bool, .int .i64]), .sl 107 (.st [.sl 185 (.st [.int .i64, .int .i64]), .sl 25 (.sl 3 (.int .i64))]), .sl 3 (.int .i64)], .sl 80 (.sl 142 (.st [.int .i64, .int .i64, .int .i64])), .st [.sl 3 (.int .i64), .sl 3 (.int .i64), .sl 25 (.sl 3 (.int .i64))]] (.bool)) := ⟨⟨_, _, _, Tryz.underlying60⟩, fun _ h => (by cases h), Tryz.t60, rfl, rfl, fun _ h => by cases h⟩
theorem tn61 : TnOk Tryz.prog 61 (.fn [.sl 103 (.st [.str, .int .i64, .sl 176 (.st [.int .i64, .sl 3 (.int .i64), .sl 3 (.int .i64)])]), .int .i64] (.int .i64)) := ⟨⟨_, _, _, Tryz.underlying61⟩, fun _ h => (by cases h), Tryz.t61, rfl, rfl, fun _ h => by cases h⟩
theorem tn62 : TnOk Tryz.prog 62 (.fn [.sl 123 (.st [.int .i64, .int .i64, .bool, .int .i64]), .int .i64] (.int .i64)) := ⟨⟨_, _, _, Tryz.underlying62⟩, fun _ h => (by cases h), Tryz.t62, rfl, rfl, fun _ h => by cases h⟩
theorem tn63 : TnOk Tryz.prog 63 (.fn [.sl 107 (.st [.sl 185 (.st [.int .i64, .int .i64]), .sl 25 (.sl 3 (.int .i64))]), .int .i64] (.int .i64)) := ⟨⟨_, _, _, Tryz.underlying63⟩, fun _ h => (by cases h), Tryz.t63, rfl, rfl, fun _ h => by cases h⟩
theorem tn64 : TnOk Tryz.prog 64 (.fn [.sl 3 (.int .i64), .int .i64] (.int .i64)) := ⟨⟨_, _, _, Tryz.underlying64⟩, fun _ h => (by cases h), Tryz.t64, rfl, rfl, fun _ h => by cases h⟩
theorem tn68 : TnOk Tryz.prog 68 (.fn [.sl 103 (.st [.str, .int .i64, .sl 176 (.st [.int .i64, .sl 3 (.int .i64), .sl 3 (.int .i64)])])] (.sl 118 (.st [.str, .int .i64, .sl 159 (.st [.int .i64, .sl 3 (.int .i64), .sl 3 (.int .i64)])]))) := ⟨⟨_, _, _, Tryz.underlying68⟩, fun _ h => (by cases h), Tryz.t68, rfl, rfl, fun _ h => by cases h⟩
theorem tn69 : TnOk Tryz.prog 69 (.fn [.sl 123 (.st [.int .i64, .int .i64, .bool, .int .i64])] (.sl 121 (.st [.int .i64, .int .i64, .bool, .int .i64]))) := ⟨⟨_, _, _, Tryz.underlying69⟩, fun _ h => (by cases h), Tryz.t69, rfl, rfl, fun _ h => by cases h⟩
theorem tn70 : TnOk Tryz.prog 70 (.fn [.sl 107 (.st [.sl 185 (.st [.int .i64, .int .i64]), .sl 25 (.sl 3 (.int .i64))])] (.sl 126 (.st [.sl 170 (.st [.int .i64, .int .i64]), .sl 25 (.sl 3 (.int .i64))]))) := ⟨⟨_, _, _, Tryz.underlying70⟩, fun _ h => (by cases h), Tryz.t70, rfl, rfl, fun _ h => by cases h⟩
theorem tn71 : TnOk Tryz.prog 71 (.fn [.sl 3 (.int .i64)] (.sl 3 (.int .i64))) := ⟨⟨_, _, _, Tryz.underlying71⟩, fun _ h => (by cases h), Tryz.t71, rfl, rfl, fun _ h => by cases h⟩
theorem tn72 : TnOk Tryz.prog 72 (.fn [.sl 3 (.int .i64), .sl 3 (.int .i64)] (.bool)) := ⟨⟨_, _, _, Tryz.underlying72⟩, fun _ h => (by cases h), Tryz.t72, rfl, rfl, fun _ h => by cases h⟩
theorem tn73 : TnOk Tryz.prog 73 (.fn [.sl 118 (.st [.str, .int .i64, .sl 159 (.st [.int .i64, .sl 3 (.int .i64), .sl 3 (.int .i64)])]), .sl 118 (.st [.str, .int .i64, .sl 159 (.st [.int .i64, .sl 3 (.int .i64), .sl 3 (.int .i64)])])] (.bool)) := ⟨⟨_, _, _, Tryz.underlying73⟩, fun _ h => (by cases h), Tryz.t73, rfl, rfl, fun _ h => by cases h⟩
theorem tn74 : TnOk Tryz.prog 74 (.fn [.sl 121 (.st [.int .i64, .int .i64, .bool, .int .i64]), .sl 121 (.st [.int .i64, .int .i64, .bool, .int .i64])] (.bool)) := ⟨⟨_, _, _, Tryz.underlying74⟩, fun _ h => (by cases h), Tryz.t74, rfl, rfl, fun _ h => by cases h⟩
theorem tn75 : TnOk Tryz.prog 75 (.fn [.sl 126 (.st [.sl 170 (.st [.int .i64, .int .i64]), .sl 25 (.sl 3 (.int .i64))]), .sl 126 (.st [.sl 170 (.st [.int .i64, .int .i64]), .sl 25 (.sl 3 (.int .i64))])] (.bool)) := ⟨⟨_, _, _, Tryz.underlying75⟩, fun _ h => (by cases h), Tryz.t75, rfl, rfl, fun _ h => by cases h⟩
theorem tn76 : TnOk Tryz.prog 76 (.fn [.sl 118 (.st [.str, .int .i64, .sl 159 (.st [.int .i64, .sl 3 (.int .i64), .sl 3 (.int .i64)])]), .int .i64] (.int .i64)) := ⟨⟨_, _, _, Tryz.underlying76⟩, fun _ h => (by cases h), Tryz.t76, rfl, rfl, fun _ h => by cases h⟩
theorem tn77 : TnOk Tryz.prog 77 (.fn [.sl 121 (.st [.int .i64, .int .i64, .bool, .int .i64]), .int .i64] (.int .i64)) := ⟨⟨_, _, _, Tryz.underlying77⟩, fun _ h => (by cases h), Tryz.t77, rfl, rfl, fun _ h => by cases h⟩
theorem tn78 : TnOk Tryz.prog 78 (.fn [.sl 126 (.st [.sl 170 (.st [.int .i64, .int .i64]), .sl 25 (.sl 3 (.int .i64))]), .int .i64] (.int .i64)) := ⟨⟨_, _, _, Tryz.underlying78⟩, fun _ h => (by cases h), Tryz.t78, rfl, rfl, fun _ h => by cases h⟩
theorem tn79 : TnOk Tryz.prog 79 (.fn [.sl 142 (.st [.int .i64, .int .i64, .int .i64]), .int .i64] (.int .i64)) := ⟨⟨_, _, _, Tryz.underlying79⟩, fun _ h => (by cases h), Tryz.t79, rfl, rfl, fun _ h => by cases h⟩
theorem tn80 : TnOk Tryz.prog 80 (.sl 142 (.st [.int .i64, .int .i64, .int .i64])) := ⟨⟨Tryz.underlying80, Tryz.t142, _, rfl, rfl, rfl, rfl, by decide, by decide, fun _ _ => rfl, fun k h => by cases h⟩, fun _ h => (by cases h), Tryz.t80, rfl, rfl, fun _ _ => rfl⟩
theorem tn81 : TnOk Tryz.prog 81 (.fn [.sl 25 (.sl 3 (.int .i64)), .int .i64] (.int .i64)) := ⟨⟨_, _, _, Tryz.underlying81⟩, fun _ h => (by cases h), Tryz.t81, rfl, rfl, fun _ h => by cases h⟩
theorem tn82 : TnOk Tryz.prog 82 (.fn [.st [.sl 3 (.int .i64), .sl 3 (.int .i64), .sl 25 (.sl 3 (.int .i64))]] (.st [.sl 3 (.int .i64), .sl 3 (.int .i64), .sl 25 (.sl 3 (.int .i64))])) := ⟨⟨_, _, _, Tryz.underlying82⟩, fun _ h => (by cases h), Tryz.t82, rfl, rfl, fun _ h => by cases h⟩
theorem tn83 : TnOk Tryz.prog 83 (.fn [.st [.int .i64, .sl 118 (.st [.str, .int .i64, .sl 159 (.st [.int .i64, .sl 3 (.int .i64), .sl 3 (.int .i64)])]), .sl 121 (.st [.int .i64, .int .i64, .bool, .int .i64]), .sl 126 (.st [.sl 170 (.st [.int .i64, .int .i64]), .sl 25 (.sl 3 (.int .i64))]), .sl 3 (.int .i64)], .st [.sl 3 (.int .i64), .sl 3 (.int .i64), .sl 25 (.sl 3 (.int .i64))]] (.bool)) := ⟨⟨_, _, _, Tryz.underlying83⟩, fun _ h => (by cases h), Tryz.t83, rfl, rfl, fun _ h => by cases h⟩
theorem tn84 : TnOk Tryz.prog 84 (.fn [.st [.sl 3 (.int .i64), .sl 3 (.int .i64), .sl 25 (.sl 3 (.int .i64))]] (.bool)) := ⟨⟨_, _, _, Tryz.underlying84⟩, fun _ h => (by cases h), Tryz.t84, rfl, rfl, fun _ h => by cases h⟩
theorem tn85 : TnOk Tryz.prog 85 (.st [.int .i64, .int .i64, .int .i64]) := ⟨⟨_, Tryz.underlying85, Tryz.eqGuardType85, Tryz.stoodInHeld85, rfl, fun j τ h => by
    cases j with
    | zero => cases h; exact ⟨_, _, rfl, rfl, by decide, by decide, Tryz.underlying3, rfl, fun us h => by cases h⟩
    | succ j =>
     cases j with
     | zero => cases h; exact ⟨_, _, rfl, rfl, by decide, by decide, Tryz.underlying3, rfl, fun us h => by cases h⟩
     | succ j =>
      cases j with
      | zero => cases h; exact ⟨_, _, rfl, rfl, by decide, by decide, Tryz.underlying3, rfl, fun us h => by cases h⟩
      | succ j =>
       cases h⟩, (fun us hus fs hfs j τ h f hf => by
    cases hus
    rw [Tryz.underlying85] at hfs
    cases hfs
    cases j with
    | zero => cases h; cases hf; exact ⟨fun k e => by cases e; exact Tryz.underlying3, fun e => (by cases e), fun e => (by cases e)⟩
    | succ j =>
     cases j with
     | zero => cases h; cases hf; exact ⟨fun k e => by cases e; exact Tryz.underlying3, fun e => (by cases e), fun e => (by cases e)⟩
     | succ j =>
      cases j with
      | zero => cases h; cases hf; exact ⟨fun k e => by cases e; exact Tryz.underlying3, fun e => (by cases e), fun e => (by cases e)⟩
      | succ j =>
       cases h), Tryz.t85, rfl, rfl, fun _ _ => rfl⟩
theorem tn86 : TnOk Tryz.prog 86 (.st [.int .i64, .int .i64, .int .i64]) := ⟨⟨_, Tryz.underlying86, Tryz.eqGuardType86, Tryz.stoodInHeld86, rfl, fun j τ h => by
    cases j with
    | zero => cases h; exact ⟨_, _, rfl, rfl, by decide, by decide, Tryz.underlying3, rfl, fun us h => by cases h⟩
    | succ j =>
     cases j with
     | zero => cases h; exact ⟨_, _, rfl, rfl, by decide, by decide, Tryz.underlying3, rfl, fun us h => by cases h⟩
     | succ j =>
      cases j with
      | zero => cases h; exact ⟨_, _, rfl, rfl, by decide, by decide, Tryz.underlying3, rfl, fun us h => by cases h⟩
      | succ j =>
       cases h⟩, (fun us hus fs hfs j τ h f hf => by
    cases hus
    rw [Tryz.underlying86] at hfs
    cases hfs
    cases j with
    | zero => cases h; cases hf; exact ⟨fun k e => by cases e; exact Tryz.underlying3, fun e => (by cases e), fun e => (by cases e)⟩
    | succ j =>
     cases j with
     | zero => cases h; cases hf; exact ⟨fun k e => by cases e; exact Tryz.underlying3, fun e => (by cases e), fun e => (by cases e)⟩
     | succ j =>
      cases j with
      | zero => cases h; cases hf; exact ⟨fun k e => by cases e; exact Tryz.underlying3, fun e => (by cases e), fun e => (by cases e)⟩
      | succ j =>
       cases h), Tryz.t86, rfl, rfl, fun _ _ => rfl⟩
theorem tn88 : TnOk Tryz.prog 88 (.fn [.sl 90 (.sl 86 (.st [.int .i64, .int .i64, .int .i64])), .st [.sl 3 (.int .i64), .sl 3 (.int .i64), .sl 25 (.sl 3 (.int .i64))]] (.tup [.int .i64, .st [.int .i64, .int .i64, .int .i64]])) := ⟨⟨_, _, _, Tryz.underlying88⟩, fun _ h => (by cases h), Tryz.t88, rfl, rfl, fun _ h => by cases h⟩
theorem tn89 : TnOk Tryz.prog 89 (.fn [.st [.sl 3 (.int .i64), .sl 3 (.int .i64), .sl 25 (.sl 3 (.int .i64))], .st [.int .i64, .int .i64, .int .i64]] (.st [.sl 3 (.int .i64), .sl 3 (.int .i64), .sl 25 (.sl 3 (.int .i64))])) := ⟨⟨_, _, _, Tryz.underlying89⟩, fun _ h => (by cases h), Tryz.t89, rfl, rfl, fun _ h => by cases h⟩
theorem tn90 : TnOk Tryz.prog 90 (.sl 86 (.st [.int .i64, .int .i64, .int .i64])) := ⟨⟨Tryz.underlying90, Tryz.t86, _, rfl, rfl, rfl, rfl, by decide, by decide, fun _ _ => rfl, fun k h => by cases h⟩, fun _ h => (by cases h), Tryz.t90, rfl, rfl, fun _ _ => rfl⟩
theorem tn91 : TnOk Tryz.prog 91 (.fn [.sl 142 (.st [.int .i64, .int .i64, .int .i64])] (.sl 86 (.st [.int .i64, .int .i64, .int .i64]))) := ⟨⟨_, _, _, Tryz.underlying91⟩, fun _ h => (by cases h), Tryz.t91, rfl, rfl, fun _ h => by cases h⟩
theorem tn92 : TnOk Tryz.prog 92 (.fn [.sl 25 (.sl 3 (.int .i64))] (.sl 25 (.sl 3 (.int .i64)))) := ⟨⟨_, _, _, Tryz.underlying92⟩, fun _ h => (by cases h), Tryz.t92, rfl, rfl, fun _ h => by cases h⟩
theorem tn93 : TnOk Tryz.prog 93 (.fn [] (.st [.sl 3 (.int .i64), .sl 3 (.int .i64), .sl 25 (.sl 3 (.int .i64))])) := ⟨⟨_, _, _, Tryz.underlying93⟩, fun _ h => (by cases h), Tryz.t93, rfl, rfl, fun _ h => by cases h⟩
theorem tn94 : TnOk Tryz.prog 94 (.fn [.sl 90 (.sl 86 (.st [.int .i64, .int .i64, .int .i64])), .fn [.sl 86 (.st [.int .i64, .int .i64, .int .i64])] (.bool)] (.int .i64)) := ⟨⟨_, _, _, Tryz.underlying94⟩, fun _ h => (by cases h), Tryz.t94, rfl, rfl, fun _ h => by cases h⟩
theorem tn95 : TnOk Tryz.prog 95 (.fn [.st [.sl 3 (.int .i64), .sl 3 (.int .i64), .sl 25 (.sl 3 (.int .i64))], .sl 86 (.st [.int .i64, .int .i64, .int .i64])] (.tup [.int .i64, .st [.int .i64, .int .i64, .int .i64]])) := ⟨⟨_, _, _, Tryz.underlying95⟩, fun _ h => (by cases h), Tryz.t95, rfl, rfl, fun _ h => by cases h⟩
theorem tn96 : TnOk Tryz.prog 96 (.fn [.sl 86 (.st [.int .i64, .int .i64, .int .i64])] (.bool)) := ⟨⟨_, _, _, Tryz.underlying96⟩, fun _ h => (by cases h), Tryz.t96, rfl, rfl, fun _ h => by cases h⟩
theorem tn97 : TnOk Tryz.prog 97 (.fn [.sl 25 (.sl 3 (.int .i64)), .sl 25 (.sl 3 (.int .i64))] (.bool)) := ⟨⟨_, _, _, Tryz.underlying97⟩, fun _ h => (by cases h), Tryz.t97, rfl, rfl, fun _ h => by cases h⟩
theorem tn98 : TnOk Tryz.prog 98 (.fn [.sl 86 (.st [.int .i64, .int .i64, .int .i64]), .sl 86 (.st [.int .i64, .int .i64, .int .i64])] (.bool)) := ⟨⟨_, _, _, Tryz.underlying98⟩, fun _ h => (by cases h), Tryz.t98, rfl, rfl, fun _ h => by cases h⟩
theorem tn99 : TnOk Tryz.prog 99 (.fn [.sl 86 (.st [.int .i64, .int .i64, .int .i64]), .int .i64] (.int .i64)) := ⟨⟨_, _, _, Tryz.underlying99⟩, fun _ h => (by cases h), Tryz.t99, rfl, rfl, fun _ h => by cases h⟩
theorem tn100 : TnOk Tryz.prog 100 (.fn [.st [.str, .int .i64, .sl 176 (.st [.int .i64, .sl 3 (.int .i64), .sl 3 (.int .i64)])], .int .i64] (.int .i64)) := ⟨⟨_, _, _, Tryz.underlying100⟩, fun _ h => (by cases h), Tryz.t100, rfl, rfl, fun _ h => by cases h⟩
theorem tn101 : TnOk Tryz.prog 101 (.sl 176 (.st [.int .i64, .sl 3 (.int .i64), .sl 3 (.int .i64)])) := ⟨⟨Tryz.underlying101, Tryz.t176, _, rfl, rfl, rfl, rfl, by decide, by decide, fun _ _ => rfl, fun k h => by cases h⟩, fun _ h => (by cases h), Tryz.t101, rfl, rfl, fun _ _ => rfl⟩
theorem tn102 : TnOk Tryz.prog 102 (.st [.str, .int .i64, .sl 176 (.st [.int .i64, .sl 3 (.int .i64), .sl 3 (.int .i64)])]) := ⟨⟨_, Tryz.underlying102, Tryz.eqGuardType102, Tryz.stoodInHeld102, rfl, fun j τ h => by
    cases j with
    | zero => cases h; exact ⟨_, _, rfl, rfl, by decide, by decide, Tryz.underlying9, rfl, fun us h => by cases h⟩
    | succ j =>
     cases j with
     | zero => cases h; exact ⟨_, _, rfl, rfl, by decide, by decide, Tryz.underlying3, rfl, fun us h => by cases h⟩
     | succ j =>
      cases j with
      | zero => cases h; exact ⟨_, _, rfl, rfl, by decide, by decide, Tryz.underlying101, rfl, fun us h => by cases h⟩
      | succ j =>
       cases h⟩, (fun us hus fs hfs j τ h f hf => by
    cases hus
    rw [Tryz.underlying102] at hfs
    cases hfs
    cases j with
    | zero => cases h; cases hf; exact ⟨fun k e => (by cases e), fun e => (by cases e), fun _ => Tryz.underlying9⟩
    | succ j =>
     cases j with
     | zero => cases h; cases hf; exact ⟨fun k e => by cases e; exact Tryz.underlying3, fun e => (by cases e), fun e => (by cases e)⟩
     | succ j =>
      cases j with
      | zero => cases h; cases hf; exact ⟨fun k e => (by cases e), fun e => (by cases e), fun e => (by cases e)⟩
      | succ j =>
       cases h), Tryz.t102, rfl, rfl, fun _ _ => rfl⟩
theorem tn103 : TnOk Tryz.prog 103 (.st [.str, .int .i64, .sl 176 (.st [.int .i64, .sl 3 (.int .i64), .sl 3 (.int .i64)])]) := ⟨⟨_, Tryz.underlying103, Tryz.eqGuardType103, Tryz.stoodInHeld103, rfl, fun j τ h => by
    cases j with
    | zero => cases h; exact ⟨_, _, rfl, rfl, by decide, by decide, Tryz.underlying9, rfl, fun us h => by cases h⟩
    | succ j =>
     cases j with
     | zero => cases h; exact ⟨_, _, rfl, rfl, by decide, by decide, Tryz.underlying3, rfl, fun us h => by cases h⟩
     | succ j =>
      cases j with
      | zero => cases h; exact ⟨_, _, rfl, rfl, by decide, by decide, Tryz.underlying101, rfl, fun us h => by cases h⟩
      | succ j =>
       cases h⟩, (fun us hus fs hfs j τ h f hf => by
    cases hus
    rw [Tryz.underlying103] at hfs
    cases hfs
    cases j with
    | zero => cases h; cases hf; exact ⟨fun k e => (by cases e), fun e => (by cases e), fun _ => Tryz.underlying9⟩
    | succ j =>
     cases j with
     | zero => cases h; cases hf; exact ⟨fun k e => by cases e; exact Tryz.underlying3, fun e => (by cases e), fun e => (by cases e)⟩
     | succ j =>
      cases j with
      | zero => cases h; cases hf; exact ⟨fun k e => (by cases e), fun e => (by cases e), fun e => (by cases e)⟩
      | succ j =>
       cases h), Tryz.t103, rfl, rfl, fun _ _ => rfl⟩
theorem tn104 : TnOk Tryz.prog 104 (.fn [.st [.sl 185 (.st [.int .i64, .int .i64]), .sl 25 (.sl 3 (.int .i64))], .int .i64] (.int .i64)) := ⟨⟨_, _, _, Tryz.underlying104⟩, fun _ h => (by cases h), Tryz.t104, rfl, rfl, fun _ h => by cases h⟩
theorem tn105 : TnOk Tryz.prog 105 (.sl 185 (.st [.int .i64, .int .i64])) := ⟨⟨Tryz.underlying105, Tryz.t185, _, rfl, rfl, rfl, rfl, by decide, by decide, fun _ _ => rfl, fun k h => by cases h⟩, fun _ h => (by cases h), Tryz.t105, rfl, rfl, fun _ _ => rfl⟩
theorem tn106 : TnOk Tryz.prog 106 (.st [.sl 185 (.st [.int .i64, .int .i64]), .sl 25 (.sl 3 (.int .i64))]) := ⟨⟨_, Tryz.underlying106, Tryz.eqGuardType106, Tryz.stoodInHeld106, rfl, fun j τ h => by
    cases j with
    | zero => cases h; exact ⟨_, _, rfl, rfl, by decide, by decide, Tryz.underlying105, rfl, fun us h => by cases h⟩
    | succ j =>
     cases j with
     | zero => cases h; exact ⟨_, _, rfl, rfl, by decide, by decide, Tryz.underlying45, rfl, fun us h => by cases h⟩
     | succ j =>
      cases h⟩, (fun us hus fs hfs j τ h f hf => by
    cases hus
    rw [Tryz.underlying106] at hfs
    cases hfs
    cases j with
    | zero => cases h; cases hf; exact ⟨fun k e => (by cases e), fun e => (by cases e), fun e => (by cases e)⟩
    | succ j =>
     cases j with
     | zero => cases h; cases hf; exact ⟨fun k e => (by cases e), fun e => (by cases e), fun e => (by cases e)⟩
     | succ j =>
      cases h), Tryz.t106, rfl, rfl, fun _ _ => rfl⟩
theorem tn107 : TnOk Tryz.prog 107 (.st [.sl 185 (.st [.int .i64, .int .i64]), .sl 25 (.sl 3 (.int .i64))]) := ⟨⟨_, Tryz.underlying107, Tryz.eqGuardType107, Tryz.stoodInHeld107, rfl, fun j τ h => by
    cases j with
    | zero => cases h; exact ⟨_, _, rfl, rfl, by decide, by decide, Tryz.underlying105, rfl, fun us h => by cases h⟩
    | succ j =>
     cases j with
     | zero => cases h; exact ⟨_, _, rfl, rfl, by decide, by decide, Tryz.underlying45, rfl, fun us h => by cases h⟩
     | succ j =>
      cases h⟩, (fun us hus fs hfs j τ h f hf => by
    cases hus
    rw [Tryz.underlying107] at hfs
    cases hfs
    cases j with
    | zero => cases h; cases hf; exact ⟨fun k e => (by cases e), fun e => (by cases e), fun e => (by cases e)⟩
    | succ j =>
     cases j with
     | zero => cases h; cases hf; exact ⟨fun k e => (by cases e), fun e => (by cases e), fun e => (by cases e)⟩
     | succ j =>
      cases h), Tryz.t107, rfl, rfl, fun _ _ => rfl⟩
theorem tn108 : TnOk Tryz.prog 108 (.fn [.st [.int .i64, .sl 118 (.st [.str, .int .i64, .sl 159 (.st [.int .i64, .sl 3 (.int .i64), .sl 3 (.int .i64)])]), .sl 121 (.st [.int .i64, .int .i64, .bool, .int .i64]), .sl 126 (.st [.sl 170 (.st [.int .i64, .int .i64]), .sl 25 (.sl 3 (.int .i64))]), .sl 3 (.int .i64)]] (.bool)) := ⟨⟨_, _, _, Tryz.underlying108⟩, fun _ h => (by cases h), Tryz.t108, rfl, rfl, fun _ h => by cases h⟩
theorem tn109 : TnOk Tryz.prog 109 (.fn [.int .i64, .int .i64, .int .i64] (.bool)) := ⟨⟨_, _, _, Tryz.underlying109⟩, fun _ h => (by cases h), Tryz.t109, rfl, rfl, fun _ h => by cases h⟩
theorem tn114 : TnOk Tryz.prog 114 (.fn [.int .i64, .int .i64] (.int .i64)) := ⟨⟨_, _, _, Tryz.underlying114⟩, fun _ h => (by cases h), Tryz.t114, rfl, rfl, fun _ h => by cases h⟩
theorem tn116 : TnOk Tryz.prog 116 (.sl 159 (.st [.int .i64, .sl 3 (.int .i64), .sl 3 (.int .i64)])) := ⟨⟨Tryz.underlying116, Tryz.t159, _, rfl, rfl, rfl, rfl, by decide, by decide, fun _ _ => rfl, fun k h => by cases h⟩, fun _ h => (by cases h), Tryz.t116, rfl, rfl, fun _ _ => rfl⟩
theorem tn117 : TnOk Tryz.prog 117 (.st [.str, .int .i64, .sl 159 (.st [.int .i64, .sl 3 (.int .i64), .sl 3 (.int .i64)])]) := ⟨⟨_, Tryz.underlying117, Tryz.eqGuardType117, Tryz.stoodInHeld117, rfl, fun j τ h => by
    cases j with
    | zero => cases h; exact ⟨_, _, rfl, rfl, by decide, by decide, Tryz.underlying9, rfl, fun us h => by cases h⟩
    | succ j =>
     cases j with
     | zero => cases h; exact ⟨_, _, rfl, rfl, by decide, by decide, Tryz.underlying3, rfl, fun us h => by cases h⟩
     | succ j =>
      cases j with
      | zero => cases h; exact ⟨_, _, rfl, rfl, by decide, by decide, Tryz.underlying116, rfl, fun us h => by cases h⟩
      | succ j =>
       cases h⟩, (fun us hus fs hfs j τ h f hf => by
    cases hus
    rw [Tryz.underlying117] at hfs
    cases hfs
    cases j with
    | zero => cases h; cases hf; exact ⟨fun k e => (by cases e), fun e => (by cases e), fun _ => Tryz.underlying9⟩
    | succ j =>
     cases j with
     | zero => cases h; cases hf; exact ⟨fun k e => by cases e; exact Tryz.underlying3, fun e => (by cases e), fun e => (by cases e)⟩
     | succ j =>
      cases j with
      | zero => cases h; cases hf; exact ⟨fun k e => (by cases e), fun e => (by cases e), fun e => (by cases e)⟩
      | succ j =>
       cases h), Tryz.t117, rfl, rfl, fun _ _ => rfl⟩
theorem tn118 : TnOk Tryz.prog 118 (.st [.str, .int .i64, .sl 159 (.st [.int .i64, .sl 3 (.int .i64), .sl 3 (.int .i64)])]) := ⟨⟨_, Tryz.underlying118, Tryz.eqGuardType118, Tryz.stoodInHeld118, rfl, fun j τ h => by
    cases j with
    | zero => cases h; exact ⟨_, _, rfl, rfl, by decide, by decide, Tryz.underlying9, rfl, fun us h => by cases h⟩
    | succ j =>
     cases j with
     | zero => cases h; exact ⟨_, _, rfl, rfl, by decide, by decide, Tryz.underlying3, rfl, fun us h => by cases h⟩
     | succ j =>
      cases j with
      | zero => cases h; exact ⟨_, _, rfl, rfl, by decide, by decide, Tryz.underlying116, rfl, fun us h => by cases h⟩
      | succ j =>
       cases h⟩, (fun us hus fs hfs j τ h f hf => by
    cases hus
    rw [Tryz.underlying118] at hfs
    cases hfs
    cases j with
    | zero => cases h; cases hf; exact ⟨fun k e => (by cases e), fun e => (by cases e), fun _ => Tryz.underlying9⟩
    | succ j =>
     cases j with
     | zero => cases h; cases hf; exact ⟨fun k e => by cases e; exact Tryz.underlying3, fun e => (by cases e), fun e => (by cases e)⟩
     | succ j =>
      cases j with
      | zero => cases h; cases hf; exact ⟨fun k e => (by cases e), fun e => (by cases e), fun e => (by cases e)⟩
      | succ j =>
       cases h), Tryz.t118, rfl, rfl, fun _ _ => rfl⟩
theorem tn119 : TnOk Tryz.prog 119 (.fn [.st [.str, .int .i64, .sl 176 (.st [.int .i64, .sl 3 (.int .i64), .sl 3 (.int .i64)])]] (.st [.str, .int .i64, .sl 159 (.st [.int .i64, .sl 3 (.int .i64), .sl 3 (.int .i64)])])) := ⟨⟨_, _, _, Tryz.underlying119⟩, fun _ h => (by cases h), Tryz.t119, rfl, rfl, fun _ h => by cases h⟩
theorem tn120 : TnOk Tryz.prog 120 (.st [.int .i64, .int .i64, .bool, .int .i64]) := ⟨⟨_, Tryz.underlying120, Tryz.eqGuardType120, Tryz.stoodInHeld120, rfl, fun j τ h => by
    cases j with
    | zero => cases h; exact ⟨_, _, rfl, rfl, by decide, by decide, Tryz.underlying3, rfl, fun us h => by cases h⟩
    | succ j =>
     cases j with
     | zero => cases h; exact ⟨_, _, rfl, rfl, by decide, by decide, Tryz.underlying3, rfl, fun us h => by cases h⟩
     | succ j =>
      cases j with
      | zero => cases h; exact ⟨_, _, rfl, rfl, by decide, by decide, Tryz.underlying4, rfl, fun us h => by cases h⟩
      | succ j =>
       cases j with
       | zero => cases h; exact ⟨_, _, rfl, rfl, by decide, by decide, Tryz.underlying3, rfl, fun us h => by cases h⟩
       | succ j =>
        cases h⟩, (fun us hus fs hfs j τ h f hf => by
    cases hus
    rw [Tryz.underlying120] at hfs
    cases hfs
    cases j with
    | zero => cases h; cases hf; exact ⟨fun k e => by cases e; exact Tryz.underlying3, fun e => (by cases e), fun e => (by cases e)⟩
    | succ j =>
     cases j with
     | zero => cases h; cases hf; exact ⟨fun k e => by cases e; exact Tryz.underlying3, fun e => (by cases e), fun e => (by cases e)⟩
     | succ j =>
      cases j with
      | zero => cases h; cases hf; exact ⟨fun k e => (by cases e), fun _ => Tryz.underlying4, fun e => (by cases e)⟩
      | succ j =>
       cases j with
       | zero => cases h; cases hf; exact ⟨fun k e => by cases e; exact Tryz.underlying3, fun e => (by cases e), fun e => (by cases e)⟩
       | succ j =>
        cases h), Tryz.t120, rfl, rfl, fun _ _ => rfl⟩
theorem tn121 : TnOk Tryz.prog 121 (.st [.int .i64, .int .i64, .bool, .int .i64]) := ⟨⟨_, Tryz.underlying121, Tryz.eqGuardType121, Tryz.stoodInHeld121, rfl, fun j τ h => by
    cases j with
    | zero => cases h; exact ⟨_, _, rfl, rfl, by decide, by decide, Tryz.underlying3, rfl, fun us h => by cases h⟩
    | succ j =>
     cases j with
     | zero => cases h; exact ⟨_, _, rfl, rfl, by decide, by decide, Tryz.underlying3, rfl, fun us h => by cases h⟩
     | succ j =>
      cases j with
      | zero => cases h; exact ⟨_, _, rfl, rfl, by decide, by decide, Tryz.underlying4, rfl, fun us h => by cases h⟩
      | succ j =>
       cases j with
       | zero => cases h; exact ⟨_, _, rfl, rfl, by decide, by decide, Tryz.underlying3, rfl, fun us h => by cases h⟩
       | succ j =>
        cases h⟩, (fun us hus fs hfs j τ h f hf => by
    cases hus
    rw [Tryz.underlying121] at hfs
    cases hfs
    cases j with
    | zero => cases h; cases hf; exact ⟨fun k e => by cases e; exact Tryz.underlying3, fun e => (by cases e), fun e => (by cases e)⟩
    | succ j =>
     cases j with
     | zero => cases h; cases hf; exact ⟨fun k e => by cases e; exact Tryz.underlying3, fun e => (by cases e), fun e => (by cases e)⟩
     | succ j =>
      cases j with
      | zero => cases h; cases hf; exact ⟨fun k e => (by cases e), fun _ => Tryz.underlying4, fun e => (by cases e)⟩
      | succ j =>
       cases j with
       | zero => cases h; cases hf; exact ⟨fun k e => by cases e; exact Tryz.underlying3, fun e => (by cases e), fun e => (by cases e)⟩
       | succ j =>
        cases h), Tryz.t121, rfl, rfl, fun _ _ => rfl⟩
theorem tn122 : TnOk Tryz.prog 122 (.fn [.st [.int .i64, .int .i64, .bool, .int .i64]] (.st [.int .i64, .int .i64, .bool, .int .i64])) := ⟨⟨_, _, _, Tryz.underlying122⟩, fun _ h => (by cases h), Tryz.t122, rfl, rfl, fun _ h => by cases h⟩
theorem tn123 : TnOk Tryz.prog 123 (.st [.int .i64, .int .i64, .bool, .int .i64]) := ⟨⟨_, Tryz.underlying123, Tryz.eqGuardType123, Tryz.stoodInHeld123, rfl, fun j τ h => by
    cases j with
    | zero => cases h; exact ⟨_, _, rfl, rfl, by decide, by decide, Tryz.underlying3, rfl, fun us h => by cases h⟩
    | succ j =>
     cases j with
     | zero => cases h; exact ⟨_, _, rfl, rfl, by decide, by decide, Tryz.underlying3, rfl, fun us h => by cases h⟩
     | succ j =>
      cases j with
      | zero => cases h; exact ⟨_, _, rfl, rfl, by decide, by decide, Tryz.underlying4, rfl, fun us h => by cases h⟩
      | succ j =>
       cases j with
       | zero => cases h; exact ⟨_, _, rfl, rfl, by decide, by decide, Tryz.underlying3, rfl, fun us h => by cases h⟩
       | succ j =>
        cases h⟩, (fun us hus fs hfs j τ h f hf => by
    cases hus
    rw [Tryz.underlying123] at hfs
    cases hfs
    cases j with
    | zero => cases h; cases hf; exact ⟨fun k e => by cases e; exact Tryz.underlying3, fun e => (by cases e), fun e => (by cases e)⟩
    | succ j =>
     cases j with
     | zero => cases h; cases hf; exact ⟨fun k e => by cases e; exact Tryz.underlying3, fun e => (by cases e), fun e => (by cases e)⟩
     | succ j =>
      cases j with
      | zero => cases h; cases hf; exact ⟨fun k e => (by cases e), fun _ => Tryz.underlying4, fun e => (by cases e)⟩
      | succ j =>
       cases j with
       | zero => cases h; cases hf; exact ⟨fun k e => by cases e; exact Tryz.underlying3, fun e => (by cases e), fun e => (by cases e)⟩
       | succ j =>
        cases h), Tryz.t123, rfl, rfl, fun _ _ => rfl⟩
theorem tn124 : TnOk Tryz.prog 124 (.sl 170 (.st [.int .i64, .int .i64])) := ⟨⟨Tryz.underlying124, Tryz.t170, _, rfl, rfl, rfl, rfl, by decide, by decide, fun _ _ => rfl, fun k h => by cases h⟩, fun _ h => (by cases h), Tryz.t124, rfl, rfl, fun _ _ => rfl⟩
theorem tn125 : TnOk Tryz.prog 125 (.st [.sl 170 (.st [.int .i64, .int .i64]), .sl 25 (.sl 3 (.int .i64))]) := ⟨⟨_, Tryz.underlying125, Tryz.eqGuardType125, Tryz.stoodInHeld125, rfl, fun j τ h => by
    cases j with
    | zero => cases h; exact ⟨_, _, rfl, rfl, by decide, by decide, Tryz.underlying124, rfl, fun us h => by cases h⟩
    | succ j =>
     cases j with
     | zero => cases h; exact ⟨_, _, rfl, rfl, by decide, by decide, Tryz.underlying45, rfl, fun us h => by cases h⟩
     | succ j =>
      cases h⟩, (fun us hus fs hfs j τ h f hf => by
    cases hus
    rw [Tryz.underlying125] at hfs
    cases hfs
    cases j with
    | zero => cases h; cases hf; exact ⟨fun k e => (by cases e), fun e => (by cases e), fun e => (by cases e)⟩
    | succ j =>
     cases j with
     | zero => cases h; cases hf; exact ⟨fun k e => (by cases e), fun e => (by cases e), fun e => (by cases e)⟩
     | succ j =>
      cases h), Tryz.t125, rfl, rfl, fun _ _ => rfl⟩
theorem tn126 : TnOk Tryz.prog 126 (.st [.sl 170 (.st [.int .i64, .int .i64]), .sl 25 (.sl 3 (.int .i64))]) := ⟨⟨_, Tryz.underlying126, Tryz.eqGuardType126, Tryz.stoodInHeld126, rfl, fun j τ h => by
    cases j with
    | zero => cases h; exact ⟨_, _, rfl, rfl, by decide, by decide, Tryz.underlying124, rfl, fun us h => by cases h⟩
    | succ j =>
     cases j with
     | zero => cases h; exact ⟨_, _, rfl, rfl, by decide, by decide, Tryz.underlying45, rfl, fun us h => by cases h⟩
     | succ j =>
      cases h⟩, (fun us hus fs hfs j τ h f hf => by
    cases hus
    rw [Tryz.underlying126] at hfs
    cases hfs
    cases j with
    | zero => cases h; cases hf; exact ⟨fun k e => (by cases e), fun e => (by cases e), fun e => (by cases e)⟩
    | succ j =>
     cases j with
     | zero => cases h; cases hf; exact ⟨fun k e => (by cases e), fun e => (by cases e), fun e => (by cases e)⟩
     | succ j =>
      cases h), Tryz.t126, rfl, rfl, fun _ _ => rfl⟩
theorem tn127 : TnOk Tryz.prog 127 (.fn [.st [.sl 185 (.st [.int .i64, .int .i64]), .sl 25 (.sl 3 (.int .i64))]] (.st [.sl 170 (.st [.int .i64, .int .i64]), .sl 25 (.sl 3 (.int .i64))])) := ⟨⟨_, _, _, Tryz.underlying127⟩, fun _ h => (by cases h), Tryz.t127, rfl, rfl, fun _ h => by cases h⟩
theorem tn129 : TnOk Tryz.prog 129 (.fn [.st [.str, .int .i64, .sl 159 (.st [.int .i64, .sl 3 (.int .i64), .sl 3 (.int .i64)])], .st [.str, .int .i64, .sl 159 (.st [.int .i64, .sl 3 (.int .i64), .sl 3 (.int .i64)])]] (.bool)) := ⟨⟨_, _, _, Tryz.underlying129⟩, fun _ h => (by cases h), Tryz.t129, rfl, rfl, fun _ h => by cases h⟩
theorem tn130 : TnOk Tryz.prog 130 (.fn [.st [.int .i64, .int .i64, .bool, .int .i64], .st [.int .i64, .int .i64, .bool, .int .i64]] (.bool)) := ⟨⟨_, _, _, Tryz.underlying130⟩, fun _ h => (by cases h), Tryz.t130, rfl, rfl, fun _ h => by cases h⟩
theorem tn131 : TnOk Tryz.prog 131 (.fn [.st [.sl 170 (.st [.int .i64, .int .i64]), .sl 25 (.sl 3 (.int .i64))], .st [.sl 170 (.st [.int .i64, .int .i64]), .sl 25 (.sl 3 (.int .i64))]] (.bool)) := ⟨⟨_, _, _, Tryz.underlying131⟩, fun _ h => (by cases h), Tryz.t131, rfl, rfl, fun _ h => by cases h⟩
theorem tn132 : TnOk Tryz.prog 132 (.fn [.int .i64] (.str)) := ⟨⟨_, _, _, Tryz.underlying132⟩, fun _ h => (by cases h), Tryz.t132, rfl, rfl, fun _ h => by cases h⟩
theorem tn133 : TnOk Tryz.prog 133 (.fn [.sl 159 (.st [.int .i64, .sl 3 (.int .i64), .sl 3 (.int .i64)]), .int .i64] (.int .i64)) := ⟨⟨_, _, _, Tryz.underlying133⟩, fun _ h => (by cases h), Tryz.t133, rfl, rfl, fun _ h => by cases h⟩
theorem tn134 : TnOk Tryz.prog 134 (.fn [.sl 170 (.st [.int .i64, .int .i64]), .int .i64] (.int .i64)) := ⟨⟨_, _, _, Tryz.underlying134⟩, fun _ h => (by cases h), Tryz.t134, rfl, rfl, fun _ h => by cases h⟩
theorem tn135 : TnOk Tryz.prog 135 (.fn [.sl 3 (.int .i64)] (.bool)) := ⟨⟨_, _, _, Tryz.underlying135⟩, fun _ h => (by cases h), Tryz.t135, rfl, rfl, fun _ h => by cases h⟩
theorem tn136 : TnOk Tryz.prog 136 (.fn [.st [.str, .int .i64, .sl 159 (.st [.int .i64, .sl 3 (.int .i64), .sl 3 (.int .i64)])]] (.sl 3 (.int .i64))) := ⟨⟨_, _, _, Tryz.underlying136⟩, fun _ h => (by cases h), Tryz.t136, rfl, rfl, fun _ h => by cases h⟩
theorem tn137 : TnOk Tryz.prog 137 (.fn [.st [.sl 3 (.int .i64), .sl 3 (.int .i64), .sl 25 (.sl 3 (.int .i64))], .int .i64] (.bool)) := ⟨⟨_, _, _, Tryz.underlying137⟩, fun _ h => (by cases h), Tryz.t137, rfl, rfl, fun _ h => by cases h⟩
theorem tn138 : TnOk Tryz.prog 138 (.fn [.int .i64] (.int .i64)) := ⟨⟨_, _, _, Tryz.underlying138⟩, fun _ h => (by cases h), Tryz.t138, rfl, rfl, fun _ h => by cases h⟩
theorem tn139 : TnOk Tryz.prog 139 (.fn [.sl 3 (.int .i64), .sl 3 (.int .i64)] (.sl 3 (.int .i64))) := ⟨⟨_, _, _, Tryz.underlying139⟩, fun _ h => (by cases h), Tryz.t139, rfl, rfl, fun _ h => by cases h⟩
theorem tn140 : TnOk Tryz.prog 140 (.fn [.sl 3 (.int .i64), .int .i64] (.sl 3 (.int .i64))) := ⟨⟨_, _, _, Tryz.underlying140⟩, fun _ h => (by cases h), Tryz.t140, rfl, rfl, fun _ h => by cases h⟩
theorem tn141 : TnOk Tryz.prog 141 (.fn [.st [.int .i64, .int .i64, .int .i64]] (.st [.int .i64, .int .i64, .int .i64])) := ⟨⟨_, _, _, Tryz.underlying141⟩, fun _ h => (by cases h), Tryz.t141, rfl, rfl, fun _ h => by cases h⟩
theorem tn142 : TnOk Tryz.prog 142 (.st [.int .i64, .int .i64, .int .i64]) := ⟨⟨_, Tryz.underlying142, Tryz.eqGuardType142, Tryz.stoodInHeld142, rfl, fun j τ h => by
    cases j with
    | zero => cases h; exact ⟨_, _, rfl, rfl, by decide, by decide, Tryz.underlying3, rfl, fun us h => by cases h⟩
    | succ j =>
     cases j with
     | zero => cases h; exact ⟨_, _, rfl, rfl, by decide, by decide, Tryz.underlying3, rfl, fun us h => by cases h⟩
     | succ j =>
      cases j with
      | zero => cases h; exact ⟨_, _, rfl, rfl, by decide, by decide, Tryz.underlying3, rfl, fun us h => by cases h⟩
      | succ j =>
       cases h⟩, (fun us hus fs hfs j τ h f hf => by
    cases hus
    rw [Tryz.underlying142] at hfs
    cases hfs
    cases j with
    | zero => cases h; cases hf; exact ⟨fun k e => by cases e; exact Tryz.underlying3, fun e => (by cases e), fun e => (by cases e)⟩
    | succ j =>
     cases j with
     | zero => cases h; cases hf; exact ⟨fun k e => by cases e; exact Tryz.underlying3, fun e => (by cases e), fun e => (by cases e)⟩
     | succ j =>
      cases j with
      | zero => cases h; cases hf; exact ⟨fun k e => by cases e; exact Tryz.underlying3, fun e => (by cases e), fun e => (by cases e)⟩
      | succ j =>
       cases h), Tryz.t142, rfl, rfl, fun _ _ => rfl⟩
theorem tn143 : TnOk Tryz.prog 143 (.fn [.int .i64] (.bool)) := ⟨⟨_, _, _, Tryz.underlying143⟩, fun _ h => (by cases h), Tryz.t143, rfl, rfl, fun _ h => by cases h⟩
theorem tn144 : TnOk Tryz.prog 144 (.fn [.sl 25 (.sl 3 (.int .i64)), .fn [.sl 3 (.int .i64)] (.bool)] (.bool)) := ⟨⟨_, _, _, Tryz.underlying144⟩, fun _ h => (by cases h), Tryz.t144, rfl, rfl, fun _ h => by cases h⟩
theorem tn145 : TnOk Tryz.prog 145 (.fn [.st [.sl 3 (.int .i64), .sl 3 (.int .i64), .sl 25 (.sl 3 (.int .i64))], .st [.int .i64, .int .i64, .int .i64]] (.int .i64)) := ⟨⟨_, _, _, Tryz.underlying145⟩, fun _ h => (by cases h), Tryz.t145, rfl, rfl, fun _ h => by cases h⟩
theorem tn146 : TnOk Tryz.prog 146 (.fn [.sl 3 (.int .i64), .fn [.int .i64] (.bool)] (.sl 3 (.int .i64))) := ⟨⟨_, _, _, Tryz.underlying146⟩, fun _ h => (by cases h), Tryz.t146, rfl, rfl, fun _ h => by cases h⟩
theorem tn147 : TnOk Tryz.prog 147 (.fn [.st [.int .i64, .int .i64, .int .i64], .st [.int .i64, .int .i64, .int .i64]] (.bool)) := ⟨⟨_, _, _, Tryz.underlying147⟩, fun _ h => (by cases h), Tryz.t147, rfl, rfl, fun _ h => by cases h⟩
theorem tn148 : TnOk Tryz.prog 148 (.fn [.sl 176 (.st [.int .i64, .sl 3 (.int .i64), .sl 3 (.int .i64)]), .int .i64] (.int .i64)) := ⟨⟨_, _, _, Tryz.underlying148⟩, fun _ h => (by cases h), Tryz.t148, rfl, rfl, fun _ h => by cases h⟩
theorem tn149 : TnOk Tryz.prog 149 (.fn [.sl 185 (.st [.int .i64, .int .i64]), .int .i64] (.int .i64)) := ⟨⟨_, _, _, Tryz.underlying149⟩, fun _ h => (by cases h), Tryz.t149, rfl, rfl, fun _ h => by cases h⟩
theorem tn150 : TnOk Tryz.prog 150 (.fn [.st [.str, .int .i64, .sl 159 (.st [.int .i64, .sl 3 (.int .i64), .sl 3 (.int .i64)])], .int .i64, .int .i64] (.bool)) := ⟨⟨_, _, _, Tryz.underlying150⟩, fun _ h => (by cases h), Tryz.t150, rfl, rfl, fun _ h => by cases h⟩
theorem tn151 : TnOk Tryz.prog 151 (.fn [.st [.int .i64, .sl 118 (.st [.str, .int .i64, .sl 159 (.st [.int .i64, .sl 3 (.int .i64), .sl 3 (.int .i64)])]), .sl 121 (.st [.int .i64, .int .i64, .bool, .int .i64]), .sl 126 (.st [.sl 170 (.st [.int .i64, .int .i64]), .sl 25 (.sl 3 (.int .i64))]), .sl 3 (.int .i64)], .str] (.int .i64)) := ⟨⟨_, _, _, Tryz.underlying151⟩, fun _ h => (by cases h), Tryz.t151, rfl, rfl, fun _ h => by cases h⟩
theorem tn152 : TnOk Tryz.prog 152 (.fn [.st [.sl 170 (.st [.int .i64, .int .i64]), .sl 25 (.sl 3 (.int .i64))]] (.bool)) := ⟨⟨_, _, _, Tryz.underlying152⟩, fun _ h => (by cases h), Tryz.t152, rfl, rfl, fun _ h => by cases h⟩
theorem tn158 : TnOk Tryz.prog 158 (.st [.int .i64, .sl 3 (.int .i64), .sl 3 (.int .i64)]) := ⟨⟨_, Tryz.underlying158, Tryz.eqGuardType158, Tryz.stoodInHeld158, rfl, fun j τ h => by
    cases j with
    | zero => cases h; exact ⟨_, _, rfl, rfl, by decide, by decide, Tryz.underlying3, rfl, fun us h => by cases h⟩
    | succ j =>
     cases j with
     | zero => cases h; exact ⟨_, _, rfl, rfl, by decide, by decide, Tryz.underlying25, rfl, fun us h => by cases h⟩
     | succ j =>
      cases j with
      | zero => cases h; exact ⟨_, _, rfl, rfl, by decide, by decide, Tryz.underlying25, rfl, fun us h => by cases h⟩
      | succ j =>
       cases h⟩, (fun us hus fs hfs j τ h f hf => by
    cases hus
    rw [Tryz.underlying158] at hfs
    cases hfs
    cases j with
    | zero => cases h; cases hf; exact ⟨fun k e => by cases e; exact Tryz.underlying3, fun e => (by cases e), fun e => (by cases e)⟩
    | succ j =>
     cases j with
     | zero => cases h; cases hf; exact ⟨fun k e => (by cases e), fun e => (by cases e), fun e => (by cases e)⟩
     | succ j =>
      cases j with
      | zero => cases h; cases hf; exact ⟨fun k e => (by cases e), fun e => (by cases e), fun e => (by cases e)⟩
      | succ j =>
       cases h), Tryz.t158, rfl, rfl, fun _ _ => rfl⟩
theorem tn159 : TnOk Tryz.prog 159 (.st [.int .i64, .sl 3 (.int .i64), .sl 3 (.int .i64)]) := ⟨⟨_, Tryz.underlying159, Tryz.eqGuardType159, Tryz.stoodInHeld159, rfl, fun j τ h => by
    cases j with
    | zero => cases h; exact ⟨_, _, rfl, rfl, by decide, by decide, Tryz.underlying3, rfl, fun us h => by cases h⟩
    | succ j =>
     cases j with
     | zero => cases h; exact ⟨_, _, rfl, rfl, by decide, by decide, Tryz.underlying25, rfl, fun us h => by cases h⟩
     | succ j =>
      cases j with
      | zero => cases h; exact ⟨_, _, rfl, rfl, by decide, by decide, Tryz.underlying25, rfl, fun us h => by cases h⟩
      | succ j =>
       cases h⟩, (fun us hus fs hfs j τ h f hf => by
    cases hus
    rw [Tryz.underlying159] at hfs
    cases hfs
    cases j with
    | zero => cases h; cases hf; exact ⟨fun k e => by cases e; exact Tryz.underlying3, fun e => (by cases e), fun e => (by cases e)⟩
    | succ j =>
     cases j with
     | zero => cases h; cases hf; exact ⟨fun k e => (by cases e), fun e => (by cases e), fun e => (by cases e)⟩
     | succ j =>
      cases j with
      | zero => cases h; cases hf; exact ⟨fun k e => (by cases e), fun e => (by cases e), fun e => (by cases e)⟩
      | succ j =>
       cases h), Tryz.t159, rfl, rfl, fun _ _ => rfl⟩
theorem tn161 : TnOk Tryz.prog 161 (.fn [.sl 176 (.st [.int .i64, .sl 3 (.int .i64), .sl 3 (.int .i64)])] (.sl 159 (.st [.int .i64, .sl 3 (.int .i64), .sl 3 (.int .i64)]))) := ⟨⟨_, _, _, Tryz.underlying161⟩, fun _ h => (by cases h), Tryz.t161, rfl, rfl, fun _ h => by cases h⟩
theorem tn162 : TnOk Tryz.prog 162 (.fn [.sl 185 (.st [.int .i64, .int .i64])] (.sl 170 (.st [.int .i64, .int .i64]))) := ⟨⟨_, _, _, Tryz.underlying162⟩, fun _ h => (by cases h), Tryz.t162, rfl, rfl, fun _ h => by cases h⟩
theorem tn163 : TnOk Tryz.prog 163 (.fn [.sl 121 (.st [.int .i64, .int .i64, .bool, .int .i64]), .fn [.st [.int .i64, .int .i64, .bool, .int .i64]] (.bool)] (.bool)) := ⟨⟨_, _, _, Tryz.underlying163⟩, fun _ h => (by cases h), Tryz.t163, rfl, rfl, fun _ h => by cases h⟩
theorem tn164 : TnOk Tryz.prog 164 (.fn [.st [.int .i64, .int .i64, .bool, .int .i64]] (.bool)) := ⟨⟨_, _, _, Tryz.underlying164⟩, fun _ h => (by cases h), Tryz.t164, rfl, rfl, fun _ h => by cases h⟩
theorem tn166 : TnOk Tryz.prog 166 (.fn [.sl 159 (.st [.int .i64, .sl 3 (.int .i64), .sl 3 (.int .i64)]), .sl 159 (.st [.int .i64, .sl 3 (.int .i64), .sl 3 (.int .i64)])] (.bool)) := ⟨⟨_, _, _, Tryz.underlying166⟩, fun _ h => (by cases h), Tryz.t166, rfl, rfl, fun _ h => by cases h⟩
theorem tn167 : TnOk Tryz.prog 167 (.fn [.sl 170 (.st [.int .i64, .int .i64]), .sl 170 (.st [.int .i64, .int .i64])] (.bool)) := ⟨⟨_, _, _, Tryz.underlying167⟩, fun _ h => (by cases h), Tryz.t167, rfl, rfl, fun _ h => by cases h⟩
theorem tn168 : TnOk Tryz.prog 168 (.sl 5 (.int .u8)) := ⟨⟨Tryz.underlying168, Tryz.t5, _, rfl, rfl, rfl, rfl, by decide, by decide, fun _ _ => rfl, fun k h => by cases h; exact Tryz.underlying5⟩, fun _ h => (by cases h), Tryz.t168, rfl, rfl, fun _ _ => rfl⟩
theorem tn169 : TnOk Tryz.prog 169 (.st [.int .i64, .int .i64]) := ⟨⟨_, Tryz.underlying169, Tryz.eqGuardType169, Tryz.stoodInHeld169, rfl, fun j τ h => by
    cases j with
    | zero => cases h; exact ⟨_, _, rfl, rfl, by decide, by decide, Tryz.underlying3, rfl, fun us h => by cases h⟩
    | succ j =>
     cases j with
     | zero => cases h; exact ⟨_, _, rfl, rfl, by decide, by decide, Tryz.underlying3, rfl, fun us h => by cases h⟩
     | succ j =>
      cases h⟩, (fun us hus fs hfs j τ h f hf => by
    cases hus
    rw [Tryz.underlying169] at hfs
    cases hfs
    cases j with
    | zero => cases h; cases hf; exact ⟨fun k e => by cases e; exact Tryz.underlying3, fun e => (by cases e), fun e => (by cases e)⟩
    | succ j =>
     cases j with
     | zero => cases h; cases hf; exact ⟨fun k e => by cases e; exact Tryz.underlying3, fun e => (by cases e), fun e => (by cases e)⟩
     | succ j =>
      cases h), Tryz.t169, rfl, rfl, fun _ _ => rfl⟩
theorem tn170 : TnOk Tryz.prog 170 (.st [.int .i64, .int .i64]) := ⟨⟨_, Tryz.underlying170, Tryz.eqGuardType170, Tryz.stoodInHeld170, rfl, fun j τ h => by
    cases j with
    | zero => cases h; exact ⟨_, _, rfl, rfl, by decide, by decide, Tryz.underlying3, rfl, fun us h => by cases h⟩
    | succ j =>
     cases j with
     | zero => cases h; exact ⟨_, _, rfl, rfl, by decide, by decide, Tryz.underlying3, rfl, fun us h => by cases h⟩
     | succ j =>
      cases h⟩, (fun us hus fs hfs j τ h f hf => by
    cases hus
    rw [Tryz.underlying170] at hfs
    cases hfs
    cases j with
    | zero => cases h; cases hf; exact ⟨fun k e => by cases e; exact Tryz.underlying3, fun e => (by cases e), fun e => (by cases e)⟩
    | succ j =>
     cases j with
     | zero => cases h; cases hf; exact ⟨fun k e => by cases e; exact Tryz.underlying3, fun e => (by cases e), fun e => (by cases e)⟩
     | succ j =>
      cases h), Tryz.t170, rfl, rfl, fun _ _ => rfl⟩
theorem tn171 : TnOk Tryz.prog 171 (.fn [.sl 3 (.int .i64), .int .i64] (.bool)) := ⟨⟨_, _, _, Tryz.underlying171⟩, fun _ h => (by cases h), Tryz.t171, rfl, rfl, fun _ h => by cases h⟩
theorem tn172 : TnOk Tryz.prog 172 (.fn [.int .i64] (.sl 3 (.int .i64))) := ⟨⟨_, _, _, Tryz.underlying172⟩, fun _ h => (by cases h), Tryz.t172, rfl, rfl, fun _ h => by cases h⟩
theorem tn173 : TnOk Tryz.prog 173 (.fn [.sl 25 (.sl 3 (.int .i64)), .fn [.sl 3 (.int .i64)] (.bool)] (.int .i64)) := ⟨⟨_, _, _, Tryz.underlying173⟩, fun _ h => (by cases h), Tryz.t173, rfl, rfl, fun _ h => by cases h⟩
theorem tn174 : TnOk Tryz.prog 174 (.fn [.bool, .bool] (.int .i64)) := ⟨⟨_, _, _, Tryz.underlying174⟩, fun _ h => (by cases h), Tryz.t174, rfl, rfl, fun _ h => by cases h⟩
theorem tn175 : TnOk Tryz.prog 175 (.fn [.st [.int .i64, .sl 3 (.int .i64), .sl 3 (.int .i64)], .int .i64] (.int .i64)) := ⟨⟨_, _, _, Tryz.underlying175⟩, fun _ h => (by cases h), Tryz.t175, rfl, rfl, fun _ h => by cases h⟩
theorem tn176 : TnOk Tryz.prog 176 (.st [.int .i64, .sl 3 (.int .i64), .sl 3 (.int .i64)]) := ⟨⟨_, Tryz.underlying176, Tryz.eqGuardType176, Tryz.stoodInHeld176, rfl, fun j τ h => by
    cases j with
    | zero => cases h; exact ⟨_, _, rfl, rfl, by decide, by decide, Tryz.underlying3, rfl, fun us h => by cases h⟩
    | succ j =>
     cases j with
     | zero => cases h; exact ⟨_, _, rfl, rfl, by decide, by decide, Tryz.underlying25, rfl, fun us h => by cases h⟩
     | succ j =>
      cases j with
      | zero => cases h; exact ⟨_, _, rfl, rfl, by decide, by decide, Tryz.underlying25, rfl, fun us h => by cases h⟩
      | succ j =>
       cases h⟩, (fun us hus fs hfs j τ h f hf => by
    cases hus
    rw [Tryz.underlying176] at hfs
    cases hfs
    cases j with
    | zero => cases h; cases hf; exact ⟨fun k e => by cases e; exact Tryz.underlying3, fun e => (by cases e), fun e => (by cases e)⟩
    | succ j =>
     cases j with
     | zero => cases h; cases hf; exact ⟨fun k e => (by cases e), fun e => (by cases e), fun e => (by cases e)⟩
     | succ j =>
      cases j with
      | zero => cases h; cases hf; exact ⟨fun k e => (by cases e), fun e => (by cases e), fun e => (by cases e)⟩
      | succ j =>
       cases h), Tryz.t176, rfl, rfl, fun _ _ => rfl⟩
theorem tn177 : TnOk Tryz.prog 177 (.fn [.st [.int .i64, .sl 3 (.int .i64), .sl 3 (.int .i64)], .int .i64, .int .i64] (.bool)) := ⟨⟨_, _, _, Tryz.underlying177⟩, fun _ h => (by cases h), Tryz.t177, rfl, rfl, fun _ h => by cases h⟩
theorem tn178 : TnOk Tryz.prog 178 (.fn [.str] (.bool)) := ⟨⟨_, _, _, Tryz.underlying178⟩, fun _ h => (by cases h), Tryz.t178, rfl, rfl, fun _ h => by cases h⟩
theorem tn179 : TnOk Tryz.prog 179 (.fn [.sl 170 (.st [.int .i64, .int .i64])] (.bool)) := ⟨⟨_, _, _, Tryz.underlying179⟩, fun _ h => (by cases h), Tryz.t179, rfl, rfl, fun _ h => by cases h⟩
theorem tn183 : TnOk Tryz.prog 183 (.fn [.st [.int .i64, .sl 3 (.int .i64), .sl 3 (.int .i64)]] (.st [.int .i64, .sl 3 (.int .i64), .sl 3 (.int .i64)])) := ⟨⟨_, _, _, Tryz.underlying183⟩, fun _ h => (by cases h), Tryz.t183, rfl, rfl, fun _ h => by cases h⟩
theorem tn184 : TnOk Tryz.prog 184 (.fn [.st [.int .i64, .int .i64]] (.st [.int .i64, .int .i64])) := ⟨⟨_, _, _, Tryz.underlying184⟩, fun _ h => (by cases h), Tryz.t184, rfl, rfl, fun _ h => by cases h⟩
theorem tn185 : TnOk Tryz.prog 185 (.st [.int .i64, .int .i64]) := ⟨⟨_, Tryz.underlying185, Tryz.eqGuardType185, Tryz.stoodInHeld185, rfl, fun j τ h => by
    cases j with
    | zero => cases h; exact ⟨_, _, rfl, rfl, by decide, by decide, Tryz.underlying3, rfl, fun us h => by cases h⟩
    | succ j =>
     cases j with
     | zero => cases h; exact ⟨_, _, rfl, rfl, by decide, by decide, Tryz.underlying3, rfl, fun us h => by cases h⟩
     | succ j =>
      cases h⟩, (fun us hus fs hfs j τ h f hf => by
    cases hus
    rw [Tryz.underlying185] at hfs
    cases hfs
    cases j with
    | zero => cases h; cases hf; exact ⟨fun k e => by cases e; exact Tryz.underlying3, fun e => (by cases e), fun e => (by cases e)⟩
    | succ j =>
     cases j with
     | zero => cases h; cases hf; exact ⟨fun k e => by cases e; exact Tryz.underlying3, fun e => (by cases e), fun e => (by cases e)⟩
     | succ j =>
      cases h), Tryz.t185, rfl, rfl, fun _ _ => rfl⟩
theorem tn186 : TnOk Tryz.prog 186 (.fn [.sl 118 (.st [.str, .int .i64, .sl 159 (.st [.int .i64, .sl 3 (.int .i64), .sl 3 (.int .i64)])]), .fn [.st [.str, .int .i64, .sl 159 (.st [.int .i64, .sl 3 (.int .i64), .sl 3 (.int .i64)])]] (.bool)] (.int .i64)) := ⟨⟨_, _, _, Tryz.underlying186⟩, fun _ h => (by cases h), Tryz.t186, rfl, rfl, fun _ h => by cases h⟩
theorem tn187 : TnOk Tryz.prog 187 (.fn [.st [.str, .int .i64, .sl 159 (.st [.int .i64, .sl 3 (.int .i64), .sl 3 (.int .i64)])]] (.bool)) := ⟨⟨_, _, _, Tryz.underlying187⟩, fun _ h => (by cases h), Tryz.t187, rfl, rfl, fun _ h => by cases h⟩
theorem tn188 : TnOk Tryz.prog 188 (.fn [.sl 121 (.st [.int .i64, .int .i64, .bool, .int .i64]), .fn [.st [.int .i64, .int .i64, .bool, .int .i64]] (.bool)] (.int .i64)) := ⟨⟨_, _, _, Tryz.underlying188⟩, fun _ h => (by cases h), Tryz.t188, rfl, rfl, fun _ h => by cases h⟩
theorem tn191 : TnOk Tryz.prog 191 (.fn [.st [.int .i64, .sl 3 (.int .i64), .sl 3 (.int .i64)], .st [.int .i64, .sl 3 (.int .i64), .sl 3 (.int .i64)]] (.bool)) := ⟨⟨_, _, _, Tryz.underlying191⟩, fun _ h => (by cases h), Tryz.t191, rfl, rfl, fun _ h => by cases h⟩
theorem tn192 : TnOk Tryz.prog 192 (.fn [.st [.int .i64, .int .i64], .st [.int .i64, .int .i64]] (.bool)) := ⟨⟨_, _, _, Tryz.underlying192⟩, fun _ h => (by cases h), Tryz.t192, rfl, rfl, fun _ h => by cases h⟩
def tys : List (Nat × Ty) := [(3, .int .i64), (4, .bool), (5, .int .u8), (9, .str), (22, .sl 103 (.st [.str, .int .i64, .sl 176 (.st [.int .i64, .sl 3 (.int .i64), .sl 3 (.int .i64)])])), (23, .sl 123 (.st [.int .i64, .int .i64, .bool, .int .i64])), (24, .sl 107 (.st [.sl 185 (.st [.int .i64, .int .i64]), .sl 25 (.sl 3 (.int .i64))])), (25, .sl 3 (.int .i64)), (26, .st [.int .i64, .sl 103 (.st [.str, .int .i64, .sl 176 (.st [.int .i64, .sl 3 (.int .i64), .sl 3 (.int .i64)])]), .sl 123 (.st [.int .i64, .int .i64, .bool, .int .i64]), .sl 107 (.st [.sl 185 (.st [.int .i64, .int .i64]), .sl 25 (.sl 3 (.int .i64))]), .sl 3 (.int .i64)]), (27, .st [.int .i64, .sl 103 (.st [.str, .int .i64, .sl 176 (.st [.int .i64, .sl 3 (.int .i64), .sl 3 (.int .i64)])]), .sl 123 (.st [.int .i64, .int .i64, .bool, .int .i64]), .sl 107 (.st [.sl 185 (.st [.int .i64, .int .i64]), .sl 25 (.sl 3 (.int .i64))]), .sl 3 (.int .i64)]), (28, .fn [.st [.int .i64, .sl 103 (.st [.str, .int .i64, .sl 176 (.st [.int .i64, .sl 3 (.int .i64), .sl 3 (.int .i64)])]), .sl 123 (.st [.int .i64, .int .i64, .bool, .int .i64]), .sl 107 (.st [.sl 185 (.st [.int .i64, .int .i64]), .sl 25 (.sl 3 (.int .i64))]), .sl 3 (.int .i64)], .int .i64] (.int .i64)), (33, .sl 118 (.st [.str, .int .i64, .sl 159 (.st [.int .i64, .sl 3 (.int .i64), .sl 3 (.int .i64)])])), (34, .sl 121 (.st [.int .i64, .int .i64, .bool, .int .i64])), (35, .sl 126 (.st [.sl 170 (.st [.int .i64, .int .i64]), .sl 25 (.sl 3 (.int .i64))])), (36, .st [.int .i64, .sl 118 (.st [.str, .int .i64, .sl 159 (.st [.int .i64, .sl 3 (.int .i64), .sl 3 (.int .i64)])]), .sl 121 (.st [.int .i64, .int .i64, .bool, .int .i64]), .sl 126 (.st [.sl 170 (.st [.int .i64, .int .i64]), .sl 25 (.sl 3 (.int .i64))]), .sl 3 (.int .i64)]), (37, .st [.int .i64, .sl 118 (.st [.str, .int .i64, .sl 159 (.st [.int .i64, .sl 3 (.int .i64), .sl 3 (.int .i64)])]), .sl 121 (.st [.int .i64, .int .i64, .bool, .int .i64]), .sl 126 (.st [.sl 170 (.st [.int .i64, .int .i64]), .sl 25 (.sl 3 (.int .i64))]), .sl 3 (.int .i64)]), (38, .fn [.st [.int .i64, .sl 103 (.st [.str, .int .i64, .sl 176 (.st [.int .i64, .sl 3 (.int .i64), .sl 3 (.int .i64)])]), .sl 123 (.st [.int .i64, .int .i64, .bool, .int .i64]), .sl 107 (.st [.sl 185 (.st [.int .i64, .int .i64]), .sl 25 (.sl 3 (.int .i64))]), .sl 3 (.int .i64)]] (.st [.int .i64, .sl 118 (.st [.str, .int .i64, .sl 159 (.st [.int .i64, .sl 3 (.int .i64), .sl 3 (.int .i64)])]), .sl 121 (.st [.int .i64, .int .i64, .bool, .int .i64]), .sl 126 (.st [.sl 170 (.st [.int .i64, .int .i64]), .sl 25 (.sl 3 (.int .i64))]), .sl 3 (.int .i64)])), (40, .fn [.st [.int .i64, .sl 118 (.st [.str, .int .i64, .sl 159 (.st [.int .i64, .sl 3 (.int .i64), .sl 3 (.int .i64)])]), .sl 121 (.st [.int .i64, .int .i64, .bool, .int .i64]), .sl 126 (.st [.sl 170 (.st [.int .i64, .int .i64]), .sl 25 (.sl 3 (.int .i64))]), .sl 3 (.int .i64)], .st [.int .i64, .sl 118 (.st [.str, .int .i64, .sl 159 (.st [.int .i64, .sl 3 (.int .i64), .sl 3 (.int .i64)])]), .sl 121 (.st [.int .i64, .int .i64, .bool, .int .i64]), .sl 126 (.st [.sl 170 (.st [.int .i64, .int .i64]), .sl 25 (.sl 3 (.int .i64))]), .sl 3 (.int .i64)]] (.bool)), (41, .fn [.st [.int .i64, .sl 118 (.st [.str, .int .i64, .sl 159 (.st [.int .i64, .sl 3 (.int .i64), .sl 3 (.int .i64)])]), .sl 121 (.st [.int .i64, .int .i64, .bool, .int .i64]), .sl 126 (.st [.sl 170 (.st [.int .i64, .int .i64]), .sl 25 (.sl 3 (.int .i64))]), .sl 3 (.int .i64)], .int .i64] (.int .i64)), (44, .sl 80 (.sl 142 (.st [.int .i64, .int .i64, .int .i64]))), (45, .sl 25 (.sl 3 (.int .i64))), (46, .st [.sl 3 (.int .i64), .sl 3 (.int .i64), .sl 25 (.sl 3 (.int .i64))]), (47, .st [.sl 3 (.int .i64), .sl 3 (.int .i64), .sl 25 (.sl 3 (.int .i64))]), (48, .fn [.sl 80 (.sl 142 (.st [.int .i64, .int .i64, .int .i64])), .int .i64] (.int .i64)), (49, .fn [.st [.sl 3 (.int .i64), .sl 3 (.int .i64), .sl 25 (.sl 3 (.int .i64))], .int .i64] (.int .i64)), (50, .st [.sl 3 (.int .i64), .sl 3 (.int .i64), .sl 25 (.sl 3 (.int .i64))]), (52, .fn [.st [.int .i64, .sl 118 (.st [.str, .int .i64, .sl 159 (.st [.int .i64, .sl 3 (.int .i64), .sl 3 (.int .i64)])]), .sl 121 (.st [.int .i64, .int .i64, .bool, .int .i64]), .sl 126 (.st [.sl 170 (.st [.int .i64, .int .i64]), .sl 25 (.sl 3 (.int .i64))]), .sl 3 (.int .i64)], .sl 90 (.sl 86 (.st [.int .i64, .int .i64, .int .i64])), .st [.sl 3 (.int .i64), .sl 3 (.int .i64), .sl 25 (.sl 3 (.int .i64))]] (.tup [.st [.sl 3 (.int .i64), .sl 3 (.int .i64), .sl 25 (.sl 3 (.int .i64))], .bool])), (53, .sl 90 (.sl 86 (.st [.int .i64, .int .i64, .int .i64]))), (54, .fn [.sl 80 (.sl 142 (.st [.int .i64, .int .i64, .int .i64]))] (.sl 90 (.sl 86 (.st [.int .i64, .int .i64, .int .i64])))), (55, .fn [.st [.sl 3 (.int .i64), .sl 3 (.int .i64), .sl 25 (.sl 3 (.int .i64))]] (.st [.sl 3 (.int .i64), .sl 3 (.int .i64), .sl 25 (.sl 3 (.int .i64))])), (56, .fn [.st [.sl 3 (.int .i64), .sl 3 (.int .i64), .sl 25 (.sl 3 (.int .i64))], .st [.sl 3 (.int .i64), .sl 3 (.int .i64), .sl 25 (.sl 3 (.int .i64))]] (.bool)), (57, .fn [.sl 90 (.sl 86 (.st [.int .i64, .int .i64, .int .i64])), .sl 90 (.sl 86 (.st [.int .i64, .int .i64, .int .i64]))] (.bool)), (58, .fn [.sl 90 (.sl 86 (.st [.int .i64, .int .i64, .int .i64])), .int .i64] (.int .i64)), (59, .fn [.st [.sl 3 (.int .i64), .sl 3 (.int .i64), .sl 25 (.sl 3 (.int .i64))], .int .i64] (.int .i64)), (60, .fn [.st [.int .i64, .sl 103 (.st [.str, .int .i64, .sl 176 (.st [.int .i64, .sl 3 (.int .i64), .sl 3 (.int .i64)])]), .sl 123 (.st [.int .i64, .int .i64, .bool, .int .i64]), .sl 107 (.st [.sl 185 (.st [.int .i64, .int .i64]), .sl 25 (.sl 3 (.int .i64))]), .sl 3 (.int .i64)], .sl 80 (.sl 142 (.st [.int .i64, .int .i64, .int .i64])), .st [.sl 3 (.int .i64), .sl 3 (.int .i64), .sl 25 (.sl 3 (.int .i64))]] (.bool)), (61, .fn [.sl 103 (.st [.str, .int .i64, .sl 176 (.st [.int .i64, .sl 3 (.int .i64), .sl 3 (.int .i64)])]), .int .i64] (.int .i64)), (62, .fn [.sl 123 (.st [.int .i64, .int .i64, .bool, .int .i64]), .int .i64] (.int .i64)), (63, .fn [.sl 107 (.st [.sl 185 (.st [.int .i64, .int .i64]), .sl 25 (.sl 3 (.int .i64))]), .int .i64] (.int .i64)), (64, .fn [.sl 3 (.int .i64), .int .i64] (.int .i64)), (68, .fn [.sl 103 (.st [.str, .int .i64, .sl 176 (.st [.int .i64, .sl 3 (.int .i64), .sl 3 (.int .i64)])])] (.sl 118 (.st [.str, .int .i64, .sl 159 (.st [.int .i64, .sl 3 (.int .i64), .sl 3 (.int .i64)])]))), (69, .fn [.sl 123 (.st [.int .i64, .int .i64, .bool, .int .i64])] (.sl 121 (.st [.int .i64, .int .i64, .bool, .int .i64]))), (70, .fn [.sl 107 (.st [.sl 185 (.st [.int .i64, .int .i64]), .sl 25 (.sl 3 (.int .i64))])] (.sl 126 (.st [.sl 170 (.st [.int .i64, .int .i64]), .sl 25 (.sl 3 (.int .i64))]))), (71, .fn [.sl 3 (.int .i64)] (.sl 3 (.int .i64))), (72, .fn [.sl 3 (.int .i64), .sl 3 (.int .i64)] (.bool)), (73, .fn [.sl 118 (.st [.str, .int .i64, .sl 159 (.st [.int .i64, .sl 3 (.int .i64), .sl 3 (.int .i64)])]), .sl 118 (.st [.str, .int .i64, .sl 159 (.st [.int .i64, .sl 3 (.int .i64), .sl 3 (.int .i64)])])] (.bool)), (74, .fn [.sl 121 (.st [.int .i64, .int .i64, .bool, .int .i64]), .sl 121 (.st [.int .i64, .int .i64, .bool, .int .i64])] (.bool)), (75, .fn [.sl 126 (.st [.sl 170 (.st [.int .i64, .int .i64]), .sl 25 (.sl 3 (.int .i64))]), .sl 126 (.st [.sl 170 (.st [.int .i64, .int .i64]), .sl 25 (.sl 3 (.int .i64))])] (.bool)), (76, .fn [.sl 118 (.st [.str, .int .i64, .sl 159 (.st [.int .i64, .sl 3 (.int .i64), .sl 3 (.int .i64)])]), .int .i64] (.int .i64)), (77, .fn [.sl 121 (.st [.int .i64, .int .i64, .bool, .int .i64]), .int .i64] (.int .i64)), (78, .fn [.sl 126 (.st [.sl 170 (.st [.int .i64, .int .i64]), .sl 25 (.sl 3 (.int .i64))]), .int .i64] (.int .i64)), (79, .fn [.sl 142 (.st [.int .i64, .int .i64, .int .i64]), .int .i64] (.int .i64)), (80, .sl 142 (.st [.int .i64, .int .i64, .int .i64])), (81, .fn [.sl 25 (.sl 3 (.int .i64)), .int .i64] (.int .i64)), (82, .fn [.st [.sl 3 (.int .i64), .sl 3 (.int .i64), .sl 25 (.sl 3 (.int .i64))]] (.st [.sl 3 (.int .i64), .sl 3 (.int .i64), .sl 25 (.sl 3 (.int .i64))])), (83, .fn [.st [.int .i64, .sl 118 (.st [.str, .int .i64, .sl 159 (.st [.int .i64, .sl 3 (.int .i64), .sl 3 (.int .i64)])]), .sl 121 (.st [.int .i64, .int .i64, .bool, .int .i64]), .sl 126 (.st [.sl 170 (.st [.int .i64, .int .i64]), .sl 25 (.sl 3 (.int .i64))]), .sl 3 (.int .i64)], .st [.sl 3 (.int .i64), .sl 3 (.int .i64), .sl 25 (.sl 3 (.int .i64))]] (.bool)), (84, .fn [.st [.sl 3 (.int .i64), .sl 3 (.int .i64), .sl 25 (.sl 3 (.int .i64))]] (.bool)), (85, .st [.int .i64, .int .i64, .int .i64]), (86, .st [.int .i64, .int .i64, .int .i64]), (88, .fn [.sl 90 (.sl 86 (.st [.int .i64, .int .i64, .int .i64])), .st [.sl 3 (.int .i64), .sl 3 (.int .i64), .sl 25 (.sl 3 (.int .i64))]] (.tup [.int .i64, .st [.int .i64, .int .i64, .int .i64]])), (89, .fn [.st [.sl 3 (.int .i64), .sl 3 (.int .i64), .sl 25 (.sl 3 (.int .i64))], .st [.int .i64, .int .i64, .int .i64]] (.st [.sl 3 (.int .i64), .sl 3 (.int .i64), .sl 25 (.sl 3 (.int .i64))])), (90, .sl 86 (.st [.int .i64, .int .i64, .int .i64])), (91, .fn [.sl 142 (.st [.int .i64, .int .i64, .int .i64])] (.sl 86 (.st [.int .i64, .int .i64, .int .i64]))), (92, .fn [.sl 25 (.sl 3 (.int .i64))] (.sl 25 (.sl 3 (.int .i64)))), (93, .fn [] (.st [.sl 3 (.int .i64), .sl 3 (.int .i64), .sl 25 (.sl 3 (.int .i64))])), (94, .fn [.sl 90 (.sl 86 (.st [.int .i64, .int .i64, .int .i64])), .fn [.sl 86 (.st [.int .i64, .int .i64, .int .i64])] (.bool)] (.int .i64)), (95, .fn [.st [.sl 3 (.int .i64), .sl 3 (.int .i64), .sl 25 (.sl 3 (.int .i64))], .sl 86 (.st [.int .i64, .int .i64, .int .i64])] (.tup [.int .i64, .st [.int .i64, .int .i64, .int .i64]])), (96, .fn [.sl 86 (.st [.int .i64, .int .i64, .int .i64])] (.bool)), (97, .fn [.sl 25 (.sl 3 (.int .i64)), .sl 25 (.sl 3 (.int .i64))] (.bool)), (98, .fn [.sl 86 (.st [.int .i64, .int .i64, .int .i64]), .sl 86 (.st [.int .i64, .int .i64, .int .i64])] (.bool)), (99, .fn [.sl 86 (.st [.int .i64, .int .i64, .int .i64]), .int .i64] (.int .i64)), (100, .fn [.st [.str, .int .i64, .sl 176 (.st [.int .i64, .sl 3 (.int .i64), .sl 3 (.int .i64)])], .int .i64] (.int .i64)), (101, .sl 176 (.st [.int .i64, .sl 3 (.int .i64), .sl 3 (.int .i64)])), (102, .st [.str, .int .i64, .sl 176 (.st [.int .i64, .sl 3 (.int .i64), .sl 3 (.int .i64)])]), (103, .st [.str, .int .i64, .sl 176 (.st [.int .i64, .sl 3 (.int .i64), .sl 3 (.int .i64)])]), (104, .fn [.st [.sl 185 (.st [.int .i64, .int .i64]), .sl 25 (.sl 3 (.int .i64))], .int .i64] (.int .i64)), (105, .sl 185 (.st [.int .i64, .int .i64])), (106, .st [.sl 185 (.st [.int .i64, .int .i64]), .sl 25 (.sl 3 (.int .i64))]), (107, .st [.sl 185 (.st [.int .i64, .int .i64]), .sl 25 (.sl 3 (.int .i64))]), (108, .fn [.st [.int .i64, .sl 118 (.st [.str, .int .i64, .sl 159 (.st [.int .i64, .sl 3 (.int .i64), .sl 3 (.int .i64)])]), .sl 121 (.st [.int .i64, .int .i64, .bool, .int .i64]), .sl 126 (.st [.sl 170 (.st [.int .i64, .int .i64]), .sl 25 (.sl 3 (.int .i64))]), .sl 3 (.int .i64)]] (.bool)), (109, .fn [.int .i64, .int .i64, .int .i64] (.bool)), (114, .fn [.int .i64, .int .i64] (.int .i64)), (116, .sl 159 (.st [.int .i64, .sl 3 (.int .i64), .sl 3 (.int .i64)])), (117, .st [.str, .int .i64, .sl 159 (.st [.int .i64, .sl 3 (.int .i64), .sl 3 (.int .i64)])]), (118, .st [.str, .int .i64, .sl 159 (.st [.int .i64, .sl 3 (.int .i64), .sl 3 (.int .i64)])]), (119, .fn [.st [.str, .int .i64, .sl 176 (.st [.int .i64, .sl 3 (.int .i64), .sl 3 (.int .i64)])]] (.st [.str, .int .i64, .sl 159 (.st [.int .i64, .sl 3 (.int .i64), .sl 3 (.int .i64)])])), (120, .st [.int .i64, .int .i64, .bool, .int .i64]), (121, .st [.int .i64, .int .i64, .bool, .int .i64]), (122, .fn [.st [.int .i64, .int .i64, .bool, .int .i64]] (.st [.int .i64, .int .i64, .bool, .int .i64])), (123, .st [.int .i64, .int .i64, .bool, .int .i64]), (124, .sl 170 (.st [.int .i64, .int .i64])), (125, .st [.sl 170 (.st [.int .i64, .int .i64]), .sl 25 (.sl 3 (.int .i64))]), (126, .st [.sl 170 (.st [.int .i64, .int .i64]), .sl 25 (.sl 3 (.int .i64))]), (127, .fn [.st [.sl 185 (.st [.int .i64, .int .i64]), .sl 25 (.sl 3 (.int .i64))]] (.st [.sl 170 (.st [.int .i64, .int .i64]), .sl 25 (.sl 3 (.int .i64))])), (129, .fn [.st [.str, .int .i64, .sl 159 (.st [.int .i64, .sl 3 (.int .i64), .sl 3 (.int .i64)])], .st [.str, .int .i64, .sl 159 (.st [.int .i64, .sl 3 (.int .i64), .sl 3 (.int .i64)])]] (.bool)), (130, .fn [.st [.int .i64, .int .i64, .bool, .int .i64], .st [.int .i64, .int .i64, .bool, .int .i64]] (.bool)), (131, .fn [.st [.sl 170 (.st [.int .i64, .int .i64]), .sl 25 (.sl 3 (.int .i64))], .st [.sl 170 (.st [.int .i64, .int .i64]), .sl 25 (.sl 3 (.int .i64))]] (.bool)), (132, .fn [.int .i64] (.str)), (133, .fn [.sl 159 (.st [.int .i64, .sl 3 (.int .i64), .sl 3 (.int .i64)]), .int .i64] (.int .i64)), (134, .fn [.sl 170 (.st [.int .i64, .int .i64]), .int .i64] (.int .i64)), (135, .fn [.sl 3 (.int .i64)] (.bool)), (136, .fn [.st [.str, .int .i64, .sl 159 (.st [.int .i64, .sl 3 (.int .i64), .sl 3 (.int .i64)])]] (.sl 3 (.int .i64))), (137, .fn [.st [.sl 3 (.int .i64), .sl 3 (.int .i64), .sl 25 (.sl 3 (.int .i64))], .int .i64] (.bool)), (138, .fn [.int .i64] (.int .i64)), (139, .fn [.sl 3 (.int .i64), .sl 3 (.int .i64)] (.sl 3 (.int .i64))), (140, .fn [.sl 3 (.int .i64), .int .i64] (.sl 3 (.int .i64))), (141, .fn [.st [.int .i64, .int .i64, .int .i64]] (.st [.int .i64, .int .i64, .int .i64])), (142, .st [.int .i64, .int .i64, .int .i64]), (143, .fn [.int .i64] (.bool)), (144, .fn [.sl 25 (.sl 3 (.int .i64)), .fn [.sl 3 (.int .i64)] (.bool)] (.bool)), (145, .fn [.st [.sl 3 (.int .i64), .sl 3 (.int .i64), .sl 25 (.sl 3 (.int .i64))], .st [.int .i64, .int .i64, .int .i64]] (.int .i64)), (146, .fn [.sl 3 (.int .i64), .fn [.int .i64] (.bool)] (.sl 3 (.int .i64))), (147, .fn [.st [.int .i64, .int .i64, .int .i64], .st [.int .i64, .int .i64, .int .i64]] (.bool)), (148, .fn [.sl 176 (.st [.int .i64, .sl 3 (.int .i64), .sl 3 (.int .i64)]), .int .i64] (.int .i64)), (149, .fn [.sl 185 (.st [.int .i64, .int .i64]), .int .i64] (.int .i64)), (150, .fn [.st [.str, .int .i64, .sl 159 (.st [.int .i64, .sl 3 (.int .i64), .sl 3 (.int .i64)])], .int .i64, .int .i64] (.bool)), (151, .fn [.st [.int .i64, .sl 118 (.st [.str, .int .i64, .sl 159 (.st [.int .i64, .sl 3 (.int .i64), .sl 3 (.int .i64)])]), .sl 121 (.st [.int .i64, .int .i64, .bool, .int .i64]), .sl 126 (.st [.sl 170 (.st [.int .i64, .int .i64]), .sl 25 (.sl 3 (.int .i64))]), .sl 3 (.int .i64)], .str] (.int .i64)), (152, .fn [.st [.sl 170 (.st [.int .i64, .int .i64]), .sl 25 (.sl 3 (.int .i64))]] (.bool)), (158, .st [.int .i64, .sl 3 (.int .i64), .sl 3 (.int .i64)]), (159, .st [.int .i64, .sl 3 (.int .i64), .sl 3 (.int .i64)]), (161, .fn [.sl 176 (.st [.int .i64, .sl 3 (.int .i64), .sl 3 (.int .i64)])] (.sl 159 (.st [.int .i64, .sl 3 (.int .i64), .sl 3 (.int .i64)]))), (162, .fn [.sl 185 (.st [.int .i64, .int .i64])] (.sl 170 (.st [.int .i64, .int .i64]))), (163, .fn [.sl 121 (.st [.int .i64, .int .i64, .bool, .int .i64]), .fn [.st [.int .i64, .int .i64, .bool, .int .i64]] (.bool)] (.bool)), (164, .fn [.st [.int .i64, .int .i64, .bool, .int .i64]] (.bool)), (166, .fn [.sl 159 (.st [.int .i64, .sl 3 (.int .i64), .sl 3 (.int .i64)]), .sl 159 (.st [.int .i64, .sl 3 (.int .i64), .sl 3 (.int .i64)])] (.bool)), (167, .fn [.sl 170 (.st [.int .i64, .int .i64]), .sl 170 (.st [.int .i64, .int .i64])] (.bool)), (168, .sl 5 (.int .u8)), (169, .st [.int .i64, .int .i64]), (170, .st [.int .i64, .int .i64]), (171, .fn [.sl 3 (.int .i64), .int .i64] (.bool)), (172, .fn [.int .i64] (.sl 3 (.int .i64))), (173, .fn [.sl 25 (.sl 3 (.int .i64)), .fn [.sl 3 (.int .i64)] (.bool)] (.int .i64)), (174, .fn [.bool, .bool] (.int .i64)), (175, .fn [.st [.int .i64, .sl 3 (.int .i64), .sl 3 (.int .i64)], .int .i64] (.int .i64)), (176, .st [.int .i64, .sl 3 (.int .i64), .sl 3 (.int .i64)]), (177, .fn [.st [.int .i64, .sl 3 (.int .i64), .sl 3 (.int .i64)], .int .i64, .int .i64] (.bool)), (178, .fn [.str] (.bool)), (179, .fn [.sl 170 (.st [.int .i64, .int .i64])] (.bool)), (183, .fn [.st [.int .i64, .sl 3 (.int .i64), .sl 3 (.int .i64)]] (.st [.int .i64, .sl 3 (.int .i64), .sl 3 (.int .i64)])), (184, .fn [.st [.int .i64, .int .i64]] (.st [.int .i64, .int .i64])), (185, .st [.int .i64, .int .i64]), (186, .fn [.sl 118 (.st [.str, .int .i64, .sl 159 (.st [.int .i64, .sl 3 (.int .i64), .sl 3 (.int .i64)])]), .fn [.st [.str, .int .i64, .sl 159 (.st [.int .i64, .sl 3 (.int .i64), .sl 3 (.int .i64)])]] (.bool)] (.int .i64)), (187, .fn [.st [.str, .int .i64, .sl 159 (.st [.int .i64, .sl 3 (.int .i64), .sl 3 (.int .i64)])]] (.bool)), (188, .fn [.sl 121 (.st [.int .i64, .int .i64, .bool, .int .i64]), .fn [.st [.int .i64, .int .i64, .bool, .int .i64]] (.bool)] (.int .i64)), (191, .fn [.st [.int .i64, .sl 3 (.int .i64), .sl 3 (.int .i64)], .st [.int .i64, .sl 3 (.int .i64), .sl 3 (.int .i64)]] (.bool)), (192, .fn [.st [.int .i64, .int .i64], .st [.int .i64, .int .i64]] (.bool))]
theorem tysOk : LkAll (TnOk Tryz.prog) tys := ⟨tn3, tn4, tn5, tn9, tn22, tn23, tn24, tn25, tn26, tn27, tn28, tn33, tn34, tn35, tn36, tn37, tn38, tn40, tn41, tn44, tn45, tn46, tn47, tn48, tn49, tn50, tn52, tn53, tn54, tn55, tn56, tn57, tn58, tn59, tn60, tn61, tn62, tn63, tn64, tn68, tn69, tn70, tn71, tn72, tn73, tn74, tn75, tn76, tn77, tn78, tn79, tn80, tn81, tn82, tn83, tn84, tn85, tn86, tn88, tn89, tn90, tn91, tn92, tn93, tn94, tn95, tn96, tn97, tn98, tn99, tn100, tn101, tn102, tn103, tn104, tn105, tn106, tn107, tn108, tn109, tn114, tn116, tn117, tn118, tn119, tn120, tn121, tn122, tn123, tn124, tn125, tn126, tn127, tn129, tn130, tn131, tn132, tn133, tn134, tn135, tn136, tn137, tn138, tn139, tn140, tn141, tn142, tn143, tn144, tn145, tn146, tn147, tn148, tn149, tn150, tn151, tn152, tn158, tn159, tn161, tn162, tn163, tn164, tn166, tn167, tn168, tn169, tn170, tn171, tn172, tn173, tn174, tn175, tn176, tn177, tn178, tn179, tn183, tn184, tn185, tn186, tn187, tn188, tn191, tn192, trivial⟩
def laws_szIntS (x : ((List Int) × (Int × Unit))) (c : Unit) : (Option (Int × Unit)) :=
  (if (ltZ (subZ .i64 x.2.1 (lenI x.1)) 0) = true then (some ((-1), ())) else (some ((subZ .i64 x.2.1 (lenI x.1)), ())))
def H_laws_szIntS : Hd := ⟨[.sl 3 (.int .i64), .int .i64], [], none, .p, .int .i64, .p, []⟩
def T_laws_szIntS : FSig := ⟨H_laws_szIntS.ps, H_laws_szIntS.cs, H_laws_szIntS.io, H_laws_szIntS.im, H_laws_szIntS.R, H_laws_szIntS.m, laws_szIntS⟩
theorem E_laws_szIntS : fnOf tys [] Tryz.f28 H_laws_szIntS = T_laws_szIntS := by kernel_rfl
theorem K_laws_szIntS : SigOk Tryz.prog 28 T_laws_szIntS := (congrArg (SigOk Tryz.prog 28) E_laws_szIntS).mp (fnOf_ok rfl tysOk trivial Tryz.func28 (by decide) rfl (fun _ h => by cases h) (nilEq_of (by kernel_rfl)))
def laws_szMode (x : (D_Mode × (Int × Unit))) (c : Unit) : (Option (Int × Unit)) :=
  (Option.bind ((Option.bind (laws_szIntS (x.1.2.1, (x.2.1, ())) ()) fun v0 => (some v0.1)) : (Option Int)) fun v1 => (if (ltZ v1 0) = true then (some ((-1), ())) else (Option.bind ((Option.bind (laws_szIntS (x.1.2.2.1, (v1, ())) ()) fun v2 => (some v2.1)) : (Option Int)) fun v3 => (if (ltZ v3 0) = true then (some ((-1), ())) else (some (v3, ()))))))
def H_laws_szMode : Hd := ⟨[.st [.int .i64, .sl 3 (.int .i64), .sl 3 (.int .i64)], .int .i64], [], none, .p, .int .i64, .p, []⟩
def T_laws_szMode : FSig := ⟨H_laws_szMode.ps, H_laws_szMode.cs, H_laws_szMode.io, H_laws_szMode.im, H_laws_szMode.R, H_laws_szMode.m, laws_szMode⟩
theorem E_laws_szMode : fnOf tys [(28, T_laws_szIntS)] Tryz.f151 H_laws_szMode = T_laws_szMode := by kernel_rfl
theorem K_laws_szMode : SigOk Tryz.prog 151 T_laws_szMode := (congrArg (SigOk Tryz.prog 151) E_laws_szMode).mp (fnOf_ok rfl tysOk ⟨K_laws_szIntS, trivial⟩ Tryz.func151 (by decide) rfl (fun _ h => by cases h) (nilEq_of (by kernel_rfl)))
def laws_szModeS_L0 : (Int × ((List D_Mode) × (Int × Unit))) → Option (Out (Int × ((List D_Mode) × (Int × Unit))) ((Bool × (Int × ((List D_Mode) × (Int × Unit)))) ⊕ Empty) (Int × Unit)) :=
  (fun v0 => (if (ltZ v0.1 (lenI v0.2.1)) = true then (Option.bind (getI v0.2.1 v0.1) fun v1 => (Option.bind ((Option.bind (laws_szMode (v1, (v0.2.2.1, ())) ()) fun v2 => (some v2.1)) : (Option Int)) fun v3 => (if (ltZ v3 0) = true then (some (Out.ret ((-1), ()))) else (some (Out.norm ((addZ .i64 v0.1 1), (v0.2.1, (v3, ())))))))) else (some (Out.exit (Sum.inl ((ltZ v0.1 (lenI v0.2.1)), (v0.1, (v0.2.1, (v0.2.2.1, ())))))))))
def laws_szModeS (x : ((List D_Mode) × (Int × Unit))) (c : Unit) : (Option (Int × Unit)) :=
  (if (ltZ (subZ .i64 x.2.1 (lenI x.1)) 0) = true then (some ((-1), ())) else (Option.bind (loopN (A := (Int × ((List D_Mode) × (Int × Unit)))) big laws_szModeS_L0 (0, (x.1, ((subZ .i64 x.2.1 (lenI x.1)), ())))) fun v4 => (match v4 with | Out.norm v5 => none | Out.exit v6 => (match ((match v6 with | Sum.inl v9 => (Sum.inl (v9.2.2.2.1, ())) | Sum.inr v10 => (Empty.elim v10)) : ((Int × Unit) ⊕ Empty)) with | Sum.inl v7 => (some (v7.1, ())) | Sum.inr v8 => none) | Out.ret v11 => (some v11))))
def H_laws_szModeS : Hd := ⟨[.sl 176 (.st [.int .i64, .sl 3 (.int .i64), .sl 3 (.int .i64)]), .int .i64], [], none, .p, .int .i64, .p, []⟩
def T_laws_szModeS : FSig := ⟨H_laws_szModeS.ps, H_laws_szModeS.cs, H_laws_szModeS.io, H_laws_szModeS.im, H_laws_szModeS.R, H_laws_szModeS.m, laws_szModeS⟩
theorem E_laws_szModeS : fnOf tys [(151, T_laws_szMode)] Tryz.f120 H_laws_szModeS = T_laws_szModeS := by kernel_rfl
theorem K_laws_szModeS : SigOk Tryz.prog 120 T_laws_szModeS := (congrArg (SigOk Tryz.prog 120) E_laws_szModeS).mp (fnOf_ok rfl tysOk ⟨K_laws_szMode, trivial⟩ Tryz.func120 (by decide) rfl (fun _ h => by cases h) (nilEq_of (by kernel_rfl)))
def laws_szActivity (x : (D_Activity × (Int × Unit))) (c : Unit) : (Option (Int × Unit)) :=
  (if (ltZ (subZ .i64 x.2.1 (lenI x.1.1)) 0) = true then (some ((-1), ())) else (Option.bind ((Option.bind (laws_szModeS (x.1.2.2.1, ((subZ .i64 x.2.1 (lenI x.1.1)), ())) ()) fun v0 => (some v0.1)) : (Option Int)) fun v1 => (if (ltZ v1 0) = true then (some ((-1), ())) else (some (v1, ())))))
def H_laws_szActivity : Hd := ⟨[.st [.str, .int .i64, .sl 176 (.st [.int .i64, .sl 3 (.int .i64), .sl 3 (.int .i64)])], .int .i64], [], none, .p, .int .i64, .p, []⟩
def T_laws_szActivity : FSig := ⟨H_laws_szActivity.ps, H_laws_szActivity.cs, H_laws_szActivity.io, H_laws_szActivity.im, H_laws_szActivity.R, H_laws_szActivity.m, laws_szActivity⟩
theorem E_laws_szActivity : fnOf tys [(120, T_laws_szModeS)] Tryz.f67 H_laws_szActivity = T_laws_szActivity := by kernel_rfl
theorem K_laws_szActivity : SigOk Tryz.prog 67 T_laws_szActivity := (congrArg (SigOk Tryz.prog 67) E_laws_szActivity).mp (fnOf_ok rfl tysOk ⟨K_laws_szModeS, trivial⟩ Tryz.func67 (by decide) rfl (fun _ h => by cases h) (nilEq_of (by kernel_rfl)))
def laws_szActivityS_L0 : (Int × ((List D_Activity) × (Int × Unit))) → Option (Out (Int × ((List D_Activity) × (Int × Unit))) ((Bool × (Int × ((List D_Activity) × (Int × Unit)))) ⊕ Empty) (Int × Unit)) :=
  (fun v0 => (if (ltZ v0.1 (lenI v0.2.1)) = true then (Option.bind (getI v0.2.1 v0.1) fun v1 => (Option.bind ((Option.bind (laws_szActivity (v1, (v0.2.2.1, ())) ()) fun v2 => (some v2.1)) : (Option Int)) fun v3 => (if (ltZ v3 0) = true then (some (Out.ret ((-1), ()))) else (some (Out.norm ((addZ .i64 v0.1 1), (v0.2.1, (v3, ())))))))) else (some (Out.exit (Sum.inl ((ltZ v0.1 (lenI v0.2.1)), (v0.1, (v0.2.1, (v0.2.2.1, ())))))))))
def laws_szActivityS (x : ((List D_Activity) × (Int × Unit))) (c : Unit) : (Option (Int × Unit)) :=
  (if (ltZ (subZ .i64 x.2.1 (lenI x.1)) 0) = true then (some ((-1), ())) else (Option.bind (loopN (A := (Int × ((List D_Activity) × (Int × Unit)))) big laws_szActivityS_L0 (0, (x.1, ((subZ .i64 x.2.1 (lenI x.1)), ())))) fun v4 => (match v4 with | Out.norm v5 => none | Out.exit v6 => (match ((match v6 with | Sum.inl v9 => (Sum.inl (v9.2.2.2.1, ())) | Sum.inr v10 => (Empty.elim v10)) : ((Int × Unit) ⊕ Empty)) with | Sum.inl v7 => (some (v7.1, ())) | Sum.inr v8 => none) | Out.ret v11 => (some v11))))
def H_laws_szActivityS : Hd := ⟨[.sl 103 (.st [.str, .int .i64, .sl 176 (.st [.int .i64, .sl 3 (.int .i64), .sl 3 (.int .i64)])]), .int .i64], [], none, .p, .int .i64, .p, []⟩
def T_laws_szActivityS : FSig := ⟨H_laws_szActivityS.ps, H_laws_szActivityS.cs, H_laws_szActivityS.io, H_laws_szActivityS.im, H_laws_szActivityS.R, H_laws_szActivityS.m, laws_szActivityS⟩
theorem E_laws_szActivityS : fnOf tys [(67, T_laws_szActivity)] Tryz.f25 H_laws_szActivityS = T_laws_szActivityS := by kernel_rfl
theorem K_laws_szActivityS : SigOk Tryz.prog 25 T_laws_szActivityS := (congrArg (SigOk Tryz.prog 25) E_laws_szActivityS).mp (fnOf_ok rfl tysOk ⟨K_laws_szActivity, trivial⟩ Tryz.func25 (by decide) rfl (fun _ h => by cases h) (nilEq_of (by kernel_rfl)))
def laws_szLinkS (x : ((List D_Link) × (Int × Unit))) (c : Unit) : (Option (Int × Unit)) :=
  (if (ltZ (subZ .i64 x.2.1 (lenI x.1)) 0) = true then (some ((-1), ())) else (some ((subZ .i64 x.2.1 (lenI x.1)), ())))
def H_laws_szLinkS : Hd := ⟨[.sl 123 (.st [.int .i64, .int .i64, .bool, .int .i64]), .int .i64], [], none, .p, .int .i64, .p, []⟩
def T_laws_szLinkS : FSig := ⟨H_laws_szLinkS.ps, H_laws_szLinkS.cs, H_laws_szLinkS.io, H_laws_szLinkS.im, H_laws_szLinkS.R, H_laws_szLinkS.m, laws_szLinkS⟩
theorem E_laws_szLinkS : fnOf tys [] Tryz.f26 H_laws_szLinkS = T_laws_szLinkS := by kernel_rfl
theorem K_laws_szLinkS : SigOk Tryz.prog 26 T_laws_szLinkS := (congrArg (SigOk Tryz.prog 26) E_laws_szLinkS).mp (fnOf_ok rfl tysOk trivial Tryz.func26 (by decide) rfl (fun _ h => by cases h) (nilEq_of (by kernel_rfl)))
def laws_szIntSS_L0 : (Int × ((List (List Int)) × (Int × Unit))) → Option (Out (Int × ((List (List Int)) × (Int × Unit))) ((Bool × (Int × ((List (List Int)) × (Int × Unit)))) ⊕ Empty) (Int × Unit)) :=
  (fun v0 => (if (ltZ v0.1 (lenI v0.2.1)) = true then (Option.bind (getI v0.2.1 v0.1) fun v1 => (Option.bind ((Option.bind (laws_szIntS (v1, (v0.2.2.1, ())) ()) fun v2 => (some v2.1)) : (Option Int)) fun v3 => (if (ltZ v3 0) = true then (some (Out.ret ((-1), ()))) else (some (Out.norm ((addZ .i64 v0.1 1), (v0.2.1, (v3, ())))))))) else (some (Out.exit (Sum.inl ((ltZ v0.1 (lenI v0.2.1)), (v0.1, (v0.2.1, (v0.2.2.1, ())))))))))
def laws_szIntSS (x : ((List (List Int)) × (Int × Unit))) (c : Unit) : (Option (Int × Unit)) :=
  (if (ltZ (subZ .i64 x.2.1 (lenI x.1)) 0) = true then (some ((-1), ())) else (Option.bind (loopN (A := (Int × ((List (List Int)) × (Int × Unit)))) big laws_szIntSS_L0 (0, (x.1, ((subZ .i64 x.2.1 (lenI x.1)), ())))) fun v4 => (match v4 with | Out.norm v5 => none | Out.exit v6 => (match ((match v6 with | Sum.inl v9 => (Sum.inl (v9.2.2.2.1, ())) | Sum.inr v10 => (Empty.elim v10)) : ((Int × Unit) ⊕ Empty)) with | Sum.inl v7 => (some (v7.1, ())) | Sum.inr v8 => none) | Out.ret v11 => (some v11))))
def H_laws_szIntSS : Hd := ⟨[.sl 25 (.sl 3 (.int .i64)), .int .i64], [], none, .p, .int .i64, .p, []⟩
def T_laws_szIntSS : FSig := ⟨H_laws_szIntSS.ps, H_laws_szIntSS.cs, H_laws_szIntSS.io, H_laws_szIntSS.im, H_laws_szIntSS.R, H_laws_szIntSS.m, laws_szIntSS⟩
theorem E_laws_szIntSS : fnOf tys [(28, T_laws_szIntS)] Tryz.f47 H_laws_szIntSS = T_laws_szIntSS := by kernel_rfl
theorem K_laws_szIntSS : SigOk Tryz.prog 47 T_laws_szIntSS := (congrArg (SigOk Tryz.prog 47) E_laws_szIntSS).mp (fnOf_ok rfl tysOk ⟨K_laws_szIntS, trivial⟩ Tryz.func47 (by decide) rfl (fun _ h => by cases h) (nilEq_of (by kernel_rfl)))
def laws_szStepS (x : ((List D_Step) × (Int × Unit))) (c : Unit) : (Option (Int × Unit)) :=
  (if (ltZ (subZ .i64 x.2.1 (lenI x.1)) 0) = true then (some ((-1), ())) else (some ((subZ .i64 x.2.1 (lenI x.1)), ())))
def H_laws_szStepS : Hd := ⟨[.sl 185 (.st [.int .i64, .int .i64]), .int .i64], [], none, .p, .int .i64, .p, []⟩
def T_laws_szStepS : FSig := ⟨H_laws_szStepS.ps, H_laws_szStepS.cs, H_laws_szStepS.io, H_laws_szStepS.im, H_laws_szStepS.R, H_laws_szStepS.m, laws_szStepS⟩
theorem E_laws_szStepS : fnOf tys [] Tryz.f121 H_laws_szStepS = T_laws_szStepS := by kernel_rfl
theorem K_laws_szStepS : SigOk Tryz.prog 121 T_laws_szStepS := (congrArg (SigOk Tryz.prog 121) E_laws_szStepS).mp (fnOf_ok rfl tysOk trivial Tryz.func121 (by decide) rfl (fun _ h => by cases h) (nilEq_of (by kernel_rfl)))
def laws_szResource (x : (D_Resource × (Int × Unit))) (c : Unit) : (Option (Int × Unit)) :=
  (Option.bind ((Option.bind (laws_szStepS (x.1.1, (x.2.1, ())) ()) fun v0 => (some v0.1)) : (Option Int)) fun v1 => (if (ltZ v1 0) = true then (some ((-1), ())) else (Option.bind ((Option.bind (laws_szIntSS (x.1.2.1, (v1, ())) ()) fun v2 => (some v2.1)) : (Option Int)) fun v3 => (if (ltZ v3 0) = true then (some ((-1), ())) else (some (v3, ()))))))
def H_laws_szResource : Hd := ⟨[.st [.sl 185 (.st [.int .i64, .int .i64]), .sl 25 (.sl 3 (.int .i64))], .int .i64], [], none, .p, .int .i64, .p, []⟩
def T_laws_szResource : FSig := ⟨H_laws_szResource.ps, H_laws_szResource.cs, H_laws_szResource.io, H_laws_szResource.im, H_laws_szResource.R, H_laws_szResource.m, laws_szResource⟩
theorem E_laws_szResource : fnOf tys [(47, T_laws_szIntSS), (121, T_laws_szStepS)] Tryz.f68 H_laws_szResource = T_laws_szResource := by kernel_rfl
theorem K_laws_szResource : SigOk Tryz.prog 68 T_laws_szResource := (congrArg (SigOk Tryz.prog 68) E_laws_szResource).mp (fnOf_ok rfl tysOk ⟨K_laws_szIntSS, K_laws_szStepS, trivial⟩ Tryz.func68 (by decide) rfl (fun _ h => by cases h) (nilEq_of (by kernel_rfl)))
def laws_szResourceS_L0 : (Int × ((List D_Resource) × (Int × Unit))) → Option (Out (Int × ((List D_Resource) × (Int × Unit))) ((Bool × (Int × ((List D_Resource) × (Int × Unit)))) ⊕ Empty) (Int × Unit)) :=
  (fun v0 => (if (ltZ v0.1 (lenI v0.2.1)) = true then (Option.bind (getI v0.2.1 v0.1) fun v1 => (Option.bind ((Option.bind (laws_szResource (v1, (v0.2.2.1, ())) ()) fun v2 => (some v2.1)) : (Option Int)) fun v3 => (if (ltZ v3 0) = true then (some (Out.ret ((-1), ()))) else (some (Out.norm ((addZ .i64 v0.1 1), (v0.2.1, (v3, ())))))))) else (some (Out.exit (Sum.inl ((ltZ v0.1 (lenI v0.2.1)), (v0.1, (v0.2.1, (v0.2.2.1, ())))))))))
def laws_szResourceS (x : ((List D_Resource) × (Int × Unit))) (c : Unit) : (Option (Int × Unit)) :=
  (if (ltZ (subZ .i64 x.2.1 (lenI x.1)) 0) = true then (some ((-1), ())) else (Option.bind (loopN (A := (Int × ((List D_Resource) × (Int × Unit)))) big laws_szResourceS_L0 (0, (x.1, ((subZ .i64 x.2.1 (lenI x.1)), ())))) fun v4 => (match v4 with | Out.norm v5 => none | Out.exit v6 => (match ((match v6 with | Sum.inl v9 => (Sum.inl (v9.2.2.2.1, ())) | Sum.inr v10 => (Empty.elim v10)) : ((Int × Unit) ⊕ Empty)) with | Sum.inl v7 => (some (v7.1, ())) | Sum.inr v8 => none) | Out.ret v11 => (some v11))))
def H_laws_szResourceS : Hd := ⟨[.sl 107 (.st [.sl 185 (.st [.int .i64, .int .i64]), .sl 25 (.sl 3 (.int .i64))]), .int .i64], [], none, .p, .int .i64, .p, []⟩
def T_laws_szResourceS : FSig := ⟨H_laws_szResourceS.ps, H_laws_szResourceS.cs, H_laws_szResourceS.io, H_laws_szResourceS.im, H_laws_szResourceS.R, H_laws_szResourceS.m, laws_szResourceS⟩
theorem E_laws_szResourceS : fnOf tys [(68, T_laws_szResource)] Tryz.f27 H_laws_szResourceS = T_laws_szResourceS := by kernel_rfl
theorem K_laws_szResourceS : SigOk Tryz.prog 27 T_laws_szResourceS := (congrArg (SigOk Tryz.prog 27) E_laws_szResourceS).mp (fnOf_ok rfl tysOk ⟨K_laws_szResource, trivial⟩ Tryz.func27 (by decide) rfl (fun _ h => by cases h) (nilEq_of (by kernel_rfl)))
def laws_szProject (x : (D_Project × (Int × Unit))) (c : Unit) : (Option (Int × Unit)) :=
  (Option.bind ((Option.bind (laws_szActivityS (x.1.2.1, (x.2.1, ())) ()) fun v0 => (some v0.1)) : (Option Int)) fun v1 => (if (ltZ v1 0) = true then (some ((-1), ())) else (Option.bind ((Option.bind (laws_szLinkS (x.1.2.2.1, (v1, ())) ()) fun v2 => (some v2.1)) : (Option Int)) fun v3 => (if (ltZ v3 0) = true then (some ((-1), ())) else (Option.bind ((Option.bind (laws_szResourceS (x.1.2.2.2.1, (v3, ())) ()) fun v4 => (some v4.1)) : (Option Int)) fun v5 => (if (ltZ v5 0) = true then (some ((-1), ())) else (Option.bind ((Option.bind (laws_szIntS (x.1.2.2.2.2.1, (v5, ())) ()) fun v6 => (some v6.1)) : (Option Int)) fun v7 => (if (ltZ v7 0) = true then (some ((-1), ())) else (some (v7, ()))))))))))
def H_laws_szProject : Hd := ⟨[.st [.int .i64, .sl 103 (.st [.str, .int .i64, .sl 176 (.st [.int .i64, .sl 3 (.int .i64), .sl 3 (.int .i64)])]), .sl 123 (.st [.int .i64, .int .i64, .bool, .int .i64]), .sl 107 (.st [.sl 185 (.st [.int .i64, .int .i64]), .sl 25 (.sl 3 (.int .i64))]), .sl 3 (.int .i64)], .int .i64], [], none, .p, .int .i64, .p, []⟩
def T_laws_szProject : FSig := ⟨H_laws_szProject.ps, H_laws_szProject.cs, H_laws_szProject.io, H_laws_szProject.im, H_laws_szProject.R, H_laws_szProject.m, laws_szProject⟩
theorem E_laws_szProject : fnOf tys [(25, T_laws_szActivityS), (26, T_laws_szLinkS), (27, T_laws_szResourceS), (28, T_laws_szIntS)] Tryz.f5 H_laws_szProject = T_laws_szProject := by kernel_rfl
theorem K_laws_szProject : SigOk Tryz.prog 5 T_laws_szProject := (congrArg (SigOk Tryz.prog 5) E_laws_szProject).mp (fnOf_ok rfl tysOk ⟨K_laws_szActivityS, K_laws_szLinkS, K_laws_szResourceS, K_laws_szIntS, trivial⟩ Tryz.func5 (by decide) rfl (fun _ h => by cases h) (nilEq_of (by kernel_rfl)))
def spec_l01In (x : D_Literal) (c : Unit) : (Option (Bool × Unit)) :=
  (Option.bind ((if (leZ x.2.1 x.1) = true then (some ((leZ x.1 x.2.2.1), ())) else (some (false, ()))) : (Option (Bool × Unit))) fun v0 => (some (v0.1, ())))
def H_spec_l01In : Hd := ⟨[.int .i64, .int .i64, .int .i64], [], none, .p, .bool, .p, []⟩
def T_spec_l01In : FSig := ⟨H_spec_l01In.ps, H_spec_l01In.cs, H_spec_l01In.io, H_spec_l01In.im, H_spec_l01In.R, H_spec_l01In.m, spec_l01In⟩
theorem E_spec_l01In : fnOf tys [] Tryz.f70 H_spec_l01In = T_spec_l01In := by kernel_rfl
theorem K_spec_l01In : SigOk Tryz.prog 70 T_spec_l01In := (congrArg (SigOk Tryz.prog 70) E_spec_l01In).mp (fnOf_ok rfl tysOk trivial Tryz.func70 (by decide) rfl (fun _ h => by cases h) (nilEq_of (by kernel_rfl)))
def spec_l04Nums_L0 : (Int × (Int × ((List Int) × ((List Int) × (Int × Unit))))) → Option (Out (Int × (Int × ((List Int) × ((List Int) × (Int × Unit))))) ((Bool × (Int × (Int × ((List Int) × ((List Int) × (Int × Unit)))))) ⊕ Empty) (Bool × Unit)) :=
  (fun v0 => (if (ltZ v0.1 v0.2.1) = true then (Option.bind (getI v0.2.2.1 v0.1) fun v1 => (Option.bind ((Option.bind (spec_l01In (v1, (0, (20, ()))) ()) fun v2 => (some v2.1)) : (Option Bool)) fun v3 => (if (notB v3) = true then (some (Out.ret (false, ()))) else (some (Out.norm ((addZ .i64 v0.1 1), (v0.2.1, (v0.2.2.1, (v0.2.2.2.1, (v0.2.2.2.2.1, ())))))))))) else (some (Out.exit (Sum.inl ((ltZ v0.1 v0.2.1), (v0.1, (v0.2.1, (v0.2.2.1, (v0.2.2.2.1, (v0.2.2.2.2.1, ())))))))))))
def spec_l04Nums (x : ((List Int) × (Int × Unit))) (c : Unit) : (Option (Bool × Unit)) :=
  (Option.bind (loopN (A := (Int × (Int × ((List Int) × ((List Int) × (Int × Unit)))))) big spec_l04Nums_L0 (0, ((lenI x.1), (x.1, (x.1, (x.2.1, ())))))) fun v4 => (match v4 with | Out.norm v5 => none | Out.exit v6 => (match ((match v6 with | Sum.inl v9 => (Sum.inl (v9.2.2.2.2.1, (v9.2.2.2.2.2.1, ()))) | Sum.inr v10 => (Empty.elim v10)) : (((List Int) × (Int × Unit)) ⊕ Empty)) with | Sum.inl v7 => (some ((eqZ (lenI v7.1) v7.2.1), ())) | Sum.inr v8 => none) | Out.ret v11 => (some v11)))
def H_spec_l04Nums : Hd := ⟨[.sl 3 (.int .i64), .int .i64], [], none, .p, .bool, .p, []⟩
def T_spec_l04Nums : FSig := ⟨H_spec_l04Nums.ps, H_spec_l04Nums.cs, H_spec_l04Nums.io, H_spec_l04Nums.im, H_spec_l04Nums.R, H_spec_l04Nums.m, spec_l04Nums⟩
theorem E_spec_l04Nums : fnOf tys [(70, T_spec_l01In)] Tryz.f178 H_spec_l04Nums = T_spec_l04Nums := by kernel_rfl
theorem K_spec_l04Nums : SigOk Tryz.prog 178 T_spec_l04Nums := (congrArg (SigOk Tryz.prog 178) E_spec_l04Nums).mp (fnOf_ok rfl tysOk ⟨K_spec_l01In, trivial⟩ Tryz.func178 (by decide) rfl (fun _ h => by cases h) (nilEq_of (by kernel_rfl)))
def spec_ModeOk (x : (D_Mode × D_Step)) (c : Unit) : (Option (Bool × Unit)) :=
  (Option.bind ((Option.bind (spec_l01In (x.1.1, (1, (12, ()))) ()) fun v0 => (some v0.1)) : (Option Bool)) fun v1 => (Option.bind ((if v1 = true then (Option.bind ((Option.bind (spec_l04Nums (x.1.2.1, (x.2.1, ())) ()) fun v2 => (some v2.1)) : (Option Bool)) fun v3 => (Option.bind ((if v3 = true then (Option.bind ((Option.bind (spec_l04Nums (x.1.2.2.1, (x.2.2.1, ())) ()) fun v4 => (some v4.1)) : (Option Bool)) fun v5 => (some (v5, ()))) else (some (false, ()))) : (Option (Bool × Unit))) fun v6 => (some (v6.1, ())))) else (some (false, ()))) : (Option (Bool × Unit))) fun v7 => (some (v7.1, ()))))
def H_spec_ModeOk : Hd := ⟨[.st [.int .i64, .sl 3 (.int .i64), .sl 3 (.int .i64)], .int .i64, .int .i64], [], none, .p, .bool, .p, []⟩
def T_spec_ModeOk : FSig := ⟨H_spec_ModeOk.ps, H_spec_ModeOk.cs, H_spec_ModeOk.io, H_spec_ModeOk.im, H_spec_ModeOk.R, H_spec_ModeOk.m, spec_ModeOk⟩
theorem E_spec_ModeOk : fnOf tys [(70, T_spec_l01In), (178, T_spec_l04Nums)] Tryz.f152 H_spec_ModeOk = T_spec_ModeOk := by kernel_rfl
theorem K_spec_ModeOk : SigOk Tryz.prog 152 T_spec_ModeOk := (congrArg (SigOk Tryz.prog 152) E_spec_ModeOk).mp (fnOf_ok rfl tysOk ⟨K_spec_l01In, K_spec_l04Nums, trivial⟩ Tryz.func152 (by decide) rfl (fun _ h => by cases h) (nilEq_of (by kernel_rfl)))
def spec_IsName_L0 : (Int × ((List UInt8) × Unit)) → Option (Out (Int × ((List UInt8) × Unit)) ((Bool × (Int × ((List UInt8) × Unit))) ⊕ Empty) (Bool × Unit)) :=
  (fun v0 => (if (ltZ v0.1 (lenI v0.2.1)) = true then (Option.bind (byteAt v0.2.1 v0.1) fun v1 => (Option.bind ((if (leZ 97 v1) = true then (Option.bind (byteAt v0.2.1 v0.1) fun v2 => (some ((leZ v2 122), (v0.1, (v0.2.1, ()))))) else (some (false, (v0.1, (v0.2.1, ()))))) : (Option (Bool × (Int × ((List UInt8) × Unit))))) fun v3 => (Option.bind ((if (notB v3.1) = true then (Option.bind ((if (eqZ v3.2.1 0) = true then (some (true, (v3.2.1, (v3.2.2.1, ())))) else (Option.bind (byteAt v3.2.2.1 v3.2.1) fun v4 => (Option.bind ((if (ltZ v4 48) = true then (some (true, (v3.2.1, (v3.2.2.1, ())))) else (Option.bind (byteAt v3.2.2.1 v3.2.1) fun v5 => (some ((ltZ 57 v5), (v3.2.1, (v3.2.2.1, ())))))) : (Option (Bool × (Int × ((List UInt8) × Unit))))) fun v6 => (some (v6.1, (v6.2.1, (v6.2.2.1, ()))))))) : (Option (Bool × (Int × ((List UInt8) × Unit))))) fun v7 => (some (v7.1, (v7.2.1, (v7.2.2.1, ()))))) else (some (false, (v3.2.1, (v3.2.2.1, ()))))) : (Option (Bool × (Int × ((List UInt8) × Unit))))) fun v8 => (if v8.1 = true then (some (Out.ret (false, ()))) else (some (Out.norm ((addZ .i64 v8.2.1 1), (v8.2.2.1, ())))))))) else (some (Out.exit (Sum.inl ((ltZ v0.1 (lenI v0.2.1)), (v0.1, (v0.2.1, ()))))))))
def spec_IsName (x : ((List UInt8) × Unit)) (c : Unit) : (Option (Bool × Unit)) :=
  (Option.bind (loopN (A := (Int × ((List UInt8) × Unit))) big spec_IsName_L0 (0, (x.1, ()))) fun v9 => (match v9 with | Out.norm v10 => none | Out.exit v11 => (match ((match v11 with | Sum.inl v16 => (Sum.inl (v16.2.2.1, ())) | Sum.inr v17 => (Empty.elim v17)) : (((List UInt8) × Unit) ⊕ Empty)) with | Sum.inl v12 => (Option.bind ((Option.bind (spec_l01In ((lenI v12.1), (1, (8, ()))) ()) fun v13 => (some v13.1)) : (Option Bool)) fun v14 => (some (v14, ()))) | Sum.inr v15 => none) | Out.ret v18 => (some v18)))
def H_spec_IsName : Hd := ⟨[.str], [], none, .p, .bool, .p, []⟩
def T_spec_IsName : FSig := ⟨H_spec_IsName.ps, H_spec_IsName.cs, H_spec_IsName.io, H_spec_IsName.im, H_spec_IsName.R, H_spec_IsName.m, spec_IsName⟩
theorem E_spec_IsName : fnOf tys [(70, T_spec_l01In)] Tryz.f153 H_spec_IsName = T_spec_IsName := by kernel_rfl
theorem K_spec_IsName : SigOk Tryz.prog 153 T_spec_IsName := (congrArg (SigOk Tryz.prog 153) E_spec_IsName).mp (fnOf_ok rfl tysOk ⟨K_spec_l01In, trivial⟩ Tryz.func153 (by decide) rfl (fun _ h => by cases h) (nilEq_of (by kernel_rfl)))
def spec_ActivityOk_L0 : (Int × (Int × ((List D_Mode) × (Int × (Int × (D_Activity × Unit)))))) → Option (Out (Int × (Int × ((List D_Mode) × (Int × (Int × (D_Activity × Unit)))))) ((Bool × (Int × (Int × ((List D_Mode) × (Int × (Int × (D_Activity × Unit))))))) ⊕ Empty) (Bool × Unit)) :=
  (fun v0 => (if (ltZ v0.1 v0.2.1) = true then (Option.bind (getI v0.2.2.1 v0.1) fun v1 => (Option.bind ((Option.bind (spec_ModeOk (v1, (v0.2.2.2.1, (v0.2.2.2.2.1, ()))) ()) fun v2 => (some v2.1)) : (Option Bool)) fun v3 => (if (notB v3) = true then (some (Out.ret (false, ()))) else (some (Out.norm ((addZ .i64 v0.1 1), (v0.2.1, (v0.2.2.1, (v0.2.2.2.1, (v0.2.2.2.2.1, (v0.2.2.2.2.2.1, ()))))))))))) else (some (Out.exit (Sum.inl ((ltZ v0.1 v0.2.1), (v0.1, (v0.2.1, (v0.2.2.1, (v0.2.2.2.1, (v0.2.2.2.2.1, (v0.2.2.2.2.2.1, ()))))))))))))
def spec_ActivityOk (x : (D_Activity × D_Step)) (c : Unit) : (Option (Bool × Unit)) :=
  (Option.bind (loopN (A := (Int × (Int × ((List D_Mode) × (Int × (Int × (D_Activity × Unit))))))) big spec_ActivityOk_L0 (0, ((lenI x.1.2.2.1), (x.1.2.2.1, (x.2.1, (x.2.2.1, (x.1, ()))))))) fun v4 => (match v4 with | Out.norm v5 => none | Out.exit v6 => (match ((match v6 with | Sum.inl v17 => (Sum.inl (v17.2.2.2.2.2.2.1, ())) | Sum.inr v18 => (Empty.elim v18)) : ((D_Activity × Unit) ⊕ Empty)) with | Sum.inl v7 => (Option.bind ((Option.bind (spec_IsName (v7.1.1, ()) ()) fun v8 => (some v8.1)) : (Option Bool)) fun v9 => (Option.bind ((if v9 = true then (Option.bind ((Option.bind (spec_l01In (v7.1.2.1, (0, (3, ()))) ()) fun v10 => (some v10.1)) : (Option Bool)) fun v11 => (Option.bind ((if v11 = true then (Option.bind ((Option.bind (spec_l01In ((lenI v7.1.2.2.1), (1, (3, ()))) ()) fun v12 => (some v12.1)) : (Option Bool)) fun v13 => (some (v13, ()))) else (some (false, ()))) : (Option (Bool × Unit))) fun v14 => (some (v14.1, ())))) else (some (false, ()))) : (Option (Bool × Unit))) fun v15 => (some (v15.1, ())))) | Sum.inr v16 => none) | Out.ret v19 => (some v19)))
def H_spec_ActivityOk : Hd := ⟨[.st [.str, .int .i64, .sl 159 (.st [.int .i64, .sl 3 (.int .i64), .sl 3 (.int .i64)])], .int .i64, .int .i64], [], none, .p, .bool, .p, []⟩
def T_spec_ActivityOk : FSig := ⟨H_spec_ActivityOk.ps, H_spec_ActivityOk.cs, H_spec_ActivityOk.io, H_spec_ActivityOk.im, H_spec_ActivityOk.R, H_spec_ActivityOk.m, spec_ActivityOk⟩
theorem E_spec_ActivityOk : fnOf tys [(70, T_spec_l01In), (152, T_spec_ModeOk), (153, T_spec_IsName)] Tryz.f122 H_spec_ActivityOk = T_spec_ActivityOk := by kernel_rfl
theorem K_spec_ActivityOk : SigOk Tryz.prog 122 T_spec_ActivityOk := (congrArg (SigOk Tryz.prog 122) E_spec_ActivityOk).mp (fnOf_ok rfl tysOk ⟨K_spec_l01In, K_spec_ModeOk, K_spec_IsName, trivial⟩ Tryz.func122 (by decide) rfl (fun _ h => by cases h) (nilEq_of (by kernel_rfl)))
def spec_ActivityIndex_L0 : (Int × (Int × ((List D_Activity) × ((List UInt8) × Unit)))) → Option (Out (Int × (Int × ((List D_Activity) × ((List UInt8) × Unit)))) ((Bool × (Int × (Int × ((List D_Activity) × ((List UInt8) × Unit))))) ⊕ Empty) (Int × Unit)) :=
  (fun v0 => (if (ltZ v0.1 v0.2.1) = true then (Option.bind (getI v0.2.2.1 v0.1) fun v1 => (if (eqS v1.1 v0.2.2.2.1) = true then (some (Out.ret (v0.1, ()))) else (some (Out.norm ((addZ .i64 v0.1 1), (v0.2.1, (v0.2.2.1, (v0.2.2.2.1, ())))))))) else (some (Out.exit (Sum.inl ((ltZ v0.1 v0.2.1), (v0.1, (v0.2.1, (v0.2.2.1, (v0.2.2.2.1, ()))))))))))
def spec_ActivityIndex (x : (D_Project × ((List UInt8) × Unit))) (c : Unit) : (Option (Int × Unit)) :=
  (Option.bind (loopN (A := (Int × (Int × ((List D_Activity) × ((List UInt8) × Unit))))) big spec_ActivityIndex_L0 (0, ((lenI x.1.2.1), (x.1.2.1, (x.2.1, ()))))) fun v2 => (match v2 with | Out.norm v3 => none | Out.exit v4 => (match ((match v4 with | Sum.inl v7 => (Sum.inl ()) | Sum.inr v8 => (Empty.elim v8)) : (Unit ⊕ Empty)) with | Sum.inl v5 => (some ((-1), ())) | Sum.inr v6 => none) | Out.ret v9 => (some v9)))
def H_spec_ActivityIndex : Hd := ⟨[.st [.int .i64, .sl 118 (.st [.str, .int .i64, .sl 159 (.st [.int .i64, .sl 3 (.int .i64), .sl 3 (.int .i64)])]), .sl 121 (.st [.int .i64, .int .i64, .bool, .int .i64]), .sl 126 (.st [.sl 170 (.st [.int .i64, .int .i64]), .sl 25 (.sl 3 (.int .i64))]), .sl 3 (.int .i64)], .str], [], none, .p, .int .i64, .p, []⟩
def T_spec_ActivityIndex : FSig := ⟨H_spec_ActivityIndex.ps, H_spec_ActivityIndex.cs, H_spec_ActivityIndex.io, H_spec_ActivityIndex.im, H_spec_ActivityIndex.R, H_spec_ActivityIndex.m, spec_ActivityIndex⟩
theorem E_spec_ActivityIndex : fnOf tys [] Tryz.f123 H_spec_ActivityIndex = T_spec_ActivityIndex := by kernel_rfl
theorem K_spec_ActivityIndex : SigOk Tryz.prog 123 T_spec_ActivityIndex := (congrArg (SigOk Tryz.prog 123) E_spec_ActivityIndex).mp (fnOf_ok rfl tysOk trivial Tryz.func123 (by decide) rfl (fun _ h => by cases h) (nilEq_of (by kernel_rfl)))
def spec_StepsOk_L0 : (Int × (Int × ((List D_Step) × ((List D_Step) × Unit)))) → Option (Out (Int × (Int × ((List D_Step) × ((List D_Step) × Unit)))) ((Bool × (Int × (Int × ((List D_Step) × ((List D_Step) × Unit))))) ⊕ Empty) (Bool × Unit)) :=
  (fun v0 => (if (ltZ v0.1 v0.2.1) = true then (Option.bind (getI v0.2.2.1 v0.1) fun v1 => (Option.bind ((Option.bind (spec_l01In (v1.1, (0, (60, ()))) ()) fun v2 => (some v2.1)) : (Option Bool)) fun v3 => (Option.bind ((if (notB v3) = true then (some (true, (v0.1, (v0.2.1, (v0.2.2.1, (v0.2.2.2.1, ())))))) else (Option.bind ((Option.bind (spec_l01In (v1.2.1, (0, (20, ()))) ()) fun v4 => (some v4.1)) : (Option Bool)) fun v5 => (Option.bind ((if (notB v5) = true then (some (true, (v0.1, (v0.2.1, (v0.2.2.1, (v0.2.2.2.1, ())))))) else (Option.bind ((if (ltZ 0 v0.1) = true then (Option.bind (getI v0.2.2.2.1 (subZ .i64 v0.1 1)) fun v6 => (some ((leZ v1.1 v6.1), (v0.1, (v0.2.1, (v0.2.2.1, (v0.2.2.2.1, ()))))))) else (some (false, (v0.1, (v0.2.1, (v0.2.2.1, (v0.2.2.2.1, ()))))))) : (Option (Bool × (Int × (Int × ((List D_Step) × ((List D_Step) × Unit))))))) fun v7 => (some (v7.1, (v7.2.1, (v7.2.2.1, (v7.2.2.2.1, (v7.2.2.2.2.1, ())))))))) : (Option (Bool × (Int × (Int × ((List D_Step) × ((List D_Step) × Unit))))))) fun v8 => (some (v8.1, (v8.2.1, (v8.2.2.1, (v8.2.2.2.1, (v8.2.2.2.2.1, ()))))))))) : (Option (Bool × (Int × (Int × ((List D_Step) × ((List D_Step) × Unit))))))) fun v9 => (if v9.1 = true then (some (Out.ret (false, ()))) else (some (Out.norm ((addZ .i64 v9.2.1 1), (v9.2.2.1, (v9.2.2.2.1, (v9.2.2.2.2.1, ())))))))))) else (some (Out.exit (Sum.inl ((ltZ v0.1 v0.2.1), (v0.1, (v0.2.1, (v0.2.2.1, (v0.2.2.2.1, ()))))))))))
def spec_StepsOk (x : ((List D_Step) × Unit)) (c : Unit) : (Option (Bool × Unit)) :=
  (Option.bind (loopN (A := (Int × (Int × ((List D_Step) × ((List D_Step) × Unit))))) big spec_StepsOk_L0 (0, ((lenI x.1), (x.1, (x.1, ()))))) fun v10 => (match v10 with | Out.norm v11 => none | Out.exit v12 => (match ((match v12 with | Sum.inl v19 => (Sum.inl (v19.2.2.2.2.1, ())) | Sum.inr v20 => (Empty.elim v20)) : (((List D_Step) × Unit) ⊕ Empty)) with | Sum.inl v13 => (Option.bind ((Option.bind (spec_l01In ((lenI v13.1), (1, (8, ()))) ()) fun v14 => (some v14.1)) : (Option Bool)) fun v15 => (Option.bind ((if v15 = true then (Option.bind (getI v13.1 0) fun v16 => (some ((eqZ v16.1 0), ()))) else (some (false, ()))) : (Option (Bool × Unit))) fun v17 => (some (v17.1, ())))) | Sum.inr v18 => none) | Out.ret v21 => (some v21)))
def H_spec_StepsOk : Hd := ⟨[.sl 170 (.st [.int .i64, .int .i64])], [], none, .p, .bool, .p, []⟩
def T_spec_StepsOk : FSig := ⟨H_spec_StepsOk.ps, H_spec_StepsOk.cs, H_spec_StepsOk.io, H_spec_StepsOk.im, H_spec_StepsOk.R, H_spec_StepsOk.m, spec_StepsOk⟩
theorem E_spec_StepsOk : fnOf tys [(70, T_spec_l01In)] Tryz.f154 H_spec_StepsOk = T_spec_StepsOk := by kernel_rfl
theorem K_spec_StepsOk : SigOk Tryz.prog 154 T_spec_StepsOk := (congrArg (SigOk Tryz.prog 154) E_spec_StepsOk).mp (fnOf_ok rfl tysOk ⟨K_spec_l01In, trivial⟩ Tryz.func154 (by decide) rfl (fun _ h => by cases h) (nilEq_of (by kernel_rfl)))
def spec_ResourceOk_L0 : (Int × (Int × ((List Int) × (Int × (Int × ((List (List Int)) × (D_Resource × Unit))))))) → Option (Out (Int × (Int × ((List Int) × (Int × (Int × ((List (List Int)) × (D_Resource × Unit))))))) ((Bool × (Int × (Int × ((List Int) × (Int × (Int × ((List (List Int)) × (D_Resource × Unit)))))))) ⊕ Empty) (Bool × Unit)) :=
  (fun v2 => (if (ltZ v2.1 v2.2.1) = true then (Option.bind (getI v2.2.2.1 v2.1) fun v3 => (Option.bind ((Option.bind (spec_l01In (v3, (0, (12, ()))) ()) fun v4 => (some v4.1)) : (Option Bool)) fun v5 => (if (notB v5) = true then (some (Out.ret (false, ()))) else (some (Out.norm ((addZ .i64 v2.1 1), (v2.2.1, (v2.2.2.1, (v2.2.2.2.1, (v2.2.2.2.2.1, (v2.2.2.2.2.2.1, (v2.2.2.2.2.2.2.1, ())))))))))))) else (some (Out.exit (Sum.inl ((ltZ v2.1 v2.2.1), (v2.1, (v2.2.1, (v2.2.2.1, (v2.2.2.2.1, (v2.2.2.2.2.1, (v2.2.2.2.2.2.1, (v2.2.2.2.2.2.2.1, ())))))))))))))
def spec_ResourceOk_L1 : (Int × (Int × ((List (List Int)) × (D_Resource × Unit)))) → Option (Out (Int × (Int × ((List (List Int)) × (D_Resource × Unit)))) ((Bool × (Int × (Int × ((List (List Int)) × (D_Resource × Unit))))) ⊕ Empty) (Bool × Unit)) :=
  (fun v0 => (if (ltZ v0.1 v0.2.1) = true then (Option.bind (getI v0.2.2.1 v0.1) fun v1 => (if (notB (eqZ (lenI v1) 4)) = true then (some (Out.ret (false, ()))) else (Option.bind (loopN (A := (Int × (Int × ((List Int) × (Int × (Int × ((List (List Int)) × (D_Resource × Unit)))))))) big spec_ResourceOk_L0 (0, ((lenI v1), (v1, (v0.1, (v0.2.1, (v0.2.2.1, (v0.2.2.2.1, ())))))))) fun v6 => (match v6 with | Out.norm v7 => none | Out.exit v8 => (match ((match v8 with | Sum.inl v13 => (Sum.inl (v13.2.2.2.2.1, (v13.2.2.2.2.2.1, (v13.2.2.2.2.2.2.1, (v13.2.2.2.2.2.2.2.1, ()))))) | Sum.inr v14 => (Empty.elim v14)) : ((Int × (Int × ((List (List Int)) × (D_Resource × Unit)))) ⊕ Empty)) with | Sum.inl v9 => (some (Out.norm ((addZ .i64 v9.1 1), (v9.2.1, (v9.2.2.1, (v9.2.2.2.1, ())))))) | Sum.inr v10 => (match ((Empty.elim v10) : ((Int × (Int × ((List (List Int)) × (D_Resource × Unit)))) ⊕ Empty)) with | Sum.inl v11 => (some (Out.norm ((addZ .i64 v11.1 1), (v11.2.1, (v11.2.2.1, (v11.2.2.2.1, ())))))) | Sum.inr v12 => (some (Out.exit (Sum.inr (Empty.elim v12)))))) | Out.ret v15 => (some (Out.ret v15)))))) else (some (Out.exit (Sum.inl ((ltZ v0.1 v0.2.1), (v0.1, (v0.2.1, (v0.2.2.1, (v0.2.2.2.1, ()))))))))))
def spec_ResourceOk (x : (D_Resource × Unit)) (c : Unit) : (Option (Bool × Unit)) :=
  (Option.bind (loopN (A := (Int × (Int × ((List (List Int)) × (D_Resource × Unit))))) big spec_ResourceOk_L1 (0, ((lenI x.1.2.1), (x.1.2.1, (x.1, ()))))) fun v16 => (match v16 with | Out.norm v17 => none | Out.exit v18 => (match ((match v18 with | Sum.inl v25 => (Sum.inl (v25.2.2.2.2.1, ())) | Sum.inr v26 => (Empty.elim v26)) : ((D_Resource × Unit) ⊕ Empty)) with | Sum.inl v19 => (Option.bind ((Option.bind (spec_StepsOk (v19.1.1, ()) ()) fun v20 => (some v20.1)) : (Option Bool)) fun v21 => (Option.bind ((if v21 = true then (Option.bind ((if (eqZ (lenI v19.1.2.1) 0) = true then (some (true, ())) else (some ((eqZ (lenI v19.1.2.1) 4), ()))) : (Option (Bool × Unit))) fun v22 => (some (v22.1, ()))) else (some (false, ()))) : (Option (Bool × Unit))) fun v23 => (some (v23.1, ())))) | Sum.inr v24 => none) | Out.ret v27 => (some v27)))
def H_spec_ResourceOk : Hd := ⟨[.st [.sl 170 (.st [.int .i64, .int .i64]), .sl 25 (.sl 3 (.int .i64))]], [], none, .p, .bool, .p, []⟩
def T_spec_ResourceOk : FSig := ⟨H_spec_ResourceOk.ps, H_spec_ResourceOk.cs, H_spec_ResourceOk.io, H_spec_ResourceOk.im, H_spec_ResourceOk.R, H_spec_ResourceOk.m, spec_ResourceOk⟩
theorem E_spec_ResourceOk : fnOf tys [(70, T_spec_l01In), (154, T_spec_StepsOk)] Tryz.f124 H_spec_ResourceOk = T_spec_ResourceOk := by kernel_rfl
theorem K_spec_ResourceOk : SigOk Tryz.prog 124 T_spec_ResourceOk := (congrArg (SigOk Tryz.prog 124) E_spec_ResourceOk).mp (fnOf_ok rfl tysOk ⟨K_spec_l01In, K_spec_StepsOk, trivial⟩ Tryz.func124 (by decide) rfl (fun _ h => by cases h) (nilEq_of (by kernel_rfl)))
def spec_ProjectOk_L0 : (Int × (Int × ((List D_Activity) × (D_Project × (Int × Unit))))) → Option (Out (Int × (Int × ((List D_Activity) × (D_Project × (Int × Unit))))) ((Bool × (Int × (Int × ((List D_Activity) × (D_Project × (Int × Unit)))))) ⊕ Empty) (Bool × Unit)) :=
  (fun v8 => (if (ltZ v8.1 v8.2.1) = true then (Option.bind (getI v8.2.2.1 v8.1) fun v9 => (Option.bind ((Option.bind (spec_ActivityOk (v9, ((lenI v8.2.2.2.1.2.2.2.1), ((lenI v8.2.2.2.1.2.2.2.2.1), ()))) ()) fun v10 => (some v10.1)) : (Option Bool)) fun v11 => (Option.bind ((if (notB v11) = true then (some (true, (v8.1, (v8.2.1, (v8.2.2.1, (v8.2.2.2.1, (v8.2.2.2.2.1, ()))))))) else (Option.bind ((Option.bind (spec_ActivityIndex (v8.2.2.2.1, (v9.1, ())) ()) fun v12 => (some v12.1)) : (Option Int)) fun v13 => (some ((notB (eqZ v13 v8.1)), (v8.1, (v8.2.1, (v8.2.2.1, (v8.2.2.2.1, (v8.2.2.2.2.1, ()))))))))) : (Option (Bool × (Int × (Int × ((List D_Activity) × (D_Project × (Int × Unit)))))))) fun v14 => (if v14.1 = true then (some (Out.ret (false, ()))) else (some (Out.norm ((addZ .i64 v14.2.1 1), (v14.2.2.1, (v14.2.2.2.1, (v14.2.2.2.2.1, (v14.2.2.2.2.2.1, ()))))))))))) else (some (Out.exit (Sum.inl ((ltZ v8.1 v8.2.1), (v8.1, (v8.2.1, (v8.2.2.1, (v8.2.2.2.1, (v8.2.2.2.2.1, ())))))))))))
def spec_ProjectOk_L1 : (Int × (Int × ((List D_Resource) × (D_Project × (Int × Unit))))) → Option (Out (Int × (Int × ((List D_Resource) × (D_Project × (Int × Unit))))) ((Bool × (Int × (Int × ((List D_Resource) × (D_Project × (Int × Unit)))))) ⊕ Empty) (Bool × Unit)) :=
  (fun v19 => (if (ltZ v19.1 v19.2.1) = true then (Option.bind (getI v19.2.2.1 v19.1) fun v20 => (Option.bind ((Option.bind (spec_ResourceOk (v20, ()) ()) fun v21 => (some v21.1)) : (Option Bool)) fun v22 => (if (notB v22) = true then (some (Out.ret (false, ()))) else (some (Out.norm ((addZ .i64 v19.1 1), (v19.2.1, (v19.2.2.1, (v19.2.2.2.1, (v19.2.2.2.2.1, ())))))))))) else (some (Out.exit (Sum.inl ((ltZ v19.1 v19.2.1), (v19.1, (v19.2.1, (v19.2.2.1, (v19.2.2.2.1, (v19.2.2.2.2.1, ())))))))))))
def spec_ProjectOk_L2 : (Int × (Int × ((List Int) × (D_Project × (Int × Unit))))) → Option (Out (Int × (Int × ((List Int) × (D_Project × (Int × Unit))))) ((Bool × (Int × (Int × ((List Int) × (D_Project × (Int × Unit)))))) ⊕ Empty) (Bool × Unit)) :=
  (fun v27 => (if (ltZ v27.1 v27.2.1) = true then (Option.bind (getI v27.2.2.1 v27.1) fun v28 => (Option.bind ((Option.bind (spec_l01In (v28, (0, (100, ()))) ()) fun v29 => (some v29.1)) : (Option Bool)) fun v30 => (if (notB v30) = true then (some (Out.ret (false, ()))) else (some (Out.norm ((addZ .i64 v27.1 1), (v27.2.1, (v27.2.2.1, (v27.2.2.2.1, (v27.2.2.2.2.1, ())))))))))) else (some (Out.exit (Sum.inl ((ltZ v27.1 v27.2.1), (v27.1, (v27.2.1, (v27.2.2.1, (v27.2.2.2.1, (v27.2.2.2.2.1, ())))))))))))
def spec_ProjectOk_L3 : (Int × (Int × ((List D_Link) × (Int × Unit)))) → Option (Out (Int × (Int × ((List D_Link) × (Int × Unit)))) ((Bool × (Int × (Int × ((List D_Link) × (Int × Unit))))) ⊕ Empty) (Bool × Unit)) :=
  (fun v35 => (if (ltZ v35.1 v35.2.1) = true then (Option.bind (getI v35.2.2.1 v35.1) fun v36 => (Option.bind ((Option.bind (spec_l01In (v36.1, (0, ((subZ .i64 v35.2.2.2.1 1), ()))) ()) fun v37 => (some v37.1)) : (Option Bool)) fun v38 => (Option.bind ((if (notB v38) = true then (some (true, (v35.1, (v35.2.1, (v35.2.2.1, (v35.2.2.2.1, ())))))) else (Option.bind ((Option.bind (spec_l01In (v36.2.1, (0, ((subZ .i64 v35.2.2.2.1 1), ()))) ()) fun v39 => (some v39.1)) : (Option Bool)) fun v40 => (Option.bind ((if (notB v40) = true then (some (true, (v35.1, (v35.2.1, (v35.2.2.1, (v35.2.2.2.1, ())))))) else (Option.bind ((if (eqZ v36.1 v36.2.1) = true then (some (true, (v35.1, (v35.2.1, (v35.2.2.1, (v35.2.2.2.1, ())))))) else (Option.bind ((Option.bind (spec_l01In (v36.2.2.2.1, ((-60), (60, ()))) ()) fun v41 => (some v41.1)) : (Option Bool)) fun v42 => (some ((notB v42), (v35.1, (v35.2.1, (v35.2.2.1, (v35.2.2.2.1, ())))))))) : (Option (Bool × (Int × (Int × ((List D_Link) × (Int × Unit))))))) fun v43 => (some (v43.1, (v43.2.1, (v43.2.2.1, (v43.2.2.2.1, (v43.2.2.2.2.1, ())))))))) : (Option (Bool × (Int × (Int × ((List D_Link) × (Int × Unit))))))) fun v44 => (some (v44.1, (v44.2.1, (v44.2.2.1, (v44.2.2.2.1, (v44.2.2.2.2.1, ()))))))))) : (Option (Bool × (Int × (Int × ((List D_Link) × (Int × Unit))))))) fun v45 => (if v45.1 = true then (some (Out.ret (false, ()))) else (some (Out.norm ((addZ .i64 v45.2.1 1), (v45.2.2.1, (v45.2.2.2.1, (v45.2.2.2.2.1, ())))))))))) else (some (Out.exit (Sum.inl ((ltZ v35.1 v35.2.1), (v35.1, (v35.2.1, (v35.2.2.1, (v35.2.2.2.1, ()))))))))))
def spec_ProjectOk (x : (D_Project × Unit)) (c : Unit) : (Option (Bool × Unit)) :=
  (Option.bind ((Option.bind (spec_l01In (x.1.1, (1, (60, ()))) ()) fun v0 => (some v0.1)) : (Option Bool)) fun v1 => (Option.bind ((if (notB v1) = true then (some (true, (x.1, ((lenI x.1.2.1), ())))) else (Option.bind ((Option.bind (spec_l01In ((lenI x.1.2.1), (1, (6, ()))) ()) fun v2 => (some v2.1)) : (Option Bool)) fun v3 => (Option.bind ((if (notB v3) = true then (some (true, (x.1, ((lenI x.1.2.1), ())))) else (Option.bind ((if (ltZ 3 (lenI x.1.2.2.2.1)) = true then (some (true, (x.1, ((lenI x.1.2.1), ())))) else (Option.bind ((if (ltZ 2 (lenI x.1.2.2.2.2.1)) = true then (some (true, (x.1, ((lenI x.1.2.1), ())))) else (some ((ltZ 12 (lenI x.1.2.2.1)), (x.1, ((lenI x.1.2.1), ()))))) : (Option (Bool × (D_Project × (Int × Unit))))) fun v4 => (some (v4.1, (v4.2.1, (v4.2.2.1, ())))))) : (Option (Bool × (D_Project × (Int × Unit))))) fun v5 => (some (v5.1, (v5.2.1, (v5.2.2.1, ())))))) : (Option (Bool × (D_Project × (Int × Unit))))) fun v6 => (some (v6.1, (v6.2.1, (v6.2.2.1, ()))))))) : (Option (Bool × (D_Project × (Int × Unit))))) fun v7 => (if v7.1 = true then (some (false, ())) else (Option.bind (loopN (A := (Int × (Int × ((List D_Activity) × (D_Project × (Int × Unit)))))) big spec_ProjectOk_L0 (0, ((lenI v7.2.1.2.1), (v7.2.1.2.1, (v7.2.1, (v7.2.2.1, ())))))) fun v15 => (match v15 with | Out.norm v16 => none | Out.exit v17 => (match ((match v17 with | Sum.inl v63 => (Sum.inl (v63.2.2.2.2.1, (v63.2.2.2.2.2.1, ()))) | Sum.inr v64 => (Empty.elim v64)) : ((D_Project × (Int × Unit)) ⊕ Empty)) with | Sum.inl v18 => (Option.bind (loopN (A := (Int × (Int × ((List D_Resource) × (D_Project × (Int × Unit)))))) big spec_ProjectOk_L1 (0, ((lenI v18.1.2.2.2.1), (v18.1.2.2.2.1, (v18.1, (v18.2.1, ())))))) fun v23 => (match v23 with | Out.norm v24 => none | Out.exit v25 => (match ((match v25 with | Sum.inl v59 => (Sum.inl (v59.2.2.2.2.1, (v59.2.2.2.2.2.1, ()))) | Sum.inr v60 => (Empty.elim v60)) : ((D_Project × (Int × Unit)) ⊕ Empty)) with | Sum.inl v26 => (Option.bind (loopN (A := (Int × (Int × ((List Int) × (D_Project × (Int × Unit)))))) big spec_ProjectOk_L2 (0, ((lenI v26.1.2.2.2.2.1), (v26.1.2.2.2.2.1, (v26.1, (v26.2.1, ())))))) fun v31 => (match v31 with | Out.norm v32 => none | Out.exit v33 => (match ((match v33 with | Sum.inl v55 => (Sum.inl (v55.2.2.2.2.1, (v55.2.2.2.2.2.1, ()))) | Sum.inr v56 => (Empty.elim v56)) : ((D_Project × (Int × Unit)) ⊕ Empty)) with | Sum.inl v34 => (Option.bind (loopN (A := (Int × (Int × ((List D_Link) × (Int × Unit))))) big spec_ProjectOk_L3 (0, ((lenI v34.1.2.2.1), (v34.1.2.2.1, (v34.2.1, ()))))) fun v46 => (match v46 with | Out.norm v47 => none | Out.exit v48 => (match ((match v48 with | Sum.inl v51 => (Sum.inl ()) | Sum.inr v52 => (Empty.elim v52)) : (Unit ⊕ Empty)) with | Sum.inl v49 => (some (true, ())) | Sum.inr v50 => none) | Out.ret v53 => (some v53))) | Sum.inr v54 => none) | Out.ret v57 => (some v57))) | Sum.inr v58 => none) | Out.ret v61 => (some v61))) | Sum.inr v62 => none) | Out.ret v65 => (some v65))))))
def H_spec_ProjectOk : Hd := ⟨[.st [.int .i64, .sl 118 (.st [.str, .int .i64, .sl 159 (.st [.int .i64, .sl 3 (.int .i64), .sl 3 (.int .i64)])]), .sl 121 (.st [.int .i64, .int .i64, .bool, .int .i64]), .sl 126 (.st [.sl 170 (.st [.int .i64, .int .i64]), .sl 25 (.sl 3 (.int .i64))]), .sl 3 (.int .i64)]], [], none, .p, .bool, .p, []⟩
def T_spec_ProjectOk : FSig := ⟨H_spec_ProjectOk.ps, H_spec_ProjectOk.cs, H_spec_ProjectOk.io, H_spec_ProjectOk.im, H_spec_ProjectOk.R, H_spec_ProjectOk.m, spec_ProjectOk⟩
theorem E_spec_ProjectOk : fnOf tys [(70, T_spec_l01In), (122, T_spec_ActivityOk), (123, T_spec_ActivityIndex), (124, T_spec_ResourceOk)] Tryz.f69 H_spec_ProjectOk = T_spec_ProjectOk := by kernel_rfl
theorem K_spec_ProjectOk : SigOk Tryz.prog 69 T_spec_ProjectOk := (congrArg (SigOk Tryz.prog 69) E_spec_ProjectOk).mp (fnOf_ok rfl tysOk ⟨K_spec_l01In, K_spec_ActivityOk, K_spec_ActivityIndex, K_spec_ResourceOk, trivial⟩ Tryz.func69 (by decide) rfl (fun _ h => by cases h) (nilEq_of (by kernel_rfl)))
def spec_l02Max (x : D_Step) (c : Unit) : (Option (Int × Unit)) :=
  (if (ltZ x.2.1 x.1) = true then (some (x.1, ())) else (some (x.2.1, ())))
def H_spec_l02Max : Hd := ⟨[.int .i64, .int .i64], [], none, .p, .int .i64, .p, []⟩
def T_spec_l02Max : FSig := ⟨H_spec_l02Max.ps, H_spec_l02Max.cs, H_spec_l02Max.io, H_spec_l02Max.im, H_spec_l02Max.R, H_spec_l02Max.m, spec_l02Max⟩
theorem E_spec_l02Max : fnOf tys [] Tryz.f77 H_spec_l02Max = T_spec_l02Max := by kernel_rfl
theorem K_spec_l02Max : SigOk Tryz.prog 77 T_spec_l02Max := (congrArg (SigOk Tryz.prog 77) E_spec_l02Max).mp (fnOf_ok rfl tysOk trivial Tryz.func77 (by decide) rfl (fun _ h => by cases h) (nilEq_of (by kernel_rfl)))
def laws_toIntS_L0 : D_Mode → Option (Out D_Mode ((Bool × D_Mode) ⊕ Empty) ((List Int) × Unit)) :=
  (fun v1 => (if (ltZ v1.1 (lenI v1.2.1)) = true then (Option.bind (getI v1.2.1 v1.1) fun v2 => (Option.bind ((Option.bind (getI v1.2.2.1 v1.1) fun v3 => (some ())) : (Option Unit)) fun v4 => (Option.bind ((Option.bind ((Option.bind (getI v1.2.2.1 v1.1) fun v5 => (some v5)) : (Option Int)) fun v6 => (some v2)) : (Option Int)) fun v7 => (some (Out.norm ((addZ .i64 v1.1 1), (v1.2.1, ((setI v1.2.2.1 v1.1 (fun v8 => v7)), ())))))))) else (some (Out.exit (Sum.inl ((ltZ v1.1 (lenI v1.2.1)), (v1.1, (v1.2.1, (v1.2.2.1, ())))))))))
def laws_toIntS (x : ((List Int) × Unit)) (c : Unit) : (Option ((List Int) × Unit)) :=
  (Option.bind ((if (eqZ (lenI x.1) (lenI x.1)) = true then (zerosI (lenI x.1) 0) else none) : (Option (List Int))) fun v0 => (Option.bind (loopN (A := D_Mode) big laws_toIntS_L0 (0, (x.1, (v0, ())))) fun v9 => (match v9 with | Out.norm v10 => none | Out.exit v11 => (match ((match v11 with | Sum.inl v14 => (Sum.inl (v14.2.2.2.1, ())) | Sum.inr v15 => (Empty.elim v15)) : (((List Int) × Unit) ⊕ Empty)) with | Sum.inl v12 => (some (v12.1, ())) | Sum.inr v13 => none) | Out.ret v16 => (some v16))))
def H_laws_toIntS : Hd := ⟨[.sl 3 (.int .i64)], [], none, .p, .sl 3 (.int .i64), (Ty.all (.sl 3 (.int .i64))), []⟩
def T_laws_toIntS : FSig := ⟨H_laws_toIntS.ps, H_laws_toIntS.cs, H_laws_toIntS.io, H_laws_toIntS.im, H_laws_toIntS.R, H_laws_toIntS.m, laws_toIntS⟩
theorem E_laws_toIntS : fnOf tys [] Tryz.f34 H_laws_toIntS = T_laws_toIntS := by kernel_rfl
theorem K_laws_toIntS : SigOk Tryz.prog 34 T_laws_toIntS := (congrArg (SigOk Tryz.prog 34) E_laws_toIntS).mp (fnOf_ok rfl tysOk trivial Tryz.func34 (by decide) rfl (fun _ h => by cases h) (nilEq_of (by kernel_rfl)))
def laws_toMode (x : (D_Mode × Unit)) (c : Unit) : (Option (D_Mode × Unit)) :=
  (Option.bind ((Option.bind (laws_toIntS (x.1.2.1, ()) ()) fun v0 => (some v0.1)) : (Option (List Int))) fun v1 => (Option.bind ((Option.bind (laws_toIntS (x.1.2.2.1, ()) ()) fun v2 => (some v2.1)) : (Option (List Int))) fun v3 => (some ((x.1.1, (v1, (v3, ()))), ()))))
def H_laws_toMode : Hd := ⟨[.st [.int .i64, .sl 3 (.int .i64), .sl 3 (.int .i64)]], [], none, .p, .st [.int .i64, .sl 3 (.int .i64), .sl 3 (.int .i64)], (Ty.all (.st [.int .i64, .sl 3 (.int .i64), .sl 3 (.int .i64)])), []⟩
def T_laws_toMode : FSig := ⟨H_laws_toMode.ps, H_laws_toMode.cs, H_laws_toMode.io, H_laws_toMode.im, H_laws_toMode.R, H_laws_toMode.m, laws_toMode⟩
theorem E_laws_toMode : fnOf tys [(34, T_laws_toIntS)] Tryz.f161 H_laws_toMode = T_laws_toMode := by kernel_rfl
theorem K_laws_toMode : SigOk Tryz.prog 161 T_laws_toMode := (congrArg (SigOk Tryz.prog 161) E_laws_toMode).mp (fnOf_ok rfl tysOk ⟨K_laws_toIntS, trivial⟩ Tryz.func161 (by decide) rfl (fun _ h => by cases h) (nilEq_of (by kernel_rfl)))
def laws_toModeS_L0 : (Int × ((List D_Mode) × ((List D_Mode) × Unit))) → Option (Out (Int × ((List D_Mode) × ((List D_Mode) × Unit))) ((Bool × (Int × ((List D_Mode) × ((List D_Mode) × Unit)))) ⊕ Empty) ((List D_Mode) × Unit)) :=
  (fun v1 => (if (ltZ v1.1 (lenI v1.2.1)) = true then (Option.bind (getI v1.2.1 v1.1) fun v2 => (Option.bind ((Option.bind (laws_toMode (v2, ()) ()) fun v3 => (some v3.1)) : (Option D_Mode)) fun v4 => (Option.bind ((Option.bind (getI v1.2.2.1 v1.1) fun v5 => (some ())) : (Option Unit)) fun v6 => (Option.bind ((Option.bind ((Option.bind (getI v1.2.2.1 v1.1) fun v7 => (some v7)) : (Option D_Mode)) fun v8 => (some v4)) : (Option D_Mode)) fun v9 => (some (Out.norm ((addZ .i64 v1.1 1), (v1.2.1, ((setI v1.2.2.1 v1.1 (fun v10 => v9)), ()))))))))) else (some (Out.exit (Sum.inl ((ltZ v1.1 (lenI v1.2.1)), (v1.1, (v1.2.1, (v1.2.2.1, ())))))))))
def laws_toModeS (x : ((List D_Mode) × Unit)) (c : Unit) : (Option ((List D_Mode) × Unit)) :=
  (Option.bind ((if (eqZ (lenI x.1) (lenI x.1)) = true then (zerosI (lenI x.1) (0, ([], ([], ())))) else none) : (Option (List D_Mode))) fun v0 => (Option.bind (loopN (A := (Int × ((List D_Mode) × ((List D_Mode) × Unit)))) big laws_toModeS_L0 (0, (x.1, (v0, ())))) fun v11 => (match v11 with | Out.norm v12 => none | Out.exit v13 => (match ((match v13 with | Sum.inl v16 => (Sum.inl (v16.2.2.2.1, ())) | Sum.inr v17 => (Empty.elim v17)) : (((List D_Mode) × Unit) ⊕ Empty)) with | Sum.inl v14 => (some (v14.1, ())) | Sum.inr v15 => none) | Out.ret v18 => (some v18))))
def H_laws_toModeS : Hd := ⟨[.sl 176 (.st [.int .i64, .sl 3 (.int .i64), .sl 3 (.int .i64)])], [], none, .p, .sl 159 (.st [.int .i64, .sl 3 (.int .i64), .sl 3 (.int .i64)]), (Ty.all (.sl 159 (.st [.int .i64, .sl 3 (.int .i64), .sl 3 (.int .i64)]))), []⟩
def T_laws_toModeS : FSig := ⟨H_laws_toModeS.ps, H_laws_toModeS.cs, H_laws_toModeS.io, H_laws_toModeS.im, H_laws_toModeS.R, H_laws_toModeS.m, laws_toModeS⟩
theorem E_laws_toModeS : fnOf tys [(161, T_laws_toMode)] Tryz.f128 H_laws_toModeS = T_laws_toModeS := by kernel_rfl
theorem K_laws_toModeS : SigOk Tryz.prog 128 T_laws_toModeS := (congrArg (SigOk Tryz.prog 128) E_laws_toModeS).mp (fnOf_ok rfl tysOk ⟨K_laws_toMode, trivial⟩ Tryz.func128 (by decide) rfl (fun _ h => by cases h) (nilEq_of (by kernel_rfl)))
def laws_toActivity (x : (D_Activity × Unit)) (c : Unit) : (Option (D_Activity × Unit)) :=
  (Option.bind ((Option.bind (laws_toModeS (x.1.2.2.1, ()) ()) fun v0 => (some v0.1)) : (Option (List D_Mode))) fun v1 => (some ((x.1.1, (x.1.2.1, (v1, ()))), ())))
def H_laws_toActivity : Hd := ⟨[.st [.str, .int .i64, .sl 176 (.st [.int .i64, .sl 3 (.int .i64), .sl 3 (.int .i64)])]], [], none, .p, .st [.str, .int .i64, .sl 159 (.st [.int .i64, .sl 3 (.int .i64), .sl 3 (.int .i64)])], (Ty.all (.st [.str, .int .i64, .sl 159 (.st [.int .i64, .sl 3 (.int .i64), .sl 3 (.int .i64)])])), []⟩
def T_laws_toActivity : FSig := ⟨H_laws_toActivity.ps, H_laws_toActivity.cs, H_laws_toActivity.io, H_laws_toActivity.im, H_laws_toActivity.R, H_laws_toActivity.m, laws_toActivity⟩
theorem E_laws_toActivity : fnOf tys [(128, T_laws_toModeS)] Tryz.f79 H_laws_toActivity = T_laws_toActivity := by kernel_rfl
theorem K_laws_toActivity : SigOk Tryz.prog 79 T_laws_toActivity := (congrArg (SigOk Tryz.prog 79) E_laws_toActivity).mp (fnOf_ok rfl tysOk ⟨K_laws_toModeS, trivial⟩ Tryz.func79 (by decide) rfl (fun _ h => by cases h) (nilEq_of (by kernel_rfl)))
def laws_toActivityS_L0 : (Int × ((List D_Activity) × ((List D_Activity) × Unit))) → Option (Out (Int × ((List D_Activity) × ((List D_Activity) × Unit))) ((Bool × (Int × ((List D_Activity) × ((List D_Activity) × Unit)))) ⊕ Empty) ((List D_Activity) × Unit)) :=
  (fun v1 => (if (ltZ v1.1 (lenI v1.2.1)) = true then (Option.bind (getI v1.2.1 v1.1) fun v2 => (Option.bind ((Option.bind (laws_toActivity (v2, ()) ()) fun v3 => (some v3.1)) : (Option D_Activity)) fun v4 => (Option.bind ((Option.bind (getI v1.2.2.1 v1.1) fun v5 => (some ())) : (Option Unit)) fun v6 => (Option.bind ((Option.bind ((Option.bind (getI v1.2.2.1 v1.1) fun v7 => (some v7)) : (Option D_Activity)) fun v8 => (some v4)) : (Option D_Activity)) fun v9 => (some (Out.norm ((addZ .i64 v1.1 1), (v1.2.1, ((setI v1.2.2.1 v1.1 (fun v10 => v9)), ()))))))))) else (some (Out.exit (Sum.inl ((ltZ v1.1 (lenI v1.2.1)), (v1.1, (v1.2.1, (v1.2.2.1, ())))))))))
def laws_toActivityS (x : ((List D_Activity) × Unit)) (c : Unit) : (Option ((List D_Activity) × Unit)) :=
  (Option.bind ((if (eqZ (lenI x.1) (lenI x.1)) = true then (zerosI (lenI x.1) ([], (0, ([], ())))) else none) : (Option (List D_Activity))) fun v0 => (Option.bind (loopN (A := (Int × ((List D_Activity) × ((List D_Activity) × Unit)))) big laws_toActivityS_L0 (0, (x.1, (v0, ())))) fun v11 => (match v11 with | Out.norm v12 => none | Out.exit v13 => (match ((match v13 with | Sum.inl v16 => (Sum.inl (v16.2.2.2.1, ())) | Sum.inr v17 => (Empty.elim v17)) : (((List D_Activity) × Unit) ⊕ Empty)) with | Sum.inl v14 => (some (v14.1, ())) | Sum.inr v15 => none) | Out.ret v18 => (some v18))))
def H_laws_toActivityS : Hd := ⟨[.sl 103 (.st [.str, .int .i64, .sl 176 (.st [.int .i64, .sl 3 (.int .i64), .sl 3 (.int .i64)])])], [], none, .p, .sl 118 (.st [.str, .int .i64, .sl 159 (.st [.int .i64, .sl 3 (.int .i64), .sl 3 (.int .i64)])]), (Ty.all (.sl 118 (.st [.str, .int .i64, .sl 159 (.st [.int .i64, .sl 3 (.int .i64), .sl 3 (.int .i64)])]))), []⟩
def T_laws_toActivityS : FSig := ⟨H_laws_toActivityS.ps, H_laws_toActivityS.cs, H_laws_toActivityS.io, H_laws_toActivityS.im, H_laws_toActivityS.R, H_laws_toActivityS.m, laws_toActivityS⟩
theorem E_laws_toActivityS : fnOf tys [(79, T_laws_toActivity)] Tryz.f31 H_laws_toActivityS = T_laws_toActivityS := by kernel_rfl
theorem K_laws_toActivityS : SigOk Tryz.prog 31 T_laws_toActivityS := (congrArg (SigOk Tryz.prog 31) E_laws_toActivityS).mp (fnOf_ok rfl tysOk ⟨K_laws_toActivity, trivial⟩ Tryz.func31 (by decide) rfl (fun _ h => by cases h) (nilEq_of (by kernel_rfl)))
def laws_toLink (x : (D_Link × Unit)) (c : Unit) : (Option (D_Link × Unit)) :=
  (some ((x.1.1, (x.1.2.1, (x.1.2.2.1, (x.1.2.2.2.1, ())))), ()))
def H_laws_toLink : Hd := ⟨[.st [.int .i64, .int .i64, .bool, .int .i64]], [], none, .p, .st [.int .i64, .int .i64, .bool, .int .i64], .p, []⟩
def T_laws_toLink : FSig := ⟨H_laws_toLink.ps, H_laws_toLink.cs, H_laws_toLink.io, H_laws_toLink.im, H_laws_toLink.R, H_laws_toLink.m, laws_toLink⟩
theorem E_laws_toLink : fnOf tys [] Tryz.f80 H_laws_toLink = T_laws_toLink := by kernel_rfl
theorem K_laws_toLink : SigOk Tryz.prog 80 T_laws_toLink := (congrArg (SigOk Tryz.prog 80) E_laws_toLink).mp (fnOf_ok rfl tysOk trivial Tryz.func80 (by decide) rfl (fun _ h => by cases h) (nilEq_of (by kernel_rfl)))
def laws_toLinkS_L0 : (Int × ((List D_Link) × ((List D_Link) × Unit))) → Option (Out (Int × ((List D_Link) × ((List D_Link) × Unit))) ((Bool × (Int × ((List D_Link) × ((List D_Link) × Unit)))) ⊕ Empty) ((List D_Link) × Unit)) :=
  (fun v1 => (if (ltZ v1.1 (lenI v1.2.1)) = true then (Option.bind (getI v1.2.1 v1.1) fun v2 => (Option.bind ((Option.bind (laws_toLink (v2, ()) ()) fun v3 => (some v3.1)) : (Option D_Link)) fun v4 => (Option.bind ((Option.bind (getI v1.2.2.1 v1.1) fun v5 => (some ())) : (Option Unit)) fun v6 => (Option.bind ((Option.bind ((Option.bind (getI v1.2.2.1 v1.1) fun v7 => (some v7)) : (Option D_Link)) fun v8 => (some v4)) : (Option D_Link)) fun v9 => (some (Out.norm ((addZ .i64 v1.1 1), (v1.2.1, ((setI v1.2.2.1 v1.1 (fun v10 => v9)), ()))))))))) else (some (Out.exit (Sum.inl ((ltZ v1.1 (lenI v1.2.1)), (v1.1, (v1.2.1, (v1.2.2.1, ())))))))))
def laws_toLinkS (x : ((List D_Link) × Unit)) (c : Unit) : (Option ((List D_Link) × Unit)) :=
  (Option.bind ((if (eqZ (lenI x.1) (lenI x.1)) = true then (zerosI (lenI x.1) (0, (0, (false, (0, ()))))) else none) : (Option (List D_Link))) fun v0 => (Option.bind (loopN (A := (Int × ((List D_Link) × ((List D_Link) × Unit)))) big laws_toLinkS_L0 (0, (x.1, (v0, ())))) fun v11 => (match v11 with | Out.norm v12 => none | Out.exit v13 => (match ((match v13 with | Sum.inl v16 => (Sum.inl (v16.2.2.2.1, ())) | Sum.inr v17 => (Empty.elim v17)) : (((List D_Link) × Unit) ⊕ Empty)) with | Sum.inl v14 => (some (v14.1, ())) | Sum.inr v15 => none) | Out.ret v18 => (some v18))))
def H_laws_toLinkS : Hd := ⟨[.sl 123 (.st [.int .i64, .int .i64, .bool, .int .i64])], [], none, .p, .sl 121 (.st [.int .i64, .int .i64, .bool, .int .i64]), (Ty.all (.sl 121 (.st [.int .i64, .int .i64, .bool, .int .i64]))), []⟩
def T_laws_toLinkS : FSig := ⟨H_laws_toLinkS.ps, H_laws_toLinkS.cs, H_laws_toLinkS.io, H_laws_toLinkS.im, H_laws_toLinkS.R, H_laws_toLinkS.m, laws_toLinkS⟩
theorem E_laws_toLinkS : fnOf tys [(80, T_laws_toLink)] Tryz.f32 H_laws_toLinkS = T_laws_toLinkS := by kernel_rfl
theorem K_laws_toLinkS : SigOk Tryz.prog 32 T_laws_toLinkS := (congrArg (SigOk Tryz.prog 32) E_laws_toLinkS).mp (fnOf_ok rfl tysOk ⟨K_laws_toLink, trivial⟩ Tryz.func32 (by decide) rfl (fun _ h => by cases h) (nilEq_of (by kernel_rfl)))
def laws_toIntSS_L0 : (Int × ((List (List Int)) × ((List (List Int)) × Unit))) → Option (Out (Int × ((List (List Int)) × ((List (List Int)) × Unit))) ((Bool × (Int × ((List (List Int)) × ((List (List Int)) × Unit)))) ⊕ Empty) ((List (List Int)) × Unit)) :=
  (fun v1 => (if (ltZ v1.1 (lenI v1.2.1)) = true then (Option.bind (getI v1.2.1 v1.1) fun v2 => (Option.bind ((Option.bind (laws_toIntS (v2, ()) ()) fun v3 => (some v3.1)) : (Option (List Int))) fun v4 => (Option.bind ((Option.bind (getI v1.2.2.1 v1.1) fun v5 => (some ())) : (Option Unit)) fun v6 => (Option.bind ((Option.bind ((Option.bind (getI v1.2.2.1 v1.1) fun v7 => (some v7)) : (Option (List Int))) fun v8 => (some v4)) : (Option (List Int))) fun v9 => (some (Out.norm ((addZ .i64 v1.1 1), (v1.2.1, ((setI v1.2.2.1 v1.1 (fun v10 => v9)), ()))))))))) else (some (Out.exit (Sum.inl ((ltZ v1.1 (lenI v1.2.1)), (v1.1, (v1.2.1, (v1.2.2.1, ())))))))))
def laws_toIntSS (x : ((List (List Int)) × Unit)) (c : Unit) : (Option ((List (List Int)) × Unit)) :=
  (Option.bind ((if (eqZ (lenI x.1) (lenI x.1)) = true then (zerosI (lenI x.1) []) else none) : (Option (List (List Int)))) fun v0 => (Option.bind (loopN (A := (Int × ((List (List Int)) × ((List (List Int)) × Unit)))) big laws_toIntSS_L0 (0, (x.1, (v0, ())))) fun v11 => (match v11 with | Out.norm v12 => none | Out.exit v13 => (match ((match v13 with | Sum.inl v16 => (Sum.inl (v16.2.2.2.1, ())) | Sum.inr v17 => (Empty.elim v17)) : (((List (List Int)) × Unit) ⊕ Empty)) with | Sum.inl v14 => (some (v14.1, ())) | Sum.inr v15 => none) | Out.ret v18 => (some v18))))
def H_laws_toIntSS : Hd := ⟨[.sl 25 (.sl 3 (.int .i64))], [], none, .p, .sl 25 (.sl 3 (.int .i64)), (Ty.all (.sl 25 (.sl 3 (.int .i64)))), []⟩
def T_laws_toIntSS : FSig := ⟨H_laws_toIntSS.ps, H_laws_toIntSS.cs, H_laws_toIntSS.io, H_laws_toIntSS.im, H_laws_toIntSS.R, H_laws_toIntSS.m, laws_toIntSS⟩
theorem E_laws_toIntSS : fnOf tys [(34, T_laws_toIntS)] Tryz.f54 H_laws_toIntSS = T_laws_toIntSS := by kernel_rfl
theorem K_laws_toIntSS : SigOk Tryz.prog 54 T_laws_toIntSS := (congrArg (SigOk Tryz.prog 54) E_laws_toIntSS).mp (fnOf_ok rfl tysOk ⟨K_laws_toIntS, trivial⟩ Tryz.func54 (by decide) rfl (fun _ h => by cases h) (nilEq_of (by kernel_rfl)))
def laws_toStep (x : (D_Step × Unit)) (c : Unit) : (Option (D_Step × Unit)) :=
  (some ((x.1.1, (x.1.2.1, ())), ()))
def H_laws_toStep : Hd := ⟨[.st [.int .i64, .int .i64]], [], none, .p, .st [.int .i64, .int .i64], .p, []⟩
def T_laws_toStep : FSig := ⟨H_laws_toStep.ps, H_laws_toStep.cs, H_laws_toStep.io, H_laws_toStep.im, H_laws_toStep.R, H_laws_toStep.m, laws_toStep⟩
theorem E_laws_toStep : fnOf tys [] Tryz.f162 H_laws_toStep = T_laws_toStep := by kernel_rfl
theorem K_laws_toStep : SigOk Tryz.prog 162 T_laws_toStep := (congrArg (SigOk Tryz.prog 162) E_laws_toStep).mp (fnOf_ok rfl tysOk trivial Tryz.func162 (by decide) rfl (fun _ h => by cases h) (nilEq_of (by kernel_rfl)))
def laws_toStepS_L0 : (Int × ((List D_Step) × ((List D_Step) × Unit))) → Option (Out (Int × ((List D_Step) × ((List D_Step) × Unit))) ((Bool × (Int × ((List D_Step) × ((List D_Step) × Unit)))) ⊕ Empty) ((List D_Step) × Unit)) :=
  (fun v1 => (if (ltZ v1.1 (lenI v1.2.1)) = true then (Option.bind (getI v1.2.1 v1.1) fun v2 => (Option.bind ((Option.bind (laws_toStep (v2, ()) ()) fun v3 => (some v3.1)) : (Option D_Step)) fun v4 => (Option.bind ((Option.bind (getI v1.2.2.1 v1.1) fun v5 => (some ())) : (Option Unit)) fun v6 => (Option.bind ((Option.bind ((Option.bind (getI v1.2.2.1 v1.1) fun v7 => (some v7)) : (Option D_Step)) fun v8 => (some v4)) : (Option D_Step)) fun v9 => (some (Out.norm ((addZ .i64 v1.1 1), (v1.2.1, ((setI v1.2.2.1 v1.1 (fun v10 => v9)), ()))))))))) else (some (Out.exit (Sum.inl ((ltZ v1.1 (lenI v1.2.1)), (v1.1, (v1.2.1, (v1.2.2.1, ())))))))))
def laws_toStepS (x : ((List D_Step) × Unit)) (c : Unit) : (Option ((List D_Step) × Unit)) :=
  (Option.bind ((if (eqZ (lenI x.1) (lenI x.1)) = true then (zerosI (lenI x.1) (0, (0, ()))) else none) : (Option (List D_Step))) fun v0 => (Option.bind (loopN (A := (Int × ((List D_Step) × ((List D_Step) × Unit)))) big laws_toStepS_L0 (0, (x.1, (v0, ())))) fun v11 => (match v11 with | Out.norm v12 => none | Out.exit v13 => (match ((match v13 with | Sum.inl v16 => (Sum.inl (v16.2.2.2.1, ())) | Sum.inr v17 => (Empty.elim v17)) : (((List D_Step) × Unit) ⊕ Empty)) with | Sum.inl v14 => (some (v14.1, ())) | Sum.inr v15 => none) | Out.ret v18 => (some v18))))
def H_laws_toStepS : Hd := ⟨[.sl 185 (.st [.int .i64, .int .i64])], [], none, .p, .sl 170 (.st [.int .i64, .int .i64]), (Ty.all (.sl 170 (.st [.int .i64, .int .i64]))), []⟩
def T_laws_toStepS : FSig := ⟨H_laws_toStepS.ps, H_laws_toStepS.cs, H_laws_toStepS.io, H_laws_toStepS.im, H_laws_toStepS.R, H_laws_toStepS.m, laws_toStepS⟩
theorem E_laws_toStepS : fnOf tys [(162, T_laws_toStep)] Tryz.f129 H_laws_toStepS = T_laws_toStepS := by kernel_rfl
theorem K_laws_toStepS : SigOk Tryz.prog 129 T_laws_toStepS := (congrArg (SigOk Tryz.prog 129) E_laws_toStepS).mp (fnOf_ok rfl tysOk ⟨K_laws_toStep, trivial⟩ Tryz.func129 (by decide) rfl (fun _ h => by cases h) (nilEq_of (by kernel_rfl)))
def laws_toResource (x : (D_Resource × Unit)) (c : Unit) : (Option (D_Resource × Unit)) :=
  (Option.bind ((Option.bind (laws_toStepS (x.1.1, ()) ()) fun v0 => (some v0.1)) : (Option (List D_Step))) fun v1 => (Option.bind ((Option.bind (laws_toIntSS (x.1.2.1, ()) ()) fun v2 => (some v2.1)) : (Option (List (List Int)))) fun v3 => (some ((v1, (v3, ())), ()))))
def H_laws_toResource : Hd := ⟨[.st [.sl 185 (.st [.int .i64, .int .i64]), .sl 25 (.sl 3 (.int .i64))]], [], none, .p, .st [.sl 170 (.st [.int .i64, .int .i64]), .sl 25 (.sl 3 (.int .i64))], (Ty.all (.st [.sl 170 (.st [.int .i64, .int .i64]), .sl 25 (.sl 3 (.int .i64))])), []⟩
def T_laws_toResource : FSig := ⟨H_laws_toResource.ps, H_laws_toResource.cs, H_laws_toResource.io, H_laws_toResource.im, H_laws_toResource.R, H_laws_toResource.m, laws_toResource⟩
theorem E_laws_toResource : fnOf tys [(54, T_laws_toIntSS), (129, T_laws_toStepS)] Tryz.f81 H_laws_toResource = T_laws_toResource := by kernel_rfl
theorem K_laws_toResource : SigOk Tryz.prog 81 T_laws_toResource := (congrArg (SigOk Tryz.prog 81) E_laws_toResource).mp (fnOf_ok rfl tysOk ⟨K_laws_toIntSS, K_laws_toStepS, trivial⟩ Tryz.func81 (by decide) rfl (fun _ h => by cases h) (nilEq_of (by kernel_rfl)))
def laws_toResourceS_L0 : (Int × ((List D_Resource) × ((List D_Resource) × Unit))) → Option (Out (Int × ((List D_Resource) × ((List D_Resource) × Unit))) ((Bool × (Int × ((List D_Resource) × ((List D_Resource) × Unit)))) ⊕ Empty) ((List D_Resource) × Unit)) :=
  (fun v1 => (if (ltZ v1.1 (lenI v1.2.1)) = true then (Option.bind (getI v1.2.1 v1.1) fun v2 => (Option.bind ((Option.bind (laws_toResource (v2, ()) ()) fun v3 => (some v3.1)) : (Option D_Resource)) fun v4 => (Option.bind ((Option.bind (getI v1.2.2.1 v1.1) fun v5 => (some ())) : (Option Unit)) fun v6 => (Option.bind ((Option.bind ((Option.bind (getI v1.2.2.1 v1.1) fun v7 => (some v7)) : (Option D_Resource)) fun v8 => (some v4)) : (Option D_Resource)) fun v9 => (some (Out.norm ((addZ .i64 v1.1 1), (v1.2.1, ((setI v1.2.2.1 v1.1 (fun v10 => v9)), ()))))))))) else (some (Out.exit (Sum.inl ((ltZ v1.1 (lenI v1.2.1)), (v1.1, (v1.2.1, (v1.2.2.1, ())))))))))
def laws_toResourceS (x : ((List D_Resource) × Unit)) (c : Unit) : (Option ((List D_Resource) × Unit)) :=
  (Option.bind ((if (eqZ (lenI x.1) (lenI x.1)) = true then (zerosI (lenI x.1) ([], ([], ()))) else none) : (Option (List D_Resource))) fun v0 => (Option.bind (loopN (A := (Int × ((List D_Resource) × ((List D_Resource) × Unit)))) big laws_toResourceS_L0 (0, (x.1, (v0, ())))) fun v11 => (match v11 with | Out.norm v12 => none | Out.exit v13 => (match ((match v13 with | Sum.inl v16 => (Sum.inl (v16.2.2.2.1, ())) | Sum.inr v17 => (Empty.elim v17)) : (((List D_Resource) × Unit) ⊕ Empty)) with | Sum.inl v14 => (some (v14.1, ())) | Sum.inr v15 => none) | Out.ret v18 => (some v18))))
def H_laws_toResourceS : Hd := ⟨[.sl 107 (.st [.sl 185 (.st [.int .i64, .int .i64]), .sl 25 (.sl 3 (.int .i64))])], [], none, .p, .sl 126 (.st [.sl 170 (.st [.int .i64, .int .i64]), .sl 25 (.sl 3 (.int .i64))]), (Ty.all (.sl 126 (.st [.sl 170 (.st [.int .i64, .int .i64]), .sl 25 (.sl 3 (.int .i64))]))), []⟩
def T_laws_toResourceS : FSig := ⟨H_laws_toResourceS.ps, H_laws_toResourceS.cs, H_laws_toResourceS.io, H_laws_toResourceS.im, H_laws_toResourceS.R, H_laws_toResourceS.m, laws_toResourceS⟩
theorem E_laws_toResourceS : fnOf tys [(81, T_laws_toResource)] Tryz.f33 H_laws_toResourceS = T_laws_toResourceS := by kernel_rfl
theorem K_laws_toResourceS : SigOk Tryz.prog 33 T_laws_toResourceS := (congrArg (SigOk Tryz.prog 33) E_laws_toResourceS).mp (fnOf_ok rfl tysOk ⟨K_laws_toResource, trivial⟩ Tryz.func33 (by decide) rfl (fun _ h => by cases h) (nilEq_of (by kernel_rfl)))
def laws_toProject (x : (D_Project × Unit)) (c : Unit) : (Option (D_Project × Unit)) :=
  (Option.bind ((Option.bind (laws_toActivityS (x.1.2.1, ()) ()) fun v0 => (some v0.1)) : (Option (List D_Activity))) fun v1 => (Option.bind ((Option.bind (laws_toLinkS (x.1.2.2.1, ()) ()) fun v2 => (some v2.1)) : (Option (List D_Link))) fun v3 => (Option.bind ((Option.bind (laws_toResourceS (x.1.2.2.2.1, ()) ()) fun v4 => (some v4.1)) : (Option (List D_Resource))) fun v5 => (Option.bind ((Option.bind (laws_toIntS (x.1.2.2.2.2.1, ()) ()) fun v6 => (some v6.1)) : (Option (List Int))) fun v7 => (some ((x.1.1, (v1, (v3, (v5, (v7, ()))))), ()))))))
def H_laws_toProject : Hd := ⟨[.st [.int .i64, .sl 103 (.st [.str, .int .i64, .sl 176 (.st [.int .i64, .sl 3 (.int .i64), .sl 3 (.int .i64)])]), .sl 123 (.st [.int .i64, .int .i64, .bool, .int .i64]), .sl 107 (.st [.sl 185 (.st [.int .i64, .int .i64]), .sl 25 (.sl 3 (.int .i64))]), .sl 3 (.int .i64)]], [], none, .p, .st [.int .i64, .sl 118 (.st [.str, .int .i64, .sl 159 (.st [.int .i64, .sl 3 (.int .i64), .sl 3 (.int .i64)])]), .sl 121 (.st [.int .i64, .int .i64, .bool, .int .i64]), .sl 126 (.st [.sl 170 (.st [.int .i64, .int .i64]), .sl 25 (.sl 3 (.int .i64))]), .sl 3 (.int .i64)], (Ty.all (.st [.int .i64, .sl 118 (.st [.str, .int .i64, .sl 159 (.st [.int .i64, .sl 3 (.int .i64), .sl 3 (.int .i64)])]), .sl 121 (.st [.int .i64, .int .i64, .bool, .int .i64]), .sl 126 (.st [.sl 170 (.st [.int .i64, .int .i64]), .sl 25 (.sl 3 (.int .i64))]), .sl 3 (.int .i64)])), []⟩
def T_laws_toProject : FSig := ⟨H_laws_toProject.ps, H_laws_toProject.cs, H_laws_toProject.io, H_laws_toProject.im, H_laws_toProject.R, H_laws_toProject.m, laws_toProject⟩
theorem E_laws_toProject : fnOf tys [(31, T_laws_toActivityS), (32, T_laws_toLinkS), (33, T_laws_toResourceS), (34, T_laws_toIntS)] Tryz.f7 H_laws_toProject = T_laws_toProject := by kernel_rfl
theorem K_laws_toProject : SigOk Tryz.prog 7 T_laws_toProject := (congrArg (SigOk Tryz.prog 7) E_laws_toProject).mp (fnOf_ok rfl tysOk ⟨K_laws_toActivityS, K_laws_toLinkS, K_laws_toResourceS, K_laws_toIntS, trivial⟩ Tryz.func7 (by decide) rfl (fun _ h => by cases h) (nilEq_of (by kernel_rfl)))
def impl_within (x : D_Literal) (c : Unit) : (Option (Bool × Unit)) :=
  (Option.bind ((if (leZ x.2.1 x.1) = true then (some ((leZ x.1 x.2.2.1), ())) else (some (false, ()))) : (Option (Bool × Unit))) fun v0 => (some (v0.1, ())))
def H_impl_within : Hd := ⟨[.int .i64, .int .i64, .int .i64], [], none, .p, .bool, .p, []⟩
def T_impl_within : FSig := ⟨H_impl_within.ps, H_impl_within.cs, H_impl_within.io, H_impl_within.im, H_impl_within.R, H_impl_within.m, impl_within⟩
theorem E_impl_within : fnOf tys [] Tryz.f83 H_impl_within = T_impl_within := by kernel_rfl
theorem K_impl_within : SigOk Tryz.prog 83 T_impl_within := (congrArg (SigOk Tryz.prog 83) E_impl_within).mp (fnOf_ok rfl tysOk trivial Tryz.func83 (by decide) rfl (fun _ h => by cases h) (nilEq_of (by kernel_rfl)))
def impl_isAmount (x : (Int × Unit)) (c : Unit) : (Option (Bool × Unit)) :=
  (Option.bind ((Option.bind (impl_within (x.1, (0, (20, ()))) ()) fun v0 => (some v0.1)) : (Option Bool)) fun v1 => (some (v1, ())))
def H_impl_isAmount : Hd := ⟨[.int .i64], [], none, .p, .bool, .p, []⟩
def T_impl_isAmount : FSig := ⟨H_impl_isAmount.ps, H_impl_isAmount.cs, H_impl_isAmount.io, H_impl_isAmount.im, H_impl_isAmount.R, H_impl_isAmount.m, impl_isAmount⟩
theorem E_impl_isAmount : fnOf tys [(83, T_impl_within)] Tryz.f183 H_impl_isAmount = T_impl_isAmount := by kernel_rfl
theorem K_impl_isAmount : SigOk Tryz.prog 183 T_impl_isAmount := (congrArg (SigOk Tryz.prog 183) E_impl_isAmount).mp (fnOf_ok rfl tysOk ⟨K_impl_within, trivial⟩ Tryz.func183 (by decide) rfl (fun _ h => by cases h) (nilEq_of (by kernel_rfl)))
def impl_areAmounts_L0 : (Int × (Int × ((List Int) × ((List Int) × (Int × Unit))))) → Option (Out (Int × (Int × ((List Int) × ((List Int) × (Int × Unit))))) ((Bool × (Int × (Int × ((List Int) × ((List Int) × (Int × Unit)))))) ⊕ Empty) (Bool × Unit)) :=
  (fun v0 => (if (ltZ v0.1 v0.2.1) = true then (Option.bind (getI v0.2.2.1 v0.1) fun v1 => (Option.bind ((Option.bind (impl_isAmount (v1, ()) ()) fun v2 => (some v2.1)) : (Option Bool)) fun v3 => (if (notB v3) = true then (some (Out.ret (false, ()))) else (some (Out.norm ((addZ .i64 v0.1 1), (v0.2.1, (v0.2.2.1, (v0.2.2.2.1, (v0.2.2.2.2.1, ())))))))))) else (some (Out.exit (Sum.inl ((ltZ v0.1 v0.2.1), (v0.1, (v0.2.1, (v0.2.2.1, (v0.2.2.2.1, (v0.2.2.2.2.1, ())))))))))))
def impl_areAmounts (x : ((List Int) × (Int × Unit))) (c : Unit) : (Option (Bool × Unit)) :=
  (Option.bind (loopN (A := (Int × (Int × ((List Int) × ((List Int) × (Int × Unit)))))) big impl_areAmounts_L0 (0, ((lenI x.1), (x.1, (x.1, (x.2.1, ())))))) fun v4 => (match v4 with | Out.norm v5 => none | Out.exit v6 => (match ((match v6 with | Sum.inl v9 => (Sum.inl (v9.2.2.2.2.1, (v9.2.2.2.2.2.1, ()))) | Sum.inr v10 => (Empty.elim v10)) : (((List Int) × (Int × Unit)) ⊕ Empty)) with | Sum.inl v7 => (some ((eqZ (lenI v7.1) v7.2.1), ())) | Sum.inr v8 => none) | Out.ret v11 => (some v11)))
def H_impl_areAmounts : Hd := ⟨[.sl 3 (.int .i64), .int .i64], [], none, .p, .bool, .p, []⟩
def T_impl_areAmounts : FSig := ⟨H_impl_areAmounts.ps, H_impl_areAmounts.cs, H_impl_areAmounts.io, H_impl_areAmounts.im, H_impl_areAmounts.R, H_impl_areAmounts.m, impl_areAmounts⟩
theorem E_impl_areAmounts : fnOf tys [(183, T_impl_isAmount)] Tryz.f182 H_impl_areAmounts = T_impl_areAmounts := by kernel_rfl
theorem K_impl_areAmounts : SigOk Tryz.prog 182 T_impl_areAmounts := (congrArg (SigOk Tryz.prog 182) E_impl_areAmounts).mp (fnOf_ok rfl tysOk ⟨K_impl_isAmount, trivial⟩ Tryz.func182 (by decide) rfl (fun _ h => by cases h) (nilEq_of (by kernel_rfl)))
def impl_ModeOk (x : (D_Mode × D_Step)) (c : Unit) : (Option (Bool × Unit)) :=
  (Option.bind ((Option.bind (impl_within (x.1.1, (1, (12, ()))) ()) fun v0 => (some v0.1)) : (Option Bool)) fun v1 => (Option.bind ((if v1 = true then (Option.bind ((Option.bind (impl_areAmounts (x.1.2.1, (x.2.1, ())) ()) fun v2 => (some v2.1)) : (Option Bool)) fun v3 => (Option.bind ((if v3 = true then (Option.bind ((Option.bind (impl_areAmounts (x.1.2.2.1, (x.2.2.1, ())) ()) fun v4 => (some v4.1)) : (Option Bool)) fun v5 => (some (v5, ()))) else (some (false, ()))) : (Option (Bool × Unit))) fun v6 => (some (v6.1, ())))) else (some (false, ()))) : (Option (Bool × Unit))) fun v7 => (some (v7.1, ()))))
def H_impl_ModeOk : Hd := ⟨[.st [.int .i64, .sl 3 (.int .i64), .sl 3 (.int .i64)], .int .i64, .int .i64], [], none, .p, .bool, .p, []⟩
def T_impl_ModeOk : FSig := ⟨H_impl_ModeOk.ps, H_impl_ModeOk.cs, H_impl_ModeOk.io, H_impl_ModeOk.im, H_impl_ModeOk.R, H_impl_ModeOk.m, impl_ModeOk⟩
theorem E_impl_ModeOk : fnOf tys [(83, T_impl_within), (182, T_impl_areAmounts)] Tryz.f163 H_impl_ModeOk = T_impl_ModeOk := by kernel_rfl
theorem K_impl_ModeOk : SigOk Tryz.prog 163 T_impl_ModeOk := (congrArg (SigOk Tryz.prog 163) E_impl_ModeOk).mp (fnOf_ok rfl tysOk ⟨K_impl_within, K_impl_areAmounts, trivial⟩ Tryz.func163 (by decide) rfl (fun _ h => by cases h) (nilEq_of (by kernel_rfl)))
def impl_IsName_L0 : (Int × (Int × ((List UInt8) × Unit))) → Option (Out (Int × (Int × ((List UInt8) × Unit))) ((Bool × (Int × (Int × ((List UInt8) × Unit)))) ⊕ Empty) (Bool × Unit)) :=
  (fun v0 => (if (ltZ v0.1 v0.2.1) = true then (Option.bind (byteAt v0.2.2.1 v0.1) fun v1 => (Option.bind ((if (leZ 97 v1) = true then (Option.bind (byteAt v0.2.2.1 v0.1) fun v2 => (some ((leZ v2 122), (v0.1, (v0.1, (v0.2.1, (v0.2.2.1, ()))))))) else (some (false, (v0.1, (v0.1, (v0.2.1, (v0.2.2.1, ()))))))) : (Option (Bool × (Int × (Int × (Int × ((List UInt8) × Unit))))))) fun v3 => (Option.bind ((if (notB v3.1) = true then (Option.bind ((if (eqZ v3.2.1 0) = true then (some (true, (v3.2.2.1, (v3.2.2.2.1, (v3.2.2.2.2.1, ()))))) else (Option.bind (byteAt v3.2.2.2.2.1 v3.2.1) fun v4 => (Option.bind ((if (ltZ v4 48) = true then (some (true, (v3.2.2.1, (v3.2.2.2.1, (v3.2.2.2.2.1, ()))))) else (Option.bind (byteAt v3.2.2.2.2.1 v3.2.1) fun v5 => (some ((ltZ 57 v5), (v3.2.2.1, (v3.2.2.2.1, (v3.2.2.2.2.1, ()))))))) : (Option (Bool × (Int × (Int × ((List UInt8) × Unit)))))) fun v6 => (some (v6.1, (v6.2.1, (v6.2.2.1, (v6.2.2.2.1, ())))))))) : (Option (Bool × (Int × (Int × ((List UInt8) × Unit)))))) fun v7 => (some (v7.1, (v7.2.1, (v7.2.2.1, (v7.2.2.2.1, ())))))) else (some (false, (v3.2.2.1, (v3.2.2.2.1, (v3.2.2.2.2.1, ())))))) : (Option (Bool × (Int × (Int × ((List UInt8) × Unit)))))) fun v8 => (if v8.1 = true then (some (Out.ret (false, ()))) else (some (Out.norm ((addZ .i64 v8.2.1 1), (v8.2.2.1, (v8.2.2.2.1, ()))))))))) else (some (Out.exit (Sum.inl ((ltZ v0.1 v0.2.1), (v0.1, (v0.2.1, (v0.2.2.1, ())))))))))
def impl_IsName (x : ((List UInt8) × Unit)) (c : Unit) : (Option (Bool × Unit)) :=
  (Option.bind (loopN (A := (Int × (Int × ((List UInt8) × Unit)))) big impl_IsName_L0 (0, ((lenI x.1), (x.1, ())))) fun v9 => (match v9 with | Out.norm v10 => none | Out.exit v11 => (match ((match v11 with | Sum.inl v16 => (Sum.inl (v16.2.2.2.1, ())) | Sum.inr v17 => (Empty.elim v17)) : (((List UInt8) × Unit) ⊕ Empty)) with | Sum.inl v12 => (Option.bind ((Option.bind (impl_within ((lenI v12.1), (1, (8, ()))) ()) fun v13 => (some v13.1)) : (Option Bool)) fun v14 => (some (v14, ()))) | Sum.inr v15 => none) | Out.ret v18 => (some v18)))
def H_impl_IsName : Hd := ⟨[.str], [], none, .p, .bool, .p, []⟩
def T_impl_IsName : FSig := ⟨H_impl_IsName.ps, H_impl_IsName.cs, H_impl_IsName.io, H_impl_IsName.im, H_impl_IsName.R, H_impl_IsName.m, impl_IsName⟩
theorem E_impl_IsName : fnOf tys [(83, T_impl_within)] Tryz.f164 H_impl_IsName = T_impl_IsName := by kernel_rfl
theorem K_impl_IsName : SigOk Tryz.prog 164 T_impl_IsName := (congrArg (SigOk Tryz.prog 164) E_impl_IsName).mp (fnOf_ok rfl tysOk ⟨K_impl_within, trivial⟩ Tryz.func164 (by decide) rfl (fun _ h => by cases h) (nilEq_of (by kernel_rfl)))
def impl_ActivityOk_L0 : (Int × (Int × ((List D_Mode) × (Int × (Int × (D_Activity × Unit)))))) → Option (Out (Int × (Int × ((List D_Mode) × (Int × (Int × (D_Activity × Unit)))))) ((Bool × (Int × (Int × ((List D_Mode) × (Int × (Int × (D_Activity × Unit))))))) ⊕ Empty) (Bool × Unit)) :=
  (fun v0 => (if (ltZ v0.1 v0.2.1) = true then (Option.bind (getI v0.2.2.1 v0.1) fun v1 => (Option.bind ((Option.bind (impl_ModeOk (v1, (v0.2.2.2.1, (v0.2.2.2.2.1, ()))) ()) fun v2 => (some v2.1)) : (Option Bool)) fun v3 => (if (notB v3) = true then (some (Out.ret (false, ()))) else (some (Out.norm ((addZ .i64 v0.1 1), (v0.2.1, (v0.2.2.1, (v0.2.2.2.1, (v0.2.2.2.2.1, (v0.2.2.2.2.2.1, ()))))))))))) else (some (Out.exit (Sum.inl ((ltZ v0.1 v0.2.1), (v0.1, (v0.2.1, (v0.2.2.1, (v0.2.2.2.1, (v0.2.2.2.2.1, (v0.2.2.2.2.2.1, ()))))))))))))
def impl_ActivityOk (x : (D_Activity × D_Step)) (c : Unit) : (Option (Bool × Unit)) :=
  (Option.bind (loopN (A := (Int × (Int × ((List D_Mode) × (Int × (Int × (D_Activity × Unit))))))) big impl_ActivityOk_L0 (0, ((lenI x.1.2.2.1), (x.1.2.2.1, (x.2.1, (x.2.2.1, (x.1, ()))))))) fun v4 => (match v4 with | Out.norm v5 => none | Out.exit v6 => (match ((match v6 with | Sum.inl v17 => (Sum.inl (v17.2.2.2.2.2.2.1, ())) | Sum.inr v18 => (Empty.elim v18)) : ((D_Activity × Unit) ⊕ Empty)) with | Sum.inl v7 => (Option.bind ((Option.bind (impl_IsName (v7.1.1, ()) ()) fun v8 => (some v8.1)) : (Option Bool)) fun v9 => (Option.bind ((if v9 = true then (Option.bind ((Option.bind (impl_within (v7.1.2.1, (0, (3, ()))) ()) fun v10 => (some v10.1)) : (Option Bool)) fun v11 => (Option.bind ((if v11 = true then (Option.bind ((Option.bind (impl_within ((lenI v7.1.2.2.1), (1, (3, ()))) ()) fun v12 => (some v12.1)) : (Option Bool)) fun v13 => (some (v13, ()))) else (some (false, ()))) : (Option (Bool × Unit))) fun v14 => (some (v14.1, ())))) else (some (false, ()))) : (Option (Bool × Unit))) fun v15 => (some (v15.1, ())))) | Sum.inr v16 => none) | Out.ret v19 => (some v19)))
def H_impl_ActivityOk : Hd := ⟨[.st [.str, .int .i64, .sl 159 (.st [.int .i64, .sl 3 (.int .i64), .sl 3 (.int .i64)])], .int .i64, .int .i64], [], none, .p, .bool, .p, []⟩
def T_impl_ActivityOk : FSig := ⟨H_impl_ActivityOk.ps, H_impl_ActivityOk.cs, H_impl_ActivityOk.io, H_impl_ActivityOk.im, H_impl_ActivityOk.R, H_impl_ActivityOk.m, impl_ActivityOk⟩
theorem E_impl_ActivityOk : fnOf tys [(83, T_impl_within), (163, T_impl_ModeOk), (164, T_impl_IsName)] Tryz.f130 H_impl_ActivityOk = T_impl_ActivityOk := by kernel_rfl
theorem K_impl_ActivityOk : SigOk Tryz.prog 130 T_impl_ActivityOk := (congrArg (SigOk Tryz.prog 130) E_impl_ActivityOk).mp (fnOf_ok rfl tysOk ⟨K_impl_within, K_impl_ModeOk, K_impl_IsName, trivial⟩ Tryz.func130 (by decide) rfl (fun _ h => by cases h) (nilEq_of (by kernel_rfl)))
def slices_IndexFunc_impl_Activity_impl_Activity_L0 : (Int × (Int × (((D_Activity × Unit) → (Option Bool)) × ((List D_Activity) × Unit)))) → Option (Out (Int × (Int × (((D_Activity × Unit) → (Option Bool)) × ((List D_Activity) × Unit)))) ((Bool × (Int × (Int × (((D_Activity × Unit) → (Option Bool)) × ((List D_Activity) × Unit))))) ⊕ Empty) (Int × Unit)) :=
  (fun v0 => (if (ltZ v0.1 v0.2.1) = true then (Option.bind (getI v0.2.2.2.1 v0.1) fun v1 => (Option.bind (v0.2.2.1 (v1, ())) fun v2 => (if v2 = true then (some (Out.ret (v0.1, ()))) else (some (Out.norm ((addZ .i64 v0.1 1), (v0.2.1, (v0.2.2.1, (v0.2.2.2.1, ()))))))))) else (some (Out.exit (Sum.inl ((ltZ v0.1 v0.2.1), (v0.1, (v0.2.1, (v0.2.2.1, (v0.2.2.2.1, ()))))))))))
def slices_IndexFunc_impl_Activity_impl_Activity (x : ((List D_Activity) × (((D_Activity × Unit) → (Option Bool)) × Unit))) (c : Unit) : (Option (Int × Unit)) :=
  (Option.bind (loopN (A := (Int × (Int × (((D_Activity × Unit) → (Option Bool)) × ((List D_Activity) × Unit))))) big slices_IndexFunc_impl_Activity_impl_Activity_L0 (0, ((lenI x.1), (x.2.1, (x.1, ()))))) fun v3 => (match v3 with | Out.norm v4 => none | Out.exit v5 => (match ((match v5 with | Sum.inl v8 => (Sum.inl ()) | Sum.inr v9 => (Empty.elim v9)) : (Unit ⊕ Empty)) with | Sum.inl v6 => (some ((-1), ())) | Sum.inr v7 => none) | Out.ret v10 => (some v10)))
def H_slices_IndexFunc_impl_Activity_impl_Activity : Hd := ⟨[.sl 118 (.st [.str, .int .i64, .sl 159 (.st [.int .i64, .sl 3 (.int .i64), .sl 3 (.int .i64)])]), .fn [.st [.str, .int .i64, .sl 159 (.st [.int .i64, .sl 3 (.int .i64), .sl 3 (.int .i64)])]] (.bool)], [], none, .p, .int .i64, .p, []⟩
def T_slices_IndexFunc_impl_Activity_impl_Activity : FSig := ⟨H_slices_IndexFunc_impl_Activity_impl_Activity.ps, H_slices_IndexFunc_impl_Activity_impl_Activity.cs, H_slices_IndexFunc_impl_Activity_impl_Activity.io, H_slices_IndexFunc_impl_Activity_impl_Activity.im, H_slices_IndexFunc_impl_Activity_impl_Activity.R, H_slices_IndexFunc_impl_Activity_impl_Activity.m, slices_IndexFunc_impl_Activity_impl_Activity⟩
theorem E_slices_IndexFunc_impl_Activity_impl_Activity : fnOf tys [] Tryz.f165 H_slices_IndexFunc_impl_Activity_impl_Activity = T_slices_IndexFunc_impl_Activity_impl_Activity := by kernel_rfl
theorem K_slices_IndexFunc_impl_Activity_impl_Activity : SigOk Tryz.prog 165 T_slices_IndexFunc_impl_Activity_impl_Activity := (congrArg (SigOk Tryz.prog 165) E_slices_IndexFunc_impl_Activity_impl_Activity).mp (fnOf_ok rfl tysOk trivial Tryz.func165 (by decide) rfl (fun _ h => by cases h) (nilEq_of (by kernel_rfl)))
def impl_ActivityIndex_1 (x : (D_Activity × Unit)) (c : ((List UInt8) × Unit)) : (Option (Bool × Unit)) :=
  (some ((eqS x.1.1 c.1), ()))
def H_impl_ActivityIndex_1 : Hd := ⟨[.st [.str, .int .i64, .sl 159 (.st [.int .i64, .sl 3 (.int .i64), .sl 3 (.int .i64)])]], [.str], none, .p, .bool, .p, []⟩
def T_impl_ActivityIndex_1 : FSig := ⟨H_impl_ActivityIndex_1.ps, H_impl_ActivityIndex_1.cs, H_impl_ActivityIndex_1.io, H_impl_ActivityIndex_1.im, H_impl_ActivityIndex_1.R, H_impl_ActivityIndex_1.m, impl_ActivityIndex_1⟩
theorem E_impl_ActivityIndex_1 : fnOf tys [] Tryz.f166 H_impl_ActivityIndex_1 = T_impl_ActivityIndex_1 := by kernel_rfl
theorem K_impl_ActivityIndex_1 : SigOk Tryz.prog 166 T_impl_ActivityIndex_1 := (congrArg (SigOk Tryz.prog 166) E_impl_ActivityIndex_1).mp (fnOf_ok rfl tysOk trivial Tryz.func166 (by decide) rfl (fun _ h => by cases h) (nilEq_of (by kernel_rfl)))
def impl_ActivityIndex (x : (D_Project × ((List UInt8) × Unit))) (c : Unit) : (Option (Int × Unit)) :=
  (Option.bind ((Option.bind (slices_IndexFunc_impl_Activity_impl_Activity (x.1.2.1, ((fun v0 => (Option.bind (impl_ActivityIndex_1 v0 (x.2.1, ())) fun v1 => (some v1.1))), ())) ()) fun v2 => (some v2.1)) : (Option Int)) fun v3 => (some (v3, ())))
def H_impl_ActivityIndex : Hd := ⟨[.st [.int .i64, .sl 118 (.st [.str, .int .i64, .sl 159 (.st [.int .i64, .sl 3 (.int .i64), .sl 3 (.int .i64)])]), .sl 121 (.st [.int .i64, .int .i64, .bool, .int .i64]), .sl 126 (.st [.sl 170 (.st [.int .i64, .int .i64]), .sl 25 (.sl 3 (.int .i64))]), .sl 3 (.int .i64)], .str], [], none, .p, .int .i64, .p, []⟩
def T_impl_ActivityIndex : FSig := ⟨H_impl_ActivityIndex.ps, H_impl_ActivityIndex.cs, H_impl_ActivityIndex.io, H_impl_ActivityIndex.im, H_impl_ActivityIndex.R, H_impl_ActivityIndex.m, impl_ActivityIndex⟩
theorem E_impl_ActivityIndex : fnOf tys [(165, T_slices_IndexFunc_impl_Activity_impl_Activity), (166, T_impl_ActivityIndex_1)] Tryz.f131 H_impl_ActivityIndex = T_impl_ActivityIndex := by kernel_rfl
theorem K_impl_ActivityIndex : SigOk Tryz.prog 131 T_impl_ActivityIndex := (congrArg (SigOk Tryz.prog 131) E_impl_ActivityIndex).mp (fnOf_ok rfl tysOk ⟨K_slices_IndexFunc_impl_Activity_impl_Activity, K_impl_ActivityIndex_1, trivial⟩ Tryz.func131 (by decide) rfl (fun _ h => by cases h) (nilEq_of (by kernel_rfl)))
def impl_isTime (x : (Int × Unit)) (c : Unit) : (Option (Bool × Unit)) :=
  (Option.bind ((Option.bind (impl_within (x.1, (0, (60, ()))) ()) fun v0 => (some v0.1)) : (Option Bool)) fun v1 => (some (v1, ())))
def H_impl_isTime : Hd := ⟨[.int .i64], [], none, .p, .bool, .p, []⟩
def T_impl_isTime : FSig := ⟨H_impl_isTime.ps, H_impl_isTime.cs, H_impl_isTime.io, H_impl_isTime.im, H_impl_isTime.R, H_impl_isTime.m, impl_isTime⟩
theorem E_impl_isTime : fnOf tys [(83, T_impl_within)] Tryz.f137 H_impl_isTime = T_impl_isTime := by kernel_rfl
theorem K_impl_isTime : SigOk Tryz.prog 137 T_impl_isTime := (congrArg (SigOk Tryz.prog 137) E_impl_isTime).mp (fnOf_ok rfl tysOk ⟨K_impl_within, trivial⟩ Tryz.func137 (by decide) rfl (fun _ h => by cases h) (nilEq_of (by kernel_rfl)))
def impl_StepsOk_L0 : (Int × (Int × ((List D_Step) × ((List D_Step) × Unit)))) → Option (Out (Int × (Int × ((List D_Step) × ((List D_Step) × Unit)))) ((Bool × (Int × (Int × ((List D_Step) × ((List D_Step) × Unit))))) ⊕ Empty) (Bool × Unit)) :=
  (fun v0 => (if (ltZ v0.1 v0.2.1) = true then (Option.bind (getI v0.2.2.1 v0.1) fun v1 => (Option.bind ((Option.bind (impl_isTime (v1.1, ()) ()) fun v2 => (some v2.1)) : (Option Bool)) fun v3 => (Option.bind ((if (notB v3) = true then (some (true, (v0.1, (v0.2.1, (v0.2.2.1, (v0.2.2.2.1, ())))))) else (Option.bind ((Option.bind (impl_isAmount (v1.2.1, ()) ()) fun v4 => (some v4.1)) : (Option Bool)) fun v5 => (Option.bind ((if (notB v5) = true then (some (true, (v0.1, (v0.2.1, (v0.2.2.1, (v0.2.2.2.1, ())))))) else (Option.bind ((if (eqZ v0.1 0) = true then (Option.bind ((if (notB (eqZ v1.1 0)) = true then (some (true, (v0.1, (v0.2.1, (v0.2.2.1, (v0.2.2.2.1, ())))))) else (Option.bind ((if (ltZ 0 v0.1) = true then (Option.bind (getI v0.2.2.2.1 (subZ .i64 v0.1 1)) fun v6 => (some ((leZ v1.1 v6.1), (v0.1, (v0.2.1, (v0.2.2.1, (v0.2.2.2.1, ()))))))) else (some (false, (v0.1, (v0.2.1, (v0.2.2.1, (v0.2.2.2.1, ()))))))) : (Option (Bool × (Int × (Int × ((List D_Step) × ((List D_Step) × Unit))))))) fun v7 => (some (v7.1, (v7.2.1, (v7.2.2.1, (v7.2.2.2.1, (v7.2.2.2.2.1, ())))))))) : (Option (Bool × (Int × (Int × ((List D_Step) × ((List D_Step) × Unit))))))) fun v8 => (some (v8.1, (v8.2.1, (v8.2.2.1, (v8.2.2.2.1, (v8.2.2.2.2.1, ()))))))) else (Option.bind ((if (ltZ 0 v0.1) = true then (Option.bind (getI v0.2.2.2.1 (subZ .i64 v0.1 1)) fun v9 => (some ((leZ v1.1 v9.1), (v0.1, (v0.2.1, (v0.2.2.1, (v0.2.2.2.1, ()))))))) else (some (false, (v0.1, (v0.2.1, (v0.2.2.1, (v0.2.2.2.1, ()))))))) : (Option (Bool × (Int × (Int × ((List D_Step) × ((List D_Step) × Unit))))))) fun v10 => (some (v10.1, (v10.2.1, (v10.2.2.1, (v10.2.2.2.1, (v10.2.2.2.2.1, ())))))))) : (Option (Bool × (Int × (Int × ((List D_Step) × ((List D_Step) × Unit))))))) fun v11 => (some (v11.1, (v11.2.1, (v11.2.2.1, (v11.2.2.2.1, (v11.2.2.2.2.1, ())))))))) : (Option (Bool × (Int × (Int × ((List D_Step) × ((List D_Step) × Unit))))))) fun v12 => (some (v12.1, (v12.2.1, (v12.2.2.1, (v12.2.2.2.1, (v12.2.2.2.2.1, ()))))))))) : (Option (Bool × (Int × (Int × ((List D_Step) × ((List D_Step) × Unit))))))) fun v13 => (if v13.1 = true then (some (Out.ret (false, ()))) else (some (Out.norm ((addZ .i64 v13.2.1 1), (v13.2.2.1, (v13.2.2.2.1, (v13.2.2.2.2.1, ())))))))))) else (some (Out.exit (Sum.inl ((ltZ v0.1 v0.2.1), (v0.1, (v0.2.1, (v0.2.2.1, (v0.2.2.2.1, ()))))))))))
def impl_StepsOk (x : ((List D_Step) × Unit)) (c : Unit) : (Option (Bool × Unit)) :=
  (Option.bind (loopN (A := (Int × (Int × ((List D_Step) × ((List D_Step) × Unit))))) big impl_StepsOk_L0 (0, ((lenI x.1), (x.1, (x.1, ()))))) fun v14 => (match v14 with | Out.norm v15 => none | Out.exit v16 => (match ((match v16 with | Sum.inl v21 => (Sum.inl (v21.2.2.2.2.1, ())) | Sum.inr v22 => (Empty.elim v22)) : (((List D_Step) × Unit) ⊕ Empty)) with | Sum.inl v17 => (Option.bind ((Option.bind (impl_within ((lenI v17.1), (1, (8, ()))) ()) fun v18 => (some v18.1)) : (Option Bool)) fun v19 => (some (v19, ()))) | Sum.inr v20 => none) | Out.ret v23 => (some v23)))
def H_impl_StepsOk : Hd := ⟨[.sl 170 (.st [.int .i64, .int .i64])], [], none, .p, .bool, .p, []⟩
def T_impl_StepsOk : FSig := ⟨H_impl_StepsOk.ps, H_impl_StepsOk.cs, H_impl_StepsOk.io, H_impl_StepsOk.im, H_impl_StepsOk.R, H_impl_StepsOk.m, impl_StepsOk⟩
theorem E_impl_StepsOk : fnOf tys [(83, T_impl_within), (137, T_impl_isTime), (183, T_impl_isAmount)] Tryz.f167 H_impl_StepsOk = T_impl_StepsOk := by kernel_rfl
theorem K_impl_StepsOk : SigOk Tryz.prog 167 T_impl_StepsOk := (congrArg (SigOk Tryz.prog 167) E_impl_StepsOk).mp (fnOf_ok rfl tysOk ⟨K_impl_within, K_impl_isTime, K_impl_isAmount, trivial⟩ Tryz.func167 (by decide) rfl (fun _ h => by cases h) (nilEq_of (by kernel_rfl)))
def impl_ResourceOk_L0 : (Int × (Int × ((List Int) × (Int × (Int × ((List (List Int)) × (D_Resource × Unit))))))) → Option (Out (Int × (Int × ((List Int) × (Int × (Int × ((List (List Int)) × (D_Resource × Unit))))))) ((Bool × (Int × (Int × ((List Int) × (Int × (Int × ((List (List Int)) × (D_Resource × Unit)))))))) ⊕ Empty) (Bool × Unit)) :=
  (fun v2 => (if (ltZ v2.1 v2.2.1) = true then (Option.bind (getI v2.2.2.1 v2.1) fun v3 => (Option.bind ((Option.bind (impl_within (v3, (0, (12, ()))) ()) fun v4 => (some v4.1)) : (Option Bool)) fun v5 => (if (notB v5) = true then (some (Out.ret (false, ()))) else (some (Out.norm ((addZ .i64 v2.1 1), (v2.2.1, (v2.2.2.1, (v2.2.2.2.1, (v2.2.2.2.2.1, (v2.2.2.2.2.2.1, (v2.2.2.2.2.2.2.1, ())))))))))))) else (some (Out.exit (Sum.inl ((ltZ v2.1 v2.2.1), (v2.1, (v2.2.1, (v2.2.2.1, (v2.2.2.2.1, (v2.2.2.2.2.1, (v2.2.2.2.2.2.1, (v2.2.2.2.2.2.2.1, ())))))))))))))
def impl_ResourceOk_L1 : (Int × (Int × ((List (List Int)) × (D_Resource × Unit)))) → Option (Out (Int × (Int × ((List (List Int)) × (D_Resource × Unit)))) ((Bool × (Int × (Int × ((List (List Int)) × (D_Resource × Unit))))) ⊕ Empty) (Bool × Unit)) :=
  (fun v0 => (if (ltZ v0.1 v0.2.1) = true then (Option.bind (getI v0.2.2.1 v0.1) fun v1 => (if (notB (eqZ (lenI v1) 4)) = true then (some (Out.ret (false, ()))) else (Option.bind (loopN (A := (Int × (Int × ((List Int) × (Int × (Int × ((List (List Int)) × (D_Resource × Unit)))))))) big impl_ResourceOk_L0 (0, ((lenI v1), (v1, (v0.1, (v0.2.1, (v0.2.2.1, (v0.2.2.2.1, ())))))))) fun v6 => (match v6 with | Out.norm v7 => none | Out.exit v8 => (match ((match v8 with | Sum.inl v13 => (Sum.inl (v13.2.2.2.2.1, (v13.2.2.2.2.2.1, (v13.2.2.2.2.2.2.1, (v13.2.2.2.2.2.2.2.1, ()))))) | Sum.inr v14 => (Empty.elim v14)) : ((Int × (Int × ((List (List Int)) × (D_Resource × Unit)))) ⊕ Empty)) with | Sum.inl v9 => (some (Out.norm ((addZ .i64 v9.1 1), (v9.2.1, (v9.2.2.1, (v9.2.2.2.1, ())))))) | Sum.inr v10 => (match ((Empty.elim v10) : ((Int × (Int × ((List (List Int)) × (D_Resource × Unit)))) ⊕ Empty)) with | Sum.inl v11 => (some (Out.norm ((addZ .i64 v11.1 1), (v11.2.1, (v11.2.2.1, (v11.2.2.2.1, ())))))) | Sum.inr v12 => (some (Out.exit (Sum.inr (Empty.elim v12)))))) | Out.ret v15 => (some (Out.ret v15)))))) else (some (Out.exit (Sum.inl ((ltZ v0.1 v0.2.1), (v0.1, (v0.2.1, (v0.2.2.1, (v0.2.2.2.1, ()))))))))))
def impl_ResourceOk (x : (D_Resource × Unit)) (c : Unit) : (Option (Bool × Unit)) :=
  (Option.bind (loopN (A := (Int × (Int × ((List (List Int)) × (D_Resource × Unit))))) big impl_ResourceOk_L1 (0, ((lenI x.1.2.1), (x.1.2.1, (x.1, ()))))) fun v16 => (match v16 with | Out.norm v17 => none | Out.exit v18 => (match ((match v18 with | Sum.inl v25 => (Sum.inl (v25.2.2.2.2.1, ())) | Sum.inr v26 => (Empty.elim v26)) : ((D_Resource × Unit) ⊕ Empty)) with | Sum.inl v19 => (Option.bind ((Option.bind (impl_StepsOk (v19.1.1, ()) ()) fun v20 => (some v20.1)) : (Option Bool)) fun v21 => (Option.bind ((if v21 = true then (Option.bind ((if (eqZ (lenI v19.1.2.1) 0) = true then (some (true, ())) else (some ((eqZ (lenI v19.1.2.1) 4), ()))) : (Option (Bool × Unit))) fun v22 => (some (v22.1, ()))) else (some (false, ()))) : (Option (Bool × Unit))) fun v23 => (some (v23.1, ())))) | Sum.inr v24 => none) | Out.ret v27 => (some v27)))
def H_impl_ResourceOk : Hd := ⟨[.st [.sl 170 (.st [.int .i64, .int .i64]), .sl 25 (.sl 3 (.int .i64))]], [], none, .p, .bool, .p, []⟩
def T_impl_ResourceOk : FSig := ⟨H_impl_ResourceOk.ps, H_impl_ResourceOk.cs, H_impl_ResourceOk.io, H_impl_ResourceOk.im, H_impl_ResourceOk.R, H_impl_ResourceOk.m, impl_ResourceOk⟩
theorem E_impl_ResourceOk : fnOf tys [(83, T_impl_within), (167, T_impl_StepsOk)] Tryz.f132 H_impl_ResourceOk = T_impl_ResourceOk := by kernel_rfl
theorem K_impl_ResourceOk : SigOk Tryz.prog 132 T_impl_ResourceOk := (congrArg (SigOk Tryz.prog 132) E_impl_ResourceOk).mp (fnOf_ok rfl tysOk ⟨K_impl_within, K_impl_StepsOk, trivial⟩ Tryz.func132 (by decide) rfl (fun _ h => by cases h) (nilEq_of (by kernel_rfl)))
def slices_IndexFunc_impl_Link_impl_Link_L0 : (Int × (Int × (((D_Link × Unit) → (Option Bool)) × ((List D_Link) × Unit)))) → Option (Out (Int × (Int × (((D_Link × Unit) → (Option Bool)) × ((List D_Link) × Unit)))) ((Bool × (Int × (Int × (((D_Link × Unit) → (Option Bool)) × ((List D_Link) × Unit))))) ⊕ Empty) (Int × Unit)) :=
  (fun v0 => (if (ltZ v0.1 v0.2.1) = true then (Option.bind (getI v0.2.2.2.1 v0.1) fun v1 => (Option.bind (v0.2.2.1 (v1, ())) fun v2 => (if v2 = true then (some (Out.ret (v0.1, ()))) else (some (Out.norm ((addZ .i64 v0.1 1), (v0.2.1, (v0.2.2.1, (v0.2.2.2.1, ()))))))))) else (some (Out.exit (Sum.inl ((ltZ v0.1 v0.2.1), (v0.1, (v0.2.1, (v0.2.2.1, (v0.2.2.2.1, ()))))))))))
def slices_IndexFunc_impl_Link_impl_Link (x : ((List D_Link) × (((D_Link × Unit) → (Option Bool)) × Unit))) (c : Unit) : (Option (Int × Unit)) :=
  (Option.bind (loopN (A := (Int × (Int × (((D_Link × Unit) → (Option Bool)) × ((List D_Link) × Unit))))) big slices_IndexFunc_impl_Link_impl_Link_L0 (0, ((lenI x.1), (x.2.1, (x.1, ()))))) fun v3 => (match v3 with | Out.norm v4 => none | Out.exit v5 => (match ((match v5 with | Sum.inl v8 => (Sum.inl ()) | Sum.inr v9 => (Empty.elim v9)) : (Unit ⊕ Empty)) with | Sum.inl v6 => (some ((-1), ())) | Sum.inr v7 => none) | Out.ret v10 => (some v10)))
def H_slices_IndexFunc_impl_Link_impl_Link : Hd := ⟨[.sl 121 (.st [.int .i64, .int .i64, .bool, .int .i64]), .fn [.st [.int .i64, .int .i64, .bool, .int .i64]] (.bool)], [], none, .p, .int .i64, .p, []⟩
def T_slices_IndexFunc_impl_Link_impl_Link : FSig := ⟨H_slices_IndexFunc_impl_Link_impl_Link.ps, H_slices_IndexFunc_impl_Link_impl_Link.cs, H_slices_IndexFunc_impl_Link_impl_Link.io, H_slices_IndexFunc_impl_Link_impl_Link.im, H_slices_IndexFunc_impl_Link_impl_Link.R, H_slices_IndexFunc_impl_Link_impl_Link.m, slices_IndexFunc_impl_Link_impl_Link⟩
theorem E_slices_IndexFunc_impl_Link_impl_Link : fnOf tys [] Tryz.f168 H_slices_IndexFunc_impl_Link_impl_Link = T_slices_IndexFunc_impl_Link_impl_Link := by kernel_rfl
theorem K_slices_IndexFunc_impl_Link_impl_Link : SigOk Tryz.prog 168 T_slices_IndexFunc_impl_Link_impl_Link := (congrArg (SigOk Tryz.prog 168) E_slices_IndexFunc_impl_Link_impl_Link).mp (fnOf_ok rfl tysOk trivial Tryz.func168 (by decide) rfl (fun _ h => by cases h) (nilEq_of (by kernel_rfl)))
def slices_ContainsFunc_impl_Link_impl_Link (x : ((List D_Link) × (((D_Link × Unit) → (Option Bool)) × Unit))) (c : Unit) : (Option (Bool × Unit)) :=
  (Option.bind ((Option.bind (slices_IndexFunc_impl_Link_impl_Link (x.1, (x.2.1, ())) ()) fun v0 => (some v0.1)) : (Option Int)) fun v1 => (some ((leZ 0 v1), ())))
def H_slices_ContainsFunc_impl_Link_impl_Link : Hd := ⟨[.sl 121 (.st [.int .i64, .int .i64, .bool, .int .i64]), .fn [.st [.int .i64, .int .i64, .bool, .int .i64]] (.bool)], [], none, .p, .bool, .p, []⟩
def T_slices_ContainsFunc_impl_Link_impl_Link : FSig := ⟨H_slices_ContainsFunc_impl_Link_impl_Link.ps, H_slices_ContainsFunc_impl_Link_impl_Link.cs, H_slices_ContainsFunc_impl_Link_impl_Link.io, H_slices_ContainsFunc_impl_Link_impl_Link.im, H_slices_ContainsFunc_impl_Link_impl_Link.R, H_slices_ContainsFunc_impl_Link_impl_Link.m, slices_ContainsFunc_impl_Link_impl_Link⟩
theorem E_slices_ContainsFunc_impl_Link_impl_Link : fnOf tys [(168, T_slices_IndexFunc_impl_Link_impl_Link)] Tryz.f133 H_slices_ContainsFunc_impl_Link_impl_Link = T_slices_ContainsFunc_impl_Link_impl_Link := by kernel_rfl
theorem K_slices_ContainsFunc_impl_Link_impl_Link : SigOk Tryz.prog 133 T_slices_ContainsFunc_impl_Link_impl_Link := (congrArg (SigOk Tryz.prog 133) E_slices_ContainsFunc_impl_Link_impl_Link).mp (fnOf_ok rfl tysOk ⟨K_slices_IndexFunc_impl_Link_impl_Link, trivial⟩ Tryz.func133 (by decide) rfl (fun _ h => by cases h) (nilEq_of (by kernel_rfl)))
def impl_Project_hasActivity (x : (D_Project × (Int × Unit))) (c : Unit) : (Option (Bool × Unit)) :=
  (Option.bind ((Option.bind (impl_within (x.2.1, (0, ((subZ .i64 (lenI x.1.2.1) 1), ()))) ()) fun v0 => (some v0.1)) : (Option Bool)) fun v1 => (some (v1, ())))
def H_impl_Project_hasActivity : Hd := ⟨[.st [.int .i64, .sl 118 (.st [.str, .int .i64, .sl 159 (.st [.int .i64, .sl 3 (.int .i64), .sl 3 (.int .i64)])]), .sl 121 (.st [.int .i64, .int .i64, .bool, .int .i64]), .sl 126 (.st [.sl 170 (.st [.int .i64, .int .i64]), .sl 25 (.sl 3 (.int .i64))]), .sl 3 (.int .i64)], .int .i64], [], none, .p, .bool, .p, []⟩
def T_impl_Project_hasActivity : FSig := ⟨H_impl_Project_hasActivity.ps, H_impl_Project_hasActivity.cs, H_impl_Project_hasActivity.io, H_impl_Project_hasActivity.im, H_impl_Project_hasActivity.R, H_impl_Project_hasActivity.m, impl_Project_hasActivity⟩
theorem E_impl_Project_hasActivity : fnOf tys [(83, T_impl_within)] Tryz.f169 H_impl_Project_hasActivity = T_impl_Project_hasActivity := by kernel_rfl
theorem K_impl_Project_hasActivity : SigOk Tryz.prog 169 T_impl_Project_hasActivity := (congrArg (SigOk Tryz.prog 169) E_impl_Project_hasActivity).mp (fnOf_ok rfl tysOk ⟨K_impl_within, trivial⟩ Tryz.func169 (by decide) rfl (fun _ h => by cases h) (nilEq_of (by kernel_rfl)))
def impl_Project_linkOk (x : (D_Project × (D_Link × Unit))) (c : Unit) : (Option (Bool × Unit)) :=
  (Option.bind ((Option.bind (impl_Project_hasActivity (x.1, (x.2.1.1, ())) ()) fun v0 => (some v0.1)) : (Option Bool)) fun v1 => (Option.bind ((if v1 = true then (Option.bind ((Option.bind (impl_Project_hasActivity (x.1, (x.2.1.2.1, ())) ()) fun v2 => (some v2.1)) : (Option Bool)) fun v3 => (Option.bind ((if v3 = true then (Option.bind ((if (notB (eqZ x.2.1.1 x.2.1.2.1)) = true then (Option.bind ((Option.bind (impl_within (x.2.1.2.2.2.1, ((-60), (60, ()))) ()) fun v4 => (some v4.1)) : (Option Bool)) fun v5 => (some (v5, ()))) else (some (false, ()))) : (Option (Bool × Unit))) fun v6 => (some (v6.1, ()))) else (some (false, ()))) : (Option (Bool × Unit))) fun v7 => (some (v7.1, ())))) else (some (false, ()))) : (Option (Bool × Unit))) fun v8 => (some (v8.1, ()))))
def H_impl_Project_linkOk : Hd := ⟨[.st [.int .i64, .sl 118 (.st [.str, .int .i64, .sl 159 (.st [.int .i64, .sl 3 (.int .i64), .sl 3 (.int .i64)])]), .sl 121 (.st [.int .i64, .int .i64, .bool, .int .i64]), .sl 126 (.st [.sl 170 (.st [.int .i64, .int .i64]), .sl 25 (.sl 3 (.int .i64))]), .sl 3 (.int .i64)], .st [.int .i64, .int .i64, .bool, .int .i64]], [], none, .p, .bool, .p, []⟩
def T_impl_Project_linkOk : FSig := ⟨H_impl_Project_linkOk.ps, H_impl_Project_linkOk.cs, H_impl_Project_linkOk.io, H_impl_Project_linkOk.im, H_impl_Project_linkOk.R, H_impl_Project_linkOk.m, impl_Project_linkOk⟩
theorem E_impl_Project_linkOk : fnOf tys [(83, T_impl_within), (169, T_impl_Project_hasActivity)] Tryz.f135 H_impl_Project_linkOk = T_impl_Project_linkOk := by kernel_rfl
theorem K_impl_Project_linkOk : SigOk Tryz.prog 135 T_impl_Project_linkOk := (congrArg (SigOk Tryz.prog 135) E_impl_Project_linkOk).mp (fnOf_ok rfl tysOk ⟨K_impl_within, K_impl_Project_hasActivity, trivial⟩ Tryz.func135 (by decide) rfl (fun _ h => by cases h) (nilEq_of (by kernel_rfl)))
def impl_ProjectOk_1 (x : (D_Link × Unit)) (c : (D_Project × Unit)) : (Option (Bool × Unit)) :=
  (Option.bind ((Option.bind (impl_Project_linkOk (c.1, (x.1, ())) ()) fun v0 => (some v0.1)) : (Option Bool)) fun v1 => (some ((notB v1), ())))
def H_impl_ProjectOk_1 : Hd := ⟨[.st [.int .i64, .int .i64, .bool, .int .i64]], [.st [.int .i64, .sl 118 (.st [.str, .int .i64, .sl 159 (.st [.int .i64, .sl 3 (.int .i64), .sl 3 (.int .i64)])]), .sl 121 (.st [.int .i64, .int .i64, .bool, .int .i64]), .sl 126 (.st [.sl 170 (.st [.int .i64, .int .i64]), .sl 25 (.sl 3 (.int .i64))]), .sl 3 (.int .i64)]], none, .p, .bool, .p, []⟩
def T_impl_ProjectOk_1 : FSig := ⟨H_impl_ProjectOk_1.ps, H_impl_ProjectOk_1.cs, H_impl_ProjectOk_1.io, H_impl_ProjectOk_1.im, H_impl_ProjectOk_1.R, H_impl_ProjectOk_1.m, impl_ProjectOk_1⟩
theorem E_impl_ProjectOk_1 : fnOf tys [(135, T_impl_Project_linkOk)] Tryz.f134 H_impl_ProjectOk_1 = T_impl_ProjectOk_1 := by kernel_rfl
theorem K_impl_ProjectOk_1 : SigOk Tryz.prog 134 T_impl_ProjectOk_1 := (congrArg (SigOk Tryz.prog 134) E_impl_ProjectOk_1).mp (fnOf_ok rfl tysOk ⟨K_impl_Project_linkOk, trivial⟩ Tryz.func134 (by decide) rfl (fun _ h => by cases h) (nilEq_of (by kernel_rfl)))
def impl_ProjectOk_L0 : (Int × (Int × ((List D_Activity) × (D_Project × Unit)))) → Option (Out (Int × (Int × ((List D_Activity) × (D_Project × Unit)))) ((Bool × (Int × (Int × ((List D_Activity) × (D_Project × Unit))))) ⊕ Empty) (Bool × Unit)) :=
  (fun v8 => (if (ltZ v8.1 v8.2.1) = true then (Option.bind (getI v8.2.2.1 v8.1) fun v9 => (Option.bind ((Option.bind (impl_ActivityOk (v9, ((lenI v8.2.2.2.1.2.2.2.1), ((lenI v8.2.2.2.1.2.2.2.2.1), ()))) ()) fun v10 => (some v10.1)) : (Option Bool)) fun v11 => (Option.bind ((if (notB v11) = true then (some (true, (v8.1, (v8.2.1, (v8.2.2.1, (v8.2.2.2.1, ())))))) else (Option.bind ((Option.bind (impl_ActivityIndex (v8.2.2.2.1, (v9.1, ())) ()) fun v12 => (some v12.1)) : (Option Int)) fun v13 => (some ((notB (eqZ v13 v8.1)), (v8.1, (v8.2.1, (v8.2.2.1, (v8.2.2.2.1, ())))))))) : (Option (Bool × (Int × (Int × ((List D_Activity) × (D_Project × Unit))))))) fun v14 => (if v14.1 = true then (some (Out.ret (false, ()))) else (some (Out.norm ((addZ .i64 v14.2.1 1), (v14.2.2.1, (v14.2.2.2.1, (v14.2.2.2.2.1, ())))))))))) else (some (Out.exit (Sum.inl ((ltZ v8.1 v8.2.1), (v8.1, (v8.2.1, (v8.2.2.1, (v8.2.2.2.1, ()))))))))))
def impl_ProjectOk_L1 : (Int × (Int × ((List D_Resource) × (D_Project × Unit)))) → Option (Out (Int × (Int × ((List D_Resource) × (D_Project × Unit)))) ((Bool × (Int × (Int × ((List D_Resource) × (D_Project × Unit))))) ⊕ Empty) (Bool × Unit)) :=
  (fun v19 => (if (ltZ v19.1 v19.2.1) = true then (Option.bind (getI v19.2.2.1 v19.1) fun v20 => (Option.bind ((Option.bind (impl_ResourceOk (v20, ()) ()) fun v21 => (some v21.1)) : (Option Bool)) fun v22 => (if (notB v22) = true then (some (Out.ret (false, ()))) else (some (Out.norm ((addZ .i64 v19.1 1), (v19.2.1, (v19.2.2.1, (v19.2.2.2.1, ()))))))))) else (some (Out.exit (Sum.inl ((ltZ v19.1 v19.2.1), (v19.1, (v19.2.1, (v19.2.2.1, (v19.2.2.2.1, ()))))))))))
def impl_ProjectOk_L2 : (Int × (Int × ((List Int) × (D_Project × Unit)))) → Option (Out (Int × (Int × ((List Int) × (D_Project × Unit)))) ((Bool × (Int × (Int × ((List Int) × (D_Project × Unit))))) ⊕ Empty) (Bool × Unit)) :=
  (fun v27 => (if (ltZ v27.1 v27.2.1) = true then (Option.bind (getI v27.2.2.1 v27.1) fun v28 => (Option.bind ((Option.bind (impl_within (v28, (0, (100, ()))) ()) fun v29 => (some v29.1)) : (Option Bool)) fun v30 => (if (notB v30) = true then (some (Out.ret (false, ()))) else (some (Out.norm ((addZ .i64 v27.1 1), (v27.2.1, (v27.2.2.1, (v27.2.2.2.1, ()))))))))) else (some (Out.exit (Sum.inl ((ltZ v27.1 v27.2.1), (v27.1, (v27.2.1, (v27.2.2.1, (v27.2.2.2.1, ()))))))))))
def impl_ProjectOk (x : (D_Project × Unit)) (c : Unit) : (Option (Bool × Unit)) :=
  (Option.bind ((Option.bind (impl_within (x.1.1, (1, (60, ()))) ()) fun v0 => (some v0.1)) : (Option Bool)) fun v1 => (Option.bind ((if (notB v1) = true then (some (true, (x.1, ()))) else (Option.bind ((Option.bind (impl_within ((lenI x.1.2.1), (1, (6, ()))) ()) fun v2 => (some v2.1)) : (Option Bool)) fun v3 => (Option.bind ((if (notB v3) = true then (some (true, (x.1, ()))) else (Option.bind ((if (ltZ 3 (lenI x.1.2.2.2.1)) = true then (some (true, (x.1, ()))) else (Option.bind ((if (ltZ 2 (lenI x.1.2.2.2.2.1)) = true then (some (true, (x.1, ()))) else (some ((ltZ 12 (lenI x.1.2.2.1)), (x.1, ())))) : (Option (Bool × (D_Project × Unit)))) fun v4 => (some (v4.1, (v4.2.1, ()))))) : (Option (Bool × (D_Project × Unit)))) fun v5 => (some (v5.1, (v5.2.1, ()))))) : (Option (Bool × (D_Project × Unit)))) fun v6 => (some (v6.1, (v6.2.1, ())))))) : (Option (Bool × (D_Project × Unit)))) fun v7 => (if v7.1 = true then (some (false, ())) else (Option.bind (loopN (A := (Int × (Int × ((List D_Activity) × (D_Project × Unit))))) big impl_ProjectOk_L0 (0, ((lenI v7.2.1.2.1), (v7.2.1.2.1, (v7.2.1, ()))))) fun v15 => (match v15 with | Out.norm v16 => none | Out.exit v17 => (match ((match v17 with | Sum.inl v48 => (Sum.inl (v48.2.2.2.2.1, ())) | Sum.inr v49 => (Empty.elim v49)) : ((D_Project × Unit) ⊕ Empty)) with | Sum.inl v18 => (Option.bind (loopN (A := (Int × (Int × ((List D_Resource) × (D_Project × Unit))))) big impl_ProjectOk_L1 (0, ((lenI v18.1.2.2.2.1), (v18.1.2.2.2.1, (v18.1, ()))))) fun v23 => (match v23 with | Out.norm v24 => none | Out.exit v25 => (match ((match v25 with | Sum.inl v44 => (Sum.inl (v44.2.2.2.2.1, ())) | Sum.inr v45 => (Empty.elim v45)) : ((D_Project × Unit) ⊕ Empty)) with | Sum.inl v26 => (Option.bind (loopN (A := (Int × (Int × ((List Int) × (D_Project × Unit))))) big impl_ProjectOk_L2 (0, ((lenI v26.1.2.2.2.2.1), (v26.1.2.2.2.2.1, (v26.1, ()))))) fun v31 => (match v31 with | Out.norm v32 => none | Out.exit v33 => (match ((match v33 with | Sum.inl v40 => (Sum.inl (v40.2.2.2.2.1, ())) | Sum.inr v41 => (Empty.elim v41)) : ((D_Project × Unit) ⊕ Empty)) with | Sum.inl v34 => (Option.bind ((Option.bind (slices_ContainsFunc_impl_Link_impl_Link (v34.1.2.2.1, ((fun v35 => (Option.bind (impl_ProjectOk_1 v35 (v34.1, ())) fun v36 => (some v36.1))), ())) ()) fun v37 => (some v37.1)) : (Option Bool)) fun v38 => (some ((notB v38), ()))) | Sum.inr v39 => none) | Out.ret v42 => (some v42))) | Sum.inr v43 => none) | Out.ret v46 => (some v46))) | Sum.inr v47 => none) | Out.ret v50 => (some v50))))))
def H_impl_ProjectOk : Hd := ⟨[.st [.int .i64, .sl 118 (.st [.str, .int .i64, .sl 159 (.st [.int .i64, .sl 3 (.int .i64), .sl 3 (.int .i64)])]), .sl 121 (.st [.int .i64, .int .i64, .bool, .int .i64]), .sl 126 (.st [.sl 170 (.st [.int .i64, .int .i64]), .sl 25 (.sl 3 (.int .i64))]), .sl 3 (.int .i64)]], [], none, .p, .bool, .p, []⟩
def T_impl_ProjectOk : FSig := ⟨H_impl_ProjectOk.ps, H_impl_ProjectOk.cs, H_impl_ProjectOk.io, H_impl_ProjectOk.im, H_impl_ProjectOk.R, H_impl_ProjectOk.m, impl_ProjectOk⟩
theorem E_impl_ProjectOk : fnOf tys [(83, T_impl_within), (130, T_impl_ActivityOk), (131, T_impl_ActivityIndex), (132, T_impl_ResourceOk), (133, T_slices_ContainsFunc_impl_Link_impl_Link), (134, T_impl_ProjectOk_1)] Tryz.f82 H_impl_ProjectOk = T_impl_ProjectOk := by kernel_rfl
theorem K_impl_ProjectOk : SigOk Tryz.prog 82 T_impl_ProjectOk := (congrArg (SigOk Tryz.prog 82) E_impl_ProjectOk).mp (fnOf_ok rfl tysOk ⟨K_impl_within, K_impl_ActivityOk, K_impl_ActivityIndex, K_impl_ResourceOk, K_slices_ContainsFunc_impl_Link_impl_Link, K_impl_ProjectOk_1, trivial⟩ Tryz.func82 (by decide) rfl (fun _ h => by cases h) (nilEq_of (by kernel_rfl)))
end Go.Proofs.YtjgmjljdhgfdhaaGreat