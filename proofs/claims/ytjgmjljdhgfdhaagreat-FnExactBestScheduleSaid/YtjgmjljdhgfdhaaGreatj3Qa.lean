/-
  The functions of this seat as plain Lean functions, and that the program computes them. No condition.
-/
import Derived.Test.YtjgmjljdhgfdhaaGreatN37
import Derived.Test.YtjgmjljdhgfdhaaGreatj3X
import Derived.Test.YtjgmjljdhgfdhaaGreatProg
import Derived.KernelRfl
namespace Go.Proofs.YtjgmjljdhgfdhaaGreat
open Go.Abs
set_option linter.unusedVariables false
set_option maxRecDepth 100000
abbrev D_Mode : Type := (Int × ((List Int) × ((List Int) × Unit)))
abbrev D_Activity : Type := ((List UInt8) × (Int × ((List D_Mode) × Unit)))
abbrev D_Link : Type := (Int × (Int × (Bool × (Int × Unit))))
abbrev D_Step : Type := (Int × (Int × Unit))
abbrev D_Resource : Type := ((List D_Step) × ((List (List Int)) × Unit))
abbrev D_Project : Type := (Int × ((List D_Activity) × ((List D_Link) × ((List D_Resource) × ((List Int) × Unit)))))
abbrev D_Schedule : Type := ((List Int) × ((List Int) × Unit))
abbrev D_Rule : Type := (Int × (Int × D_Step))
theorem tn3 : TnOk Tryz.prog 3 (.int .i64) := ⟨Tryz.underlying3, fun _ h => (by cases h), Tryz.t3, rfl, rfl, fun _ _ => rfl⟩
theorem tn4 : TnOk Tryz.prog 4 (.bool) := ⟨Tryz.underlying4, fun _ h => (by cases h), Tryz.t4, rfl, rfl, fun _ _ => rfl⟩
theorem tn5 : TnOk Tryz.prog 5 (.int .u8) := ⟨Tryz.underlying5, fun _ h => (by cases h), Tryz.t5, rfl, rfl, fun _ _ => rfl⟩
theorem tn9 : TnOk Tryz.prog 9 (.str) := ⟨Tryz.underlying9, fun _ h => (by cases h), Tryz.t9, rfl, rfl, fun _ _ => rfl⟩
theorem tn22 : TnOk Tryz.prog 22 (.sl 103 (.st [.str, .int .i64, .sl 176 (.st [.int .i64, .sl 3 (.int .i64), .sl 3 (.int .i64)])])) := ⟨⟨Tryz.underlying22, Tryz.t103, _, rfl, rfl, rfl, rfl, by decide, by decide, fun _ _ => rfl, fun k h => by cases h⟩, fun _ h => (by cases h), Tryz.t22, rfl, rfl, fun _ _ => rfl⟩
theorem tn23 : TnOk Tryz.prog 23 (.sl 123 (.st [.int .i64, .int .i64, .bool, .int .i64])) := ⟨⟨Tryz.underlying23, Tryz.t123, _, rfl, rfl, rfl, rfl, by decide, by decide, fun _ _ => rfl, fun k h => by cases h⟩, fun _ h => (by cases h), Tryz.t23, rfl, rfl, fun _ _ => rfl⟩
theorem tn24 : TnOk Tryz.prog 24 (.sl 107 (.st [.sl 185 (.st [.int .i64, .int .i64]), .sl 25 (.sl 3 (.int .i64))])) := ⟨⟨Tryz.underlying24, Tryz.t107, _, rfl, rfl, rfl, rfl, by decide, by decide, fun _ _ => rfl, fun k h => by cases h⟩, fun _ h => (by cases h), Tryz.t24, rfl, rfl, fun _ _ => rfl⟩
theorem tn25 : TnOk Tryz.prog 25 (.sl 3 (.int .i64)) := ⟨⟨Tryz.underlying25, Tryz.t3, _, rfl, rfl, rfl, rfl, by decide, by decide, fun _ _ => rfl, fun k h => by cases h; exact Tryz.underlying3⟩, fun _ h => (by cases h), Tryz.t25, rfl, rfl, fun _ _ => rfl⟩
theorem tn26 : TnOk Tryz.prog 26 (.st [.int .i64, .sl 103 (.st [.str, .int .i64, .sl 176 (.st [.int .i64, .sl 3 (.int .i64), .sl 3 (.int .i64)])]), .sl 123 (.st [.int .i64, .int .i64, .bool, .int .i64]), .sl 107 (.st [.sl 185 (.st [.int .i64, .int .i64]), .sl 25 (.sl 3 (.int .i64))]), .sl 3 (.int .i64)]) := ⟨⟨_, Tryz.underlying26, Tryz.eqGuardType26, Tryz.stoodInHeld26, rfl, fun j τ h => by
    cases j with
    | zero => cases h; exact ⟨_, _, rfl, rfl, by decide, by decide, Tryz.underlying3, rfl, fun us h => by cases h⟩
    | succ j =>
     cases j with
     | zero => cases h; exact ⟨_, _, rfl, rfl, by decide, by decide, Tryz.underlying22, rfl, fun us h => by cases h⟩
     | succ j =>
      cases j with
      | zero => cases h; exact ⟨_, _, rfl, rfl, by decide, by decide, Tryz.underlying23, rfl, fun us h => by cases h⟩
      | succ j =>
       cases j with
       | zero => cases h; exact ⟨_, _, rfl, rfl, by decide, by decide, Tryz.underlying24, rfl, fun us h => by cases h⟩
       | succ j =>
        cases j with
        | zero => cases h; exact ⟨_, _, rfl, rfl, by decide, by decide, Tryz.underlying25, rfl, fun us h => by cases h⟩
        | succ j =>
         cases h⟩, (fun us hus fs hfs j τ h f hf => by
    cases hus
    rw [Tryz.underlying26] at hfs
    cases hfs
    cases j with
    | zero => cases h; cases hf; exact ⟨fun k e => by cases e; exact Tryz.underlying3, fun e => (by cases e), fun e => (by cases e)⟩
    | succ j =>
     cases j with
     | zero => cases h; cases hf; exact ⟨fun k e => (by cases e), fun e => (by cases e), fun e => (by cases e)⟩
     | succ j =>
      cases j with
      | zero => cases h; cases hf; exact ⟨fun k e => (by cases e), fun e => (by cases e), fun e => (by cases e)⟩
      | succ j =>
       cases j with
       | zero => cases h; cases hf; exact ⟨fun k e => (by cases e), fun e => (by cases e), fun e => (by cases e)⟩
       | succ j =>
        cases j with
        | zero => cases h; cases hf; exact ⟨fun k e => (by cases e), fun e => (by cases e), fun e => (by cases e)⟩
        | succ j =>
         cases h), Tryz.t26, rfl, rfl, fun _ _ => rfl⟩
theorem tn27 : TnOk Tryz.prog 27 (.st [.int .i64, .sl 103 (.st [.str, .int .i64, .sl 176 (.st [.int .i64, .sl 3 (.int .i64), .sl 3 (.int .i64)])]), .sl 123 (.st [.int .i64, .int .i64, .bool, .int .i64]), .sl 107 (.st [.sl 185 (.st [.int .i64, .int .i64]), .sl 25 (.sl 3 (.int .i64))]), .sl 3 (.int .i64)]) := ⟨⟨_, Tryz.underlying27, Tryz.eqGuardType27, Tryz.stoodInHeld27, rfl, fun j τ h => by
    cases j with
    | zero => cases h; exact ⟨_, _, rfl, rfl, by decide, by decide, Tryz.underlying3, rfl, fun us h => by cases h⟩
    | succ j =>
     cases j with
     | zero => cases h; exact ⟨_, _, rfl, rfl, by decide, by decide, Tryz.underlying22, rfl, fun us h => by cases h⟩
     | succ j =>
      cases j with
      | zero => cases h; exact ⟨_, _, rfl, rfl, by decide, by decide, Tryz.underlying23, rfl, fun us h => by cases h⟩
      | succ j =>
       cases j with
       | zero => cases h; exact ⟨_, _, rfl, rfl, by decide, by decide, Tryz.underlying24, rfl, fun us h => by cases h⟩
       | succ j =>
        cases j with
        | zero => cases h; exact ⟨_, _, rfl, rfl, by decide, by decide, Tryz.underlying25, rfl, fun us h => by cases h⟩
        | succ j =>
         cases h⟩, (fun us hus fs hfs j τ h f hf => by
    cases hus
    rw [Tryz.underlying27] at hfs
    cases hfs
    cases j with
    | zero => cases h; cases hf; exact ⟨fun k e => by cases e; exact Tryz.underlying3, fun e => (by cases e), fun e => (by cases e)⟩
    | succ j =>
     cases j with
     | zero => cases h; cases hf; exact ⟨fun k e => (by cases e), fun e => (by cases e), fun e => (by cases e)⟩
     | succ j =>
      cases j with
      | zero => cases h; cases hf; exact ⟨fun k e => (by cases e), fun e => (by cases e), fun e => (by cases e)⟩
      | succ j =>
       cases j with
       | zero => cases h; cases hf; exact ⟨fun k e => (by cases e), fun e => (by cases e), fun e => (by cases e)⟩
       | succ j =>
        cases j with
        | zero => cases h; cases hf; exact ⟨fun k e => (by cases e), fun e => (by cases e), fun e => (by cases e)⟩
        | succ j =>
         cases h), Tryz.t27, rfl, rfl, fun _ _ => rfl⟩
theorem tn28 : TnOk Tryz.prog 28 (.fn [.st [.int .i64, .sl 103 (.st [.str, .int .i64, .sl 176 (.st [.int .i64, .sl 3 (.int .i64), .sl 3 (.int .i64)])]), .sl 123 (.st [.int .i64, .int .i64, .bool, .int .i64]), .sl 107 (.st [.sl 185 (.st [.int .i64, .int .i64]), .sl 25 (.sl 3 (.int .i64))]), .sl 3 (.int .i64)], .int .i64] (.int .i64)) := ⟨⟨_, _, _, Tryz.underlying28⟩, fun _ h => (by cases h), Tryz.t28, rfl, rfl, fun _ h => by cases h⟩
theorem tn29 : TnOk Tryz.prog 29 (.st [.sl 3 (.int .i64), .sl 3 (.int .i64)]) := ⟨⟨_, Tryz.underlying29, Tryz.eqGuardType29, Tryz.stoodInHeld29, rfl, fun j τ h => by
    cases j with
    | zero => cases h; exact ⟨_, _, rfl, rfl, by decide, by decide, Tryz.underlying25, rfl, fun us h => by cases h⟩
    | succ j =>
     cases j with
     | zero => cases h; exact ⟨_, _, rfl, rfl, by decide, by decide, Tryz.underlying25, rfl, fun us h => by cases h⟩
     | succ j =>
      cases h⟩, (fun us hus fs hfs j τ h f hf => by
    cases hus
    rw [Tryz.underlying29] at hfs
    cases hfs
    cases j with
    | zero => cases h; cases hf; exact ⟨fun k e => (by cases e), fun e => (by cases e), fun e => (by cases e)⟩
    | succ j =>
     cases j with
     | zero => cases h; cases hf; exact ⟨fun k e => (by cases e), fun e => (by cases e), fun e => (by cases e)⟩
     | succ j =>
      cases h), Tryz.t29, rfl, rfl, fun _ _ => rfl⟩
theorem tn30 : TnOk Tryz.prog 30 (.st [.sl 3 (.int .i64), .sl 3 (.int .i64)]) := ⟨⟨_, Tryz.underlying30, Tryz.eqGuardType30, Tryz.stoodInHeld30, rfl, fun j τ h => by
    cases j with
    | zero => cases h; exact ⟨_, _, rfl, rfl, by decide, by decide, Tryz.underlying25, rfl, fun us h => by cases h⟩
    | succ j =>
     cases j with
     | zero => cases h; exact ⟨_, _, rfl, rfl, by decide, by decide, Tryz.underlying25, rfl, fun us h => by cases h⟩
     | succ j =>
      cases h⟩, (fun us hus fs hfs j τ h f hf => by
    cases hus
    rw [Tryz.underlying30] at hfs
    cases hfs
    cases j with
    | zero => cases h; cases hf; exact ⟨fun k e => (by cases e), fun e => (by cases e), fun e => (by cases e)⟩
    | succ j =>
     cases j with
     | zero => cases h; cases hf; exact ⟨fun k e => (by cases e), fun e => (by cases e), fun e => (by cases e)⟩
     | succ j =>
      cases h), Tryz.t30, rfl, rfl, fun _ _ => rfl⟩
theorem tn32 : TnOk Tryz.prog 32 (.fn [.st [.int .i64, .sl 118 (.st [.str, .int .i64, .sl 159 (.st [.int .i64, .sl 3 (.int .i64), .sl 3 (.int .i64)])]), .sl 121 (.st [.int .i64, .int .i64, .bool, .int .i64]), .sl 126 (.st [.sl 170 (.st [.int .i64, .int .i64]), .sl 25 (.sl 3 (.int .i64))]), .sl 3 (.int .i64)], .int .i64] (.tup [.st [.sl 3 (.int .i64), .sl 3 (.int .i64)], .bool])) := ⟨⟨_, _, _, Tryz.underlying32⟩, fun _ h => (by cases h), Tryz.t32, rfl, rfl, fun _ h => by cases h⟩
theorem tn33 : TnOk Tryz.prog 33 (.sl 118 (.st [.str, .int .i64, .sl 159 (.st [.int .i64, .sl 3 (.int .i64), .sl 3 (.int .i64)])])) := ⟨⟨Tryz.underlying33, Tryz.t118, _, rfl, rfl, rfl, rfl, by decide, by decide, fun _ _ => rfl, fun k h => by cases h⟩, fun _ h => (by cases h), Tryz.t33, rfl, rfl, fun _ _ => rfl⟩
theorem tn34 : TnOk Tryz.prog 34 (.sl 121 (.st [.int .i64, .int .i64, .bool, .int .i64])) := ⟨⟨Tryz.underlying34, Tryz.t121, _, rfl, rfl, rfl, rfl, by decide, by decide, fun _ _ => rfl, fun k h => by cases h⟩, fun _ h => (by cases h), Tryz.t34, rfl, rfl, fun _ _ => rfl⟩
theorem tn35 : TnOk Tryz.prog 35 (.sl 126 (.st [.sl 170 (.st [.int .i64, .int .i64]), .sl 25 (.sl 3 (.int .i64))])) := ⟨⟨Tryz.underlying35, Tryz.t126, _, rfl, rfl, rfl, rfl, by decide, by decide, fun _ _ => rfl, fun k h => by cases h⟩, fun _ h => (by cases h), Tryz.t35, rfl, rfl, fun _ _ => rfl⟩
theorem tn36 : TnOk Tryz.prog 36 (.st [.int .i64, .sl 118 (.st [.str, .int .i64, .sl 159 (.st [.int .i64, .sl 3 (.int .i64), .sl 3 (.int .i64)])]), .sl 121 (.st [.int .i64, .int .i64, .bool, .int .i64]), .sl 126 (.st [.sl 170 (.st [.int .i64, .int .i64]), .sl 25 (.sl 3 (.int .i64))]), .sl 3 (.int .i64)]) := ⟨⟨_, Tryz.underlying36, Tryz.eqGuardType36, Tryz.stoodInHeld36, rfl, fun j τ h => by
    cases j with
    | zero => cases h; exact ⟨_, _, rfl, rfl, by decide, by decide, Tryz.underlying3, rfl, fun us h => by cases h⟩
    | succ j =>
     cases j with
     | zero => cases h; exact ⟨_, _, rfl, rfl, by decide, by decide, Tryz.underlying33, rfl, fun us h => by cases h⟩
     | succ j =>
      cases j with
      | zero => cases h; exact ⟨_, _, rfl, rfl, by decide, by decide, Tryz.underlying34, rfl, fun us h => by cases h⟩
      | succ j =>
       cases j with
       | zero => cases h; exact ⟨_, _, rfl, rfl, by decide, by decide, Tryz.underlying35, rfl, fun us h => by cases h⟩
       | succ j =>
        cases j with
        | zero => cases h; exact ⟨_, _, rfl, rfl, by decide, by decide, Tryz.underlying25, rfl, fun us h => by cases h⟩
        | succ j =>
         cases h⟩, (fun us hus fs hfs j τ h f hf => by
    cases hus
    rw [Tryz.underlying36] at hfs
    cases hfs
    cases j with
    | zero => cases h; cases hf; exact ⟨fun k e => by cases e; exact Tryz.underlying3, fun e => (by cases e), fun e => (by cases e)⟩
    | succ j =>
     cases j with
     | zero => cases h; cases hf; exact ⟨fun k e => (by cases e), fun e => (by cases e), fun e => (by cases e)⟩
     | succ j =>
      cases j with
      | zero => cases h; cases hf; exact ⟨fun k e => (by cases e), fun e => (by cases e), fun e => (by cases e)⟩
      | succ j =>
       cases j with
       | zero => cases h; cases hf; exact ⟨fun k e => (by cases e), fun e => (by cases e), fun e => (by cases e)⟩
       | succ j =>
        cases j with
        | zero => cases h; cases hf; exact ⟨fun k e => (by cases e), fun e => (by cases e), fun e => (by cases e)⟩
        | succ j =>
         cases h), Tryz.t36, rfl, rfl, fun _ _ => rfl⟩
theorem tn37 : TnOk Tryz.prog 37 (.st [.int .i64, .sl 118 (.st [.str, .int .i64, .sl 159 (.st [.int .i64, .sl 3 (.int .i64), .sl 3 (.int .i64)])]), .sl 121 (.st [.int .i64, .int .i64, .bool, .int .i64]), .sl 126 (.st [.sl 170 (.st [.int .i64, .int .i64]), .sl 25 (.sl 3 (.int .i64))]), .sl 3 (.int .i64)]) := ⟨⟨_, Tryz.underlying37, Tryz.eqGuardType37, Tryz.stoodInHeld37, rfl, fun j τ h => by
    cases j with
    | zero => cases h; exact ⟨_, _, rfl, rfl, by decide, by decide, Tryz.underlying3, rfl, fun us h => by cases h⟩
    | succ j =>
     cases j with
     | zero => cases h; exact ⟨_, _, rfl, rfl, by decide, by decide, Tryz.underlying33, rfl, fun us h => by cases h⟩
     | succ j =>
      cases j with
      | zero => cases h; exact ⟨_, _, rfl, rfl, by decide, by decide, Tryz.underlying34, rfl, fun us h => by cases h⟩
      | succ j =>
       cases j with
       | zero => cases h; exact ⟨_, _, rfl, rfl, by decide, by decide, Tryz.underlying35, rfl, fun us h => by cases h⟩
       | succ j =>
        cases j with
        | zero => cases h; exact ⟨_, _, rfl, rfl, by decide, by decide, Tryz.underlying25, rfl, fun us h => by cases h⟩
        | succ j =>
         cases h⟩, (fun us hus fs hfs j τ h f hf => by
    cases hus
    rw [Tryz.underlying37] at hfs
    cases hfs
    cases j with
    | zero => cases h; cases hf; exact ⟨fun k e => by cases e; exact Tryz.underlying3, fun e => (by cases e), fun e => (by cases e)⟩
    | succ j =>
     cases j with
     | zero => cases h; cases hf; exact ⟨fun k e => (by cases e), fun e => (by cases e), fun e => (by cases e)⟩
     | succ j =>
      cases j with
      | zero => cases h; cases hf; exact ⟨fun k e => (by cases e), fun e => (by cases e), fun e => (by cases e)⟩
      | succ j =>
       cases j with
       | zero => cases h; cases hf; exact ⟨fun k e => (by cases e), fun e => (by cases e), fun e => (by cases e)⟩
       | succ j =>
        cases j with
        | zero => cases h; cases hf; exact ⟨fun k e => (by cases e), fun e => (by cases e), fun e => (by cases e)⟩
        | succ j =>
         cases h), Tryz.t37, rfl, rfl, fun _ _ => rfl⟩
theorem tn38 : TnOk Tryz.prog 38 (.fn [.st [.int .i64, .sl 103 (.st [.str, .int .i64, .sl 176 (.st [.int .i64, .sl 3 (.int .i64), .sl 3 (.int .i64)])]), .sl 123 (.st [.int .i64, .int .i64, .bool, .int .i64]), .sl 107 (.st [.sl 185 (.st [.int .i64, .int .i64]), .sl 25 (.sl 3 (.int .i64))]), .sl 3 (.int .i64)]] (.st [.int .i64, .sl 118 (.st [.str, .int .i64, .sl 159 (.st [.int .i64, .sl 3 (.int .i64), .sl 3 (.int .i64)])]), .sl 121 (.st [.int .i64, .int .i64, .bool, .int .i64]), .sl 126 (.st [.sl 170 (.st [.int .i64, .int .i64]), .sl 25 (.sl 3 (.int .i64))]), .sl 3 (.int .i64)])) := ⟨⟨_, _, _, Tryz.underlying38⟩, fun _ h => (by cases h), Tryz.t38, rfl, rfl, fun _ h => by cases h⟩
theorem tn39 : TnOk Tryz.prog 39 (.fn [.st [.sl 3 (.int .i64), .sl 3 (.int .i64)], .st [.sl 3 (.int .i64), .sl 3 (.int .i64)]] (.bool)) := ⟨⟨_, _, _, Tryz.underlying39⟩, fun _ h => (by cases h), Tryz.t39, rfl, rfl, fun _ h => by cases h⟩
theorem tn40 : TnOk Tryz.prog 40 (.fn [.st [.int .i64, .sl 118 (.st [.str, .int .i64, .sl 159 (.st [.int .i64, .sl 3 (.int .i64), .sl 3 (.int .i64)])]), .sl 121 (.st [.int .i64, .int .i64, .bool, .int .i64]), .sl 126 (.st [.sl 170 (.st [.int .i64, .int .i64]), .sl 25 (.sl 3 (.int .i64))]), .sl 3 (.int .i64)], .st [.int .i64, .sl 118 (.st [.str, .int .i64, .sl 159 (.st [.int .i64, .sl 3 (.int .i64), .sl 3 (.int .i64)])]), .sl 121 (.st [.int .i64, .int .i64, .bool, .int .i64]), .sl 126 (.st [.sl 170 (.st [.int .i64, .int .i64]), .sl 25 (.sl 3 (.int .i64))]), .sl 3 (.int .i64)]] (.bool)) := ⟨⟨_, _, _, Tryz.underlying40⟩, fun _ h => (by cases h), Tryz.t40, rfl, rfl, fun _ h => by cases h⟩
theorem tn41 : TnOk Tryz.prog 41 (.fn [.st [.int .i64, .sl 118 (.st [.str, .int .i64, .sl 159 (.st [.int .i64, .sl 3 (.int .i64), .sl 3 (.int .i64)])]), .sl 121 (.st [.int .i64, .int .i64, .bool, .int .i64]), .sl 126 (.st [.sl 170 (.st [.int .i64, .int .i64]), .sl 25 (.sl 3 (.int .i64))]), .sl 3 (.int .i64)], .int .i64] (.int .i64)) := ⟨⟨_, _, _, Tryz.underlying41⟩, fun _ h => (by cases h), Tryz.t41, rfl, rfl, fun _ h => by cases h⟩
theorem tn42 : TnOk Tryz.prog 42 (.fn [.st [.sl 3 (.int .i64), .sl 3 (.int .i64)], .int .i64] (.int .i64)) := ⟨⟨_, _, _, Tryz.underlying42⟩, fun _ h => (by cases h), Tryz.t42, rfl, rfl, fun _ h => by cases h⟩
theorem tn43 : TnOk Tryz.prog 43 (.fn [.st [.int .i64, .sl 103 (.st [.str, .int .i64, .sl 176 (.st [.int .i64, .sl 3 (.int .i64), .sl 3 (.int .i64)])]), .sl 123 (.st [.int .i64, .int .i64, .bool, .int .i64]), .sl 107 (.st [.sl 185 (.st [.int .i64, .int .i64]), .sl 25 (.sl 3 (.int .i64))]), .sl 3 (.int .i64)], .int .i64] (.bool)) := ⟨⟨_, _, _, Tryz.underlying43⟩, fun _ h => (by cases h), Tryz.t43, rfl, rfl, fun _ h => by cases h⟩
theorem tn45 : TnOk Tryz.prog 45 (.sl 25 (.sl 3 (.int .i64))) := ⟨⟨Tryz.underlying45, Tryz.t25, _, rfl, rfl, rfl, rfl, by decide, by decide, fun _ _ => rfl, fun k h => by cases h⟩, fun _ h => (by cases h), Tryz.t45, rfl, rfl, fun _ _ => rfl⟩
theorem tn61 : TnOk Tryz.prog 61 (.fn [.sl 103 (.st [.str, .int .i64, .sl 176 (.st [.int .i64, .sl 3 (.int .i64), .sl 3 (.int .i64)])]), .int .i64] (.int .i64)) := ⟨⟨_, _, _, Tryz.underlying61⟩, fun _ h => (by cases h), Tryz.t61, rfl, rfl, fun _ h => by cases h⟩
theorem tn62 : TnOk Tryz.prog 62 (.fn [.sl 123 (.st [.int .i64, .int .i64, .bool, .int .i64]), .int .i64] (.int .i64)) := ⟨⟨_, _, _, Tryz.underlying62⟩, fun _ h => (by cases h), Tryz.t62, rfl, rfl, fun _ h => by cases h⟩
theorem tn63 : TnOk Tryz.prog 63 (.fn [.sl 107 (.st [.sl 185 (.st [.int .i64, .int .i64]), .sl 25 (.sl 3 (.int .i64))]), .int .i64] (.int .i64)) := ⟨⟨_, _, _, Tryz.underlying63⟩, fun _ h => (by cases h), Tryz.t63, rfl, rfl, fun _ h => by cases h⟩
theorem tn64 : TnOk Tryz.prog 64 (.fn [.sl 3 (.int .i64), .int .i64] (.int .i64)) := ⟨⟨_, _, _, Tryz.underlying64⟩, fun _ h => (by cases h), Tryz.t64, rfl, rfl, fun _ h => by cases h⟩
theorem tn65 : TnOk Tryz.prog 65 (.sl 30 (.st [.sl 3 (.int .i64), .sl 3 (.int .i64)])) := ⟨⟨Tryz.underlying65, Tryz.t30, _, rfl, rfl, rfl, rfl, by decide, by decide, fun _ _ => rfl, fun k h => by cases h⟩, fun _ h => (by cases h), Tryz.t65, rfl, rfl, fun _ _ => rfl⟩
theorem tn66 : TnOk Tryz.prog 66 (.fn [.st [.int .i64, .sl 118 (.st [.str, .int .i64, .sl 159 (.st [.int .i64, .sl 3 (.int .i64), .sl 3 (.int .i64)])]), .sl 121 (.st [.int .i64, .int .i64, .bool, .int .i64]), .sl 126 (.st [.sl 170 (.st [.int .i64, .int .i64]), .sl 25 (.sl 3 (.int .i64))]), .sl 3 (.int .i64)], .int .i64] (.sl 30 (.st [.sl 3 (.int .i64), .sl 3 (.int .i64)]))) := ⟨⟨_, _, _, Tryz.underlying66⟩, fun _ h => (by cases h), Tryz.t66, rfl, rfl, fun _ h => by cases h⟩
theorem tn67 : TnOk Tryz.prog 67 (.fn [.st [.int .i64, .sl 118 (.st [.str, .int .i64, .sl 159 (.st [.int .i64, .sl 3 (.int .i64), .sl 3 (.int .i64)])]), .sl 121 (.st [.int .i64, .int .i64, .bool, .int .i64]), .sl 126 (.st [.sl 170 (.st [.int .i64, .int .i64]), .sl 25 (.sl 3 (.int .i64))]), .sl 3 (.int .i64)], .st [.sl 3 (.int .i64), .sl 3 (.int .i64)]] (.int .i64)) := ⟨⟨_, _, _, Tryz.underlying67⟩, fun _ h => (by cases h), Tryz.t67, rfl, rfl, fun _ h => by cases h⟩
theorem tn68 : TnOk Tryz.prog 68 (.fn [.sl 103 (.st [.str, .int .i64, .sl 176 (.st [.int .i64, .sl 3 (.int .i64), .sl 3 (.int .i64)])])] (.sl 118 (.st [.str, .int .i64, .sl 159 (.st [.int .i64, .sl 3 (.int .i64), .sl 3 (.int .i64)])]))) := ⟨⟨_, _, _, Tryz.underlying68⟩, fun _ h => (by cases h), Tryz.t68, rfl, rfl, fun _ h => by cases h⟩
theorem tn69 : TnOk Tryz.prog 69 (.fn [.sl 123 (.st [.int .i64, .int .i64, .bool, .int .i64])] (.sl 121 (.st [.int .i64, .int .i64, .bool, .int .i64]))) := ⟨⟨_, _, _, Tryz.underlying69⟩, fun _ h => (by cases h), Tryz.t69, rfl, rfl, fun _ h => by cases h⟩
theorem tn70 : TnOk Tryz.prog 70 (.fn [.sl 107 (.st [.sl 185 (.st [.int .i64, .int .i64]), .sl 25 (.sl 3 (.int .i64))])] (.sl 126 (.st [.sl 170 (.st [.int .i64, .int .i64]), .sl 25 (.sl 3 (.int .i64))]))) := ⟨⟨_, _, _, Tryz.underlying70⟩, fun _ h => (by cases h), Tryz.t70, rfl, rfl, fun _ h => by cases h⟩
theorem tn71 : TnOk Tryz.prog 71 (.fn [.sl 3 (.int .i64)] (.sl 3 (.int .i64))) := ⟨⟨_, _, _, Tryz.underlying71⟩, fun _ h => (by cases h), Tryz.t71, rfl, rfl, fun _ h => by cases h⟩
theorem tn72 : TnOk Tryz.prog 72 (.fn [.sl 3 (.int .i64), .sl 3 (.int .i64)] (.bool)) := ⟨⟨_, _, _, Tryz.underlying72⟩, fun _ h => (by cases h), Tryz.t72, rfl, rfl, fun _ h => by cases h⟩
theorem tn73 : TnOk Tryz.prog 73 (.fn [.sl 118 (.st [.str, .int .i64, .sl 159 (.st [.int .i64, .sl 3 (.int .i64), .sl 3 (.int .i64)])]), .sl 118 (.st [.str, .int .i64, .sl 159 (.st [.int .i64, .sl 3 (.int .i64), .sl 3 (.int .i64)])])] (.bool)) := ⟨⟨_, _, _, Tryz.underlying73⟩, fun _ h => (by cases h), Tryz.t73, rfl, rfl, fun _ h => by cases h⟩
theorem tn74 : TnOk Tryz.prog 74 (.fn [.sl 121 (.st [.int .i64, .int .i64, .bool, .int .i64]), .sl 121 (.st [.int .i64, .int .i64, .bool, .int .i64])] (.bool)) := ⟨⟨_, _, _, Tryz.underlying74⟩, fun _ h => (by cases h), Tryz.t74, rfl, rfl, fun _ h => by cases h⟩
theorem tn75 : TnOk Tryz.prog 75 (.fn [.sl 126 (.st [.sl 170 (.st [.int .i64, .int .i64]), .sl 25 (.sl 3 (.int .i64))]), .sl 126 (.st [.sl 170 (.st [.int .i64, .int .i64]), .sl 25 (.sl 3 (.int .i64))])] (.bool)) := ⟨⟨_, _, _, Tryz.underlying75⟩, fun _ h => (by cases h), Tryz.t75, rfl, rfl, fun _ h => by cases h⟩
theorem tn76 : TnOk Tryz.prog 76 (.fn [.sl 118 (.st [.str, .int .i64, .sl 159 (.st [.int .i64, .sl 3 (.int .i64), .sl 3 (.int .i64)])]), .int .i64] (.int .i64)) := ⟨⟨_, _, _, Tryz.underlying76⟩, fun _ h => (by cases h), Tryz.t76, rfl, rfl, fun _ h => by cases h⟩
theorem tn77 : TnOk Tryz.prog 77 (.fn [.sl 121 (.st [.int .i64, .int .i64, .bool, .int .i64]), .int .i64] (.int .i64)) := ⟨⟨_, _, _, Tryz.underlying77⟩, fun _ h => (by cases h), Tryz.t77, rfl, rfl, fun _ h => by cases h⟩
theorem tn78 : TnOk Tryz.prog 78 (.fn [.sl 126 (.st [.sl 170 (.st [.int .i64, .int .i64]), .sl 25 (.sl 3 (.int .i64))]), .int .i64] (.int .i64)) := ⟨⟨_, _, _, Tryz.underlying78⟩, fun _ h => (by cases h), Tryz.t78, rfl, rfl, fun _ h => by cases h⟩
theorem tn81 : TnOk Tryz.prog 81 (.fn [.sl 25 (.sl 3 (.int .i64)), .int .i64] (.int .i64)) := ⟨⟨_, _, _, Tryz.underlying81⟩, fun _ h => (by cases h), Tryz.t81, rfl, rfl, fun _ h => by cases h⟩
theorem tn92 : TnOk Tryz.prog 92 (.fn [.sl 25 (.sl 3 (.int .i64))] (.sl 25 (.sl 3 (.int .i64)))) := ⟨⟨_, _, _, Tryz.underlying92⟩, fun _ h => (by cases h), Tryz.t92, rfl, rfl, fun _ h => by cases h⟩
theorem tn97 : TnOk Tryz.prog 97 (.fn [.sl 25 (.sl 3 (.int .i64)), .sl 25 (.sl 3 (.int .i64))] (.bool)) := ⟨⟨_, _, _, Tryz.underlying97⟩, fun _ h => (by cases h), Tryz.t97, rfl, rfl, fun _ h => by cases h⟩
theorem tn100 : TnOk Tryz.prog 100 (.fn [.st [.str, .int .i64, .sl 176 (.st [.int .i64, .sl 3 (.int .i64), .sl 3 (.int .i64)])], .int .i64] (.int .i64)) := ⟨⟨_, _, _, Tryz.underlying100⟩, fun _ h => (by cases h), Tryz.t100, rfl, rfl, fun _ h => by cases h⟩
theorem tn101 : TnOk Tryz.prog 101 (.sl 176 (.st [.int .i64, .sl 3 (.int .i64), .sl 3 (.int .i64)])) := ⟨⟨Tryz.underlying101, Tryz.t176, _, rfl, rfl, rfl, rfl, by decide, by decide, fun _ _ => rfl, fun k h => by cases h⟩, fun _ h => (by cases h), Tryz.t101, rfl, rfl, fun _ _ => rfl⟩
theorem tn102 : TnOk Tryz.prog 102 (.st [.str, .int .i64, .sl 176 (.st [.int .i64, .sl 3 (.int .i64), .sl 3 (.int .i64)])]) := ⟨⟨_, Tryz.underlying102, Tryz.eqGuardType102, Tryz.stoodInHeld102, rfl, fun j τ h => by
    cases j with
    | zero => cases h; exact ⟨_, _, rfl, rfl, by decide, by decide, Tryz.underlying9, rfl, fun us h => by cases h⟩
    | succ j =>
     cases j with
     | zero => cases h; exact ⟨_, _, rfl, rfl, by decide, by decide, Tryz.underlying3, rfl, fun us h => by cases h⟩
     | succ j =>
      cases j with
      | zero => cases h; exact ⟨_, _, rfl, rfl, by decide, by decide, Tryz.underlying101, rfl, fun us h => by cases h⟩
      | succ j =>
       cases h⟩, (fun us hus fs hfs j τ h f hf => by
    cases hus
    rw [Tryz.underlying102] at hfs
    cases hfs
    cases j with
    | zero => cases h; cases hf; exact ⟨fun k e => (by cases e), fun e => (by cases e), fun _ => Tryz.underlying9⟩
    | succ j =>
     cases j with
     | zero => cases h; cases hf; exact ⟨fun k e => by cases e; exact Tryz.underlying3, fun e => (by cases e), fun e => (by cases e)⟩
     | succ j =>
      cases j with
      | zero => cases h; cases hf; exact ⟨fun k e => (by cases e), fun e => (by cases e), fun e => (by cases e)⟩
      | succ j =>
       cases h), Tryz.t102, rfl, rfl, fun _ _ => rfl⟩
theorem tn103 : TnOk Tryz.prog 103 (.st [.str, .int .i64, .sl 176 (.st [.int .i64, .sl 3 (.int .i64), .sl 3 (.int .i64)])]) := ⟨⟨_, Tryz.underlying103, Tryz.eqGuardType103, Tryz.stoodInHeld103, rfl, fun j τ h => by
    cases j with
    | zero => cases h; exact ⟨_, _, rfl, rfl, by decide, by decide, Tryz.underlying9, rfl, fun us h => by cases h⟩
    | succ j =>
     cases j with
     | zero => cases h; exact ⟨_, _, rfl, rfl, by decide, by decide, Tryz.underlying3, rfl, fun us h => by cases h⟩
     | succ j =>
      cases j with
      | zero => cases h; exact ⟨_, _, rfl, rfl, by decide, by decide, Tryz.underlying101, rfl, fun us h => by cases h⟩
      | succ j =>
       cases h⟩, (fun us hus fs hfs j τ h f hf => by
    cases hus
    rw [Tryz.underlying103] at hfs
    cases hfs
    cases j with
    | zero => cases h; cases hf; exact ⟨fun k e => (by cases e), fun e => (by cases e), fun _ => Tryz.underlying9⟩
    | succ j =>
     cases j with
     | zero => cases h; cases hf; exact ⟨fun k e => by cases e; exact Tryz.underlying3, fun e => (by cases e), fun e => (by cases e)⟩
     | succ j =>
      cases j with
      | zero => cases h; cases hf; exact ⟨fun k e => (by cases e), fun e => (by cases e), fun e => (by cases e)⟩
      | succ j =>
       cases h), Tryz.t103, rfl, rfl, fun _ _ => rfl⟩
theorem tn104 : TnOk Tryz.prog 104 (.fn [.st [.sl 185 (.st [.int .i64, .int .i64]), .sl 25 (.sl 3 (.int .i64))], .int .i64] (.int .i64)) := ⟨⟨_, _, _, Tryz.underlying104⟩, fun _ h => (by cases h), Tryz.t104, rfl, rfl, fun _ h => by cases h⟩
theorem tn105 : TnOk Tryz.prog 105 (.sl 185 (.st [.int .i64, .int .i64])) := ⟨⟨Tryz.underlying105, Tryz.t185, _, rfl, rfl, rfl, rfl, by decide, by decide, fun _ _ => rfl, fun k h => by cases h⟩, fun _ h => (by cases h), Tryz.t105, rfl, rfl, fun _ _ => rfl⟩
theorem tn106 : TnOk Tryz.prog 106 (.st [.sl 185 (.st [.int .i64, .int .i64]), .sl 25 (.sl 3 (.int .i64))]) := ⟨⟨_, Tryz.underlying106, Tryz.eqGuardType106, Tryz.stoodInHeld106, rfl, fun j τ h => by
    cases j with
    | zero => cases h; exact ⟨_, _, rfl, rfl, by decide, by decide, Tryz.underlying105, rfl, fun us h => by cases h⟩
    | succ j =>
     cases j with
     | zero => cases h; exact ⟨_, _, rfl, rfl, by decide, by decide, Tryz.underlying45, rfl, fun us h => by cases h⟩
     | succ j =>
      cases h⟩, (fun us hus fs hfs j τ h f hf => by
    cases hus
    rw [Tryz.underlying106] at hfs
    cases hfs
    cases j with
    | zero => cases h; cases hf; exact ⟨fun k e => (by cases e), fun e => (by cases e), fun e => (by cases e)⟩
    | succ j =>
     cases j with
     | zero => cases h; cases hf; exact ⟨fun k e => (by cases e), fun e => (by cases e), fun e => (by cases e)⟩
     | succ j =>
      cases h), Tryz.t106, rfl, rfl, fun _ _ => rfl⟩
theorem tn107 : TnOk Tryz.prog 107 (.st [.sl 185 (.st [.int .i64, .int .i64]), .sl 25 (.sl 3 (.int .i64))]) := ⟨⟨_, Tryz.underlying107, Tryz.eqGuardType107, Tryz.stoodInHeld107, rfl, fun j τ h => by
    cases j with
    | zero => cases h; exact ⟨_, _, rfl, rfl, by decide, by decide, Tryz.underlying105, rfl, fun us h => by cases h⟩
    | succ j =>
     cases j with
     | zero => cases h; exact ⟨_, _, rfl, rfl, by decide, by decide, Tryz.underlying45, rfl, fun us h => by cases h⟩
     | succ j =>
      cases h⟩, (fun us hus fs hfs j τ h f hf => by
    cases hus
    rw [Tryz.underlying107] at hfs
    cases hfs
    cases j with
    | zero => cases h; cases hf; exact ⟨fun k e => (by cases e), fun e => (by cases e), fun e => (by cases e)⟩
    | succ j =>
     cases j with
     | zero => cases h; cases hf; exact ⟨fun k e => (by cases e), fun e => (by cases e), fun e => (by cases e)⟩
     | succ j =>
      cases h), Tryz.t107, rfl, rfl, fun _ _ => rfl⟩
theorem tn108 : TnOk Tryz.prog 108 (.fn [.st [.int .i64, .sl 118 (.st [.str, .int .i64, .sl 159 (.st [.int .i64, .sl 3 (.int .i64), .sl 3 (.int .i64)])]), .sl 121 (.st [.int .i64, .int .i64, .bool, .int .i64]), .sl 126 (.st [.sl 170 (.st [.int .i64, .int .i64]), .sl 25 (.sl 3 (.int .i64))]), .sl 3 (.int .i64)]] (.bool)) := ⟨⟨_, _, _, Tryz.underlying108⟩, fun _ h => (by cases h), Tryz.t108, rfl, rfl, fun _ h => by cases h⟩
theorem tn109 : TnOk Tryz.prog 109 (.fn [.int .i64, .int .i64, .int .i64] (.bool)) := ⟨⟨_, _, _, Tryz.underlying109⟩, fun _ h => (by cases h), Tryz.t109, rfl, rfl, fun _ h => by cases h⟩
theorem tn110 : TnOk Tryz.prog 110 (.fn [.int .i64, .int .i64] (.sl 25 (.sl 3 (.int .i64)))) := ⟨⟨_, _, _, Tryz.underlying110⟩, fun _ h => (by cases h), Tryz.t110, rfl, rfl, fun _ h => by cases h⟩
theorem tn111 : TnOk Tryz.prog 111 (.fn [.st [.int .i64, .sl 118 (.st [.str, .int .i64, .sl 159 (.st [.int .i64, .sl 3 (.int .i64), .sl 3 (.int .i64)])]), .sl 121 (.st [.int .i64, .int .i64, .bool, .int .i64]), .sl 126 (.st [.sl 170 (.st [.int .i64, .int .i64]), .sl 25 (.sl 3 (.int .i64))]), .sl 3 (.int .i64)]] (.sl 25 (.sl 3 (.int .i64)))) := ⟨⟨_, _, _, Tryz.underlying111⟩, fun _ h => (by cases h), Tryz.t111, rfl, rfl, fun _ h => by cases h⟩
theorem tn112 : TnOk Tryz.prog 112 (.fn [.st [.int .i64, .sl 118 (.st [.str, .int .i64, .sl 159 (.st [.int .i64, .sl 3 (.int .i64), .sl 3 (.int .i64)])]), .sl 121 (.st [.int .i64, .int .i64, .bool, .int .i64]), .sl 126 (.st [.sl 170 (.st [.int .i64, .int .i64]), .sl 25 (.sl 3 (.int .i64))]), .sl 3 (.int .i64)], .st [.sl 3 (.int .i64), .sl 3 (.int .i64)]] (.bool)) := ⟨⟨_, _, _, Tryz.underlying112⟩, fun _ h => (by cases h), Tryz.t112, rfl, rfl, fun _ h => by cases h⟩
theorem tn113 : TnOk Tryz.prog 113 (.fn [.st [.sl 3 (.int .i64), .sl 3 (.int .i64)]] (.st [.sl 3 (.int .i64), .sl 3 (.int .i64)])) := ⟨⟨_, _, _, Tryz.underlying113⟩, fun _ h => (by cases h), Tryz.t113, rfl, rfl, fun _ h => by cases h⟩
theorem tn114 : TnOk Tryz.prog 114 (.fn [.int .i64, .int .i64] (.int .i64)) := ⟨⟨_, _, _, Tryz.underlying114⟩, fun _ h => (by cases h), Tryz.t114, rfl, rfl, fun _ h => by cases h⟩
theorem tn115 : TnOk Tryz.prog 115 (.fn [.st [.int .i64, .sl 118 (.st [.str, .int .i64, .sl 159 (.st [.int .i64, .sl 3 (.int .i64), .sl 3 (.int .i64)])]), .sl 121 (.st [.int .i64, .int .i64, .bool, .int .i64]), .sl 126 (.st [.sl 170 (.st [.int .i64, .int .i64]), .sl 25 (.sl 3 (.int .i64))]), .sl 3 (.int .i64)], .st [.sl 3 (.int .i64), .sl 3 (.int .i64)], .int .i64] (.int .i64)) := ⟨⟨_, _, _, Tryz.underlying115⟩, fun _ h => (by cases h), Tryz.t115, rfl, rfl, fun _ h => by cases h⟩
theorem tn116 : TnOk Tryz.prog 116 (.sl 159 (.st [.int .i64, .sl 3 (.int .i64), .sl 3 (.int .i64)])) := ⟨⟨Tryz.underlying116, Tryz.t159, _, rfl, rfl, rfl, rfl, by decide, by decide, fun _ _ => rfl, fun k h => by cases h⟩, fun _ h => (by cases h), Tryz.t116, rfl, rfl, fun _ _ => rfl⟩
theorem tn117 : TnOk Tryz.prog 117 (.st [.str, .int .i64, .sl 159 (.st [.int .i64, .sl 3 (.int .i64), .sl 3 (.int .i64)])]) := ⟨⟨_, Tryz.underlying117, Tryz.eqGuardType117, Tryz.stoodInHeld117, rfl, fun j τ h => by
    cases j with
    | zero => cases h; exact ⟨_, _, rfl, rfl, by decide, by decide, Tryz.underlying9, rfl, fun us h => by cases h⟩
    | succ j =>
     cases j with
     | zero => cases h; exact ⟨_, _, rfl, rfl, by decide, by decide, Tryz.underlying3, rfl, fun us h => by cases h⟩
     | succ j =>
      cases j with
      | zero => cases h; exact ⟨_, _, rfl, rfl, by decide, by decide, Tryz.underlying116, rfl, fun us h => by cases h⟩
      | succ j =>
       cases h⟩, (fun us hus fs hfs j τ h f hf => by
    cases hus
    rw [Tryz.underlying117] at hfs
    cases hfs
    cases j with
    | zero => cases h; cases hf; exact ⟨fun k e => (by cases e), fun e => (by cases e), fun _ => Tryz.underlying9⟩
    | succ j =>
     cases j with
     | zero => cases h; cases hf; exact ⟨fun k e => by cases e; exact Tryz.underlying3, fun e => (by cases e), fun e => (by cases e)⟩
     | succ j =>
      cases j with
      | zero => cases h; cases hf; exact ⟨fun k e => (by cases e), fun e => (by cases e), fun e => (by cases e)⟩
      | succ j =>
       cases h), Tryz.t117, rfl, rfl, fun _ _ => rfl⟩
theorem tn118 : TnOk Tryz.prog 118 (.st [.str, .int .i64, .sl 159 (.st [.int .i64, .sl 3 (.int .i64), .sl 3 (.int .i64)])]) := ⟨⟨_, Tryz.underlying118, Tryz.eqGuardType118, Tryz.stoodInHeld118, rfl, fun j τ h => by
    cases j with
    | zero => cases h; exact ⟨_, _, rfl, rfl, by decide, by decide, Tryz.underlying9, rfl, fun us h => by cases h⟩
    | succ j =>
     cases j with
     | zero => cases h; exact ⟨_, _, rfl, rfl, by decide, by decide, Tryz.underlying3, rfl, fun us h => by cases h⟩
     | succ j =>
      cases j with
      | zero => cases h; exact ⟨_, _, rfl, rfl, by decide, by decide, Tryz.underlying116, rfl, fun us h => by cases h⟩
      | succ j =>
       cases h⟩, (fun us hus fs hfs j τ h f hf => by
    cases hus
    rw [Tryz.underlying118] at hfs
    cases hfs
    cases j with
    | zero => cases h; cases hf; exact ⟨fun k e => (by cases e), fun e => (by cases e), fun _ => Tryz.underlying9⟩
    | succ j =>
     cases j with
     | zero => cases h; cases hf; exact ⟨fun k e => by cases e; exact Tryz.underlying3, fun e => (by cases e), fun e => (by cases e)⟩
     | succ j =>
      cases j with
      | zero => cases h; cases hf; exact ⟨fun k e => (by cases e), fun e => (by cases e), fun e => (by cases e)⟩
      | succ j =>
       cases h), Tryz.t118, rfl, rfl, fun _ _ => rfl⟩
theorem tn119 : TnOk Tryz.prog 119 (.fn [.st [.str, .int .i64, .sl 176 (.st [.int .i64, .sl 3 (.int .i64), .sl 3 (.int .i64)])]] (.st [.str, .int .i64, .sl 159 (.st [.int .i64, .sl 3 (.int .i64), .sl 3 (.int .i64)])])) := ⟨⟨_, _, _, Tryz.underlying119⟩, fun _ h => (by cases h), Tryz.t119, rfl, rfl, fun _ h => by cases h⟩
theorem tn120 : TnOk Tryz.prog 120 (.st [.int .i64, .int .i64, .bool, .int .i64]) := ⟨⟨_, Tryz.underlying120, Tryz.eqGuardType120, Tryz.stoodInHeld120, rfl, fun j τ h => by
    cases j with
    | zero => cases h; exact ⟨_, _, rfl, rfl, by decide, by decide, Tryz.underlying3, rfl, fun us h => by cases h⟩
    | succ j =>
     cases j with
     | zero => cases h; exact ⟨_, _, rfl, rfl, by decide, by decide, Tryz.underlying3, rfl, fun us h => by cases h⟩
     | succ j =>
      cases j with
      | zero => cases h; exact ⟨_, _, rfl, rfl, by decide, by decide, Tryz.underlying4, rfl, fun us h => by cases h⟩
      | succ j =>
       cases j with
       | zero => cases h; exact ⟨_, _, rfl, rfl, by decide, by decide, Tryz.underlying3, rfl, fun us h => by cases h⟩
       | succ j =>
        cases h⟩, (fun us hus fs hfs j τ h f hf => by
    cases hus
    rw [Tryz.underlying120] at hfs
    cases hfs
    cases j with
    | zero => cases h; cases hf; exact ⟨fun k e => by cases e; exact Tryz.underlying3, fun e => (by cases e), fun e => (by cases e)⟩
    | succ j =>
     cases j with
     | zero => cases h; cases hf; exact ⟨fun k e => by cases e; exact Tryz.underlying3, fun e => (by cases e), fun e => (by cases e)⟩
     | succ j =>
      cases j with
      | zero => cases h; cases hf; exact ⟨fun k e => (by cases e), fun _ => Tryz.underlying4, fun e => (by cases e)⟩
      | succ j =>
       cases j with
       | zero => cases h; cases hf; exact ⟨fun k e => by cases e; exact Tryz.underlying3, fun e => (by cases e), fun e => (by cases e)⟩
       | succ j =>
        cases h), Tryz.t120, rfl, rfl, fun _ _ => rfl⟩
theorem tn121 : TnOk Tryz.prog 121 (.st [.int .i64, .int .i64, .bool, .int .i64]) := ⟨⟨_, Tryz.underlying121, Tryz.eqGuardType121, Tryz.stoodInHeld121, rfl, fun j τ h => by
    cases j with
    | zero => cases h; exact ⟨_, _, rfl, rfl, by decide, by decide, Tryz.underlying3, rfl, fun us h => by cases h⟩
    | succ j =>
     cases j with
     | zero => cases h; exact ⟨_, _, rfl, rfl, by decide, by decide, Tryz.underlying3, rfl, fun us h => by cases h⟩
     | succ j =>
      cases j with
      | zero => cases h; exact ⟨_, _, rfl, rfl, by decide, by decide, Tryz.underlying4, rfl, fun us h => by cases h⟩
      | succ j =>
       cases j with
       | zero => cases h; exact ⟨_, _, rfl, rfl, by decide, by decide, Tryz.underlying3, rfl, fun us h => by cases h⟩
       | succ j =>
        cases h⟩, (fun us hus fs hfs j τ h f hf => by
    cases hus
    rw [Tryz.underlying121] at hfs
    cases hfs
    cases j with
    | zero => cases h; cases hf; exact ⟨fun k e => by cases e; exact Tryz.underlying3, fun e => (by cases e), fun e => (by cases e)⟩
    | succ j =>
     cases j with
     | zero => cases h; cases hf; exact ⟨fun k e => by cases e; exact Tryz.underlying3, fun e => (by cases e), fun e => (by cases e)⟩
     | succ j =>
      cases j with
      | zero => cases h; cases hf; exact ⟨fun k e => (by cases e), fun _ => Tryz.underlying4, fun e => (by cases e)⟩
      | succ j =>
       cases j with
       | zero => cases h; cases hf; exact ⟨fun k e => by cases e; exact Tryz.underlying3, fun e => (by cases e), fun e => (by cases e)⟩
       | succ j =>
        cases h), Tryz.t121, rfl, rfl, fun _ _ => rfl⟩
theorem tn122 : TnOk Tryz.prog 122 (.fn [.st [.int .i64, .int .i64, .bool, .int .i64]] (.st [.int .i64, .int .i64, .bool, .int .i64])) := ⟨⟨_, _, _, Tryz.underlying122⟩, fun _ h => (by cases h), Tryz.t122, rfl, rfl, fun _ h => by cases h⟩
theorem tn123 : TnOk Tryz.prog 123 (.st [.int .i64, .int .i64, .bool, .int .i64]) := ⟨⟨_, Tryz.underlying123, Tryz.eqGuardType123, Tryz.stoodInHeld123, rfl, fun j τ h => by
    cases j with
    | zero => cases h; exact ⟨_, _, rfl, rfl, by decide, by decide, Tryz.underlying3, rfl, fun us h => by cases h⟩
    | succ j =>
     cases j with
     | zero => cases h; exact ⟨_, _, rfl, rfl, by decide, by decide, Tryz.underlying3, rfl, fun us h => by cases h⟩
     | succ j =>
      cases j with
      | zero => cases h; exact ⟨_, _, rfl, rfl, by decide, by decide, Tryz.underlying4, rfl, fun us h => by cases h⟩
      | succ j =>
       cases j with
       | zero => cases h; exact ⟨_, _, rfl, rfl, by decide, by decide, Tryz.underlying3, rfl, fun us h => by cases h⟩
       | succ j =>
        cases h⟩, (fun us hus fs hfs j τ h f hf => by
    cases hus
    rw [Tryz.underlying123] at hfs
    cases hfs
    cases j with
    | zero => cases h; cases hf; exact ⟨fun k e => by cases e; exact Tryz.underlying3, fun e => (by cases e), fun e => (by cases e)⟩
    | succ j =>
     cases j with
     | zero => cases h; cases hf; exact ⟨fun k e => by cases e; exact Tryz.underlying3, fun e => (by cases e), fun e => (by cases e)⟩
     | succ j =>
      cases j with
      | zero => cases h; cases hf; exact ⟨fun k e => (by cases e), fun _ => Tryz.underlying4, fun e => (by cases e)⟩
      | succ j =>
       cases j with
       | zero => cases h; cases hf; exact ⟨fun k e => by cases e; exact Tryz.underlying3, fun e => (by cases e), fun e => (by cases e)⟩
       | succ j =>
        cases h), Tryz.t123, rfl, rfl, fun _ _ => rfl⟩
theorem tn124 : TnOk Tryz.prog 124 (.sl 170 (.st [.int .i64, .int .i64])) := ⟨⟨Tryz.underlying124, Tryz.t170, _, rfl, rfl, rfl, rfl, by decide, by decide, fun _ _ => rfl, fun k h => by cases h⟩, fun _ h => (by cases h), Tryz.t124, rfl, rfl, fun _ _ => rfl⟩
theorem tn125 : TnOk Tryz.prog 125 (.st [.sl 170 (.st [.int .i64, .int .i64]), .sl 25 (.sl 3 (.int .i64))]) := ⟨⟨_, Tryz.underlying125, Tryz.eqGuardType125, Tryz.stoodInHeld125, rfl, fun j τ h => by
    cases j with
    | zero => cases h; exact ⟨_, _, rfl, rfl, by decide, by decide, Tryz.underlying124, rfl, fun us h => by cases h⟩
    | succ j =>
     cases j with
     | zero => cases h; exact ⟨_, _, rfl, rfl, by decide, by decide, Tryz.underlying45, rfl, fun us h => by cases h⟩
     | succ j =>
      cases h⟩, (fun us hus fs hfs j τ h f hf => by
    cases hus
    rw [Tryz.underlying125] at hfs
    cases hfs
    cases j with
    | zero => cases h; cases hf; exact ⟨fun k e => (by cases e), fun e => (by cases e), fun e => (by cases e)⟩
    | succ j =>
     cases j with
     | zero => cases h; cases hf; exact ⟨fun k e => (by cases e), fun e => (by cases e), fun e => (by cases e)⟩
     | succ j =>
      cases h), Tryz.t125, rfl, rfl, fun _ _ => rfl⟩
theorem tn126 : TnOk Tryz.prog 126 (.st [.sl 170 (.st [.int .i64, .int .i64]), .sl 25 (.sl 3 (.int .i64))]) := ⟨⟨_, Tryz.underlying126, Tryz.eqGuardType126, Tryz.stoodInHeld126, rfl, fun j τ h => by
    cases j with
    | zero => cases h; exact ⟨_, _, rfl, rfl, by decide, by decide, Tryz.underlying124, rfl, fun us h => by cases h⟩
    | succ j =>
     cases j with
     | zero => cases h; exact ⟨_, _, rfl, rfl, by decide, by decide, Tryz.underlying45, rfl, fun us h => by cases h⟩
     | succ j =>
      cases h⟩, (fun us hus fs hfs j τ h f hf => by
    cases hus
    rw [Tryz.underlying126] at hfs
    cases hfs
    cases j with
    | zero => cases h; cases hf; exact ⟨fun k e => (by cases e), fun e => (by cases e), fun e => (by cases e)⟩
    | succ j =>
     cases j with
     | zero => cases h; cases hf; exact ⟨fun k e => (by cases e), fun e => (by cases e), fun e => (by cases e)⟩
     | succ j =>
      cases h), Tryz.t126, rfl, rfl, fun _ _ => rfl⟩
theorem tn127 : TnOk Tryz.prog 127 (.fn [.st [.sl 185 (.st [.int .i64, .int .i64]), .sl 25 (.sl 3 (.int .i64))]] (.st [.sl 170 (.st [.int .i64, .int .i64]), .sl 25 (.sl 3 (.int .i64))])) := ⟨⟨_, _, _, Tryz.underlying127⟩, fun _ h => (by cases h), Tryz.t127, rfl, rfl, fun _ h => by cases h⟩
theorem tn128 : TnOk Tryz.prog 128 (.fn [] (.st [.sl 3 (.int .i64), .sl 3 (.int .i64)])) := ⟨⟨_, _, _, Tryz.underlying128⟩, fun _ h => (by cases h), Tryz.t128, rfl, rfl, fun _ h => by cases h⟩
theorem tn129 : TnOk Tryz.prog 129 (.fn [.st [.str, .int .i64, .sl 159 (.st [.int .i64, .sl 3 (.int .i64), .sl 3 (.int .i64)])], .st [.str, .int .i64, .sl 159 (.st [.int .i64, .sl 3 (.int .i64), .sl 3 (.int .i64)])]] (.bool)) := ⟨⟨_, _, _, Tryz.underlying129⟩, fun _ h => (by cases h), Tryz.t129, rfl, rfl, fun _ h => by cases h⟩
theorem tn130 : TnOk Tryz.prog 130 (.fn [.st [.int .i64, .int .i64, .bool, .int .i64], .st [.int .i64, .int .i64, .bool, .int .i64]] (.bool)) := ⟨⟨_, _, _, Tryz.underlying130⟩, fun _ h => (by cases h), Tryz.t130, rfl, rfl, fun _ h => by cases h⟩
theorem tn131 : TnOk Tryz.prog 131 (.fn [.st [.sl 170 (.st [.int .i64, .int .i64]), .sl 25 (.sl 3 (.int .i64))], .st [.sl 170 (.st [.int .i64, .int .i64]), .sl 25 (.sl 3 (.int .i64))]] (.bool)) := ⟨⟨_, _, _, Tryz.underlying131⟩, fun _ h => (by cases h), Tryz.t131, rfl, rfl, fun _ h => by cases h⟩
theorem tn132 : TnOk Tryz.prog 132 (.fn [.int .i64] (.str)) := ⟨⟨_, _, _, Tryz.underlying132⟩, fun _ h => (by cases h), Tryz.t132, rfl, rfl, fun _ h => by cases h⟩
theorem tn133 : TnOk Tryz.prog 133 (.fn [.sl 159 (.st [.int .i64, .sl 3 (.int .i64), .sl 3 (.int .i64)]), .int .i64] (.int .i64)) := ⟨⟨_, _, _, Tryz.underlying133⟩, fun _ h => (by cases h), Tryz.t133, rfl, rfl, fun _ h => by cases h⟩
theorem tn134 : TnOk Tryz.prog 134 (.fn [.sl 170 (.st [.int .i64, .int .i64]), .int .i64] (.int .i64)) := ⟨⟨_, _, _, Tryz.underlying134⟩, fun _ h => (by cases h), Tryz.t134, rfl, rfl, fun _ h => by cases h⟩
theorem tn143 : TnOk Tryz.prog 143 (.fn [.int .i64] (.bool)) := ⟨⟨_, _, _, Tryz.underlying143⟩, fun _ h => (by cases h), Tryz.t143, rfl, rfl, fun _ h => by cases h⟩
theorem tn146 : TnOk Tryz.prog 146 (.fn [.sl 3 (.int .i64), .fn [.int .i64] (.bool)] (.sl 3 (.int .i64))) := ⟨⟨_, _, _, Tryz.underlying146⟩, fun _ h => (by cases h), Tryz.t146, rfl, rfl, fun _ h => by cases h⟩
theorem tn148 : TnOk Tryz.prog 148 (.fn [.sl 176 (.st [.int .i64, .sl 3 (.int .i64), .sl 3 (.int .i64)]), .int .i64] (.int .i64)) := ⟨⟨_, _, _, Tryz.underlying148⟩, fun _ h => (by cases h), Tryz.t148, rfl, rfl, fun _ h => by cases h⟩
theorem tn149 : TnOk Tryz.prog 149 (.fn [.sl 185 (.st [.int .i64, .int .i64]), .int .i64] (.int .i64)) := ⟨⟨_, _, _, Tryz.underlying149⟩, fun _ h => (by cases h), Tryz.t149, rfl, rfl, fun _ h => by cases h⟩
theorem tn150 : TnOk Tryz.prog 150 (.fn [.st [.str, .int .i64, .sl 159 (.st [.int .i64, .sl 3 (.int .i64), .sl 3 (.int .i64)])], .int .i64, .int .i64] (.bool)) := ⟨⟨_, _, _, Tryz.underlying150⟩, fun _ h => (by cases h), Tryz.t150, rfl, rfl, fun _ h => by cases h⟩
theorem tn151 : TnOk Tryz.prog 151 (.fn [.st [.int .i64, .sl 118 (.st [.str, .int .i64, .sl 159 (.st [.int .i64, .sl 3 (.int .i64), .sl 3 (.int .i64)])]), .sl 121 (.st [.int .i64, .int .i64, .bool, .int .i64]), .sl 126 (.st [.sl 170 (.st [.int .i64, .int .i64]), .sl 25 (.sl 3 (.int .i64))]), .sl 3 (.int .i64)], .str] (.int .i64)) := ⟨⟨_, _, _, Tryz.underlying151⟩, fun _ h => (by cases h), Tryz.t151, rfl, rfl, fun _ h => by cases h⟩
theorem tn152 : TnOk Tryz.prog 152 (.fn [.st [.sl 170 (.st [.int .i64, .int .i64]), .sl 25 (.sl 3 (.int .i64))]] (.bool)) := ⟨⟨_, _, _, Tryz.underlying152⟩, fun _ h => (by cases h), Tryz.t152, rfl, rfl, fun _ h => by cases h⟩
theorem tn153 : TnOk Tryz.prog 153 (.fn [.st [.int .i64, .sl 118 (.st [.str, .int .i64, .sl 159 (.st [.int .i64, .sl 3 (.int .i64), .sl 3 (.int .i64)])]), .sl 121 (.st [.int .i64, .int .i64, .bool, .int .i64]), .sl 126 (.st [.sl 170 (.st [.int .i64, .int .i64]), .sl 25 (.sl 3 (.int .i64))]), .sl 3 (.int .i64)], .st [.sl 3 (.int .i64), .sl 3 (.int .i64)], .st [.int .i64, .int .i64, .int .i64, .int .i64]] (.bool)) := ⟨⟨_, _, _, Tryz.underlying153⟩, fun _ h => (by cases h), Tryz.t153, rfl, rfl, fun _ h => by cases h⟩
theorem tn154 : TnOk Tryz.prog 154 (.st [.int .i64, .int .i64, .int .i64, .int .i64]) := ⟨⟨_, Tryz.underlying154, Tryz.eqGuardType154, Tryz.stoodInHeld154, rfl, fun j τ h => by
    cases j with
    | zero => cases h; exact ⟨_, _, rfl, rfl, by decide, by decide, Tryz.underlying3, rfl, fun us h => by cases h⟩
    | succ j =>
     cases j with
     | zero => cases h; exact ⟨_, _, rfl, rfl, by decide, by decide, Tryz.underlying3, rfl, fun us h => by cases h⟩
     | succ j =>
      cases j with
      | zero => cases h; exact ⟨_, _, rfl, rfl, by decide, by decide, Tryz.underlying3, rfl, fun us h => by cases h⟩
      | succ j =>
       cases j with
       | zero => cases h; exact ⟨_, _, rfl, rfl, by decide, by decide, Tryz.underlying3, rfl, fun us h => by cases h⟩
       | succ j =>
        cases h⟩, (fun us hus fs hfs j τ h f hf => by
    cases hus
    rw [Tryz.underlying154] at hfs
    cases hfs
    cases j with
    | zero => cases h; cases hf; exact ⟨fun k e => by cases e; exact Tryz.underlying3, fun e => (by cases e), fun e => (by cases e)⟩
    | succ j =>
     cases j with
     | zero => cases h; cases hf; exact ⟨fun k e => by cases e; exact Tryz.underlying3, fun e => (by cases e), fun e => (by cases e)⟩
     | succ j =>
      cases j with
      | zero => cases h; cases hf; exact ⟨fun k e => by cases e; exact Tryz.underlying3, fun e => (by cases e), fun e => (by cases e)⟩
      | succ j =>
       cases j with
       | zero => cases h; cases hf; exact ⟨fun k e => by cases e; exact Tryz.underlying3, fun e => (by cases e), fun e => (by cases e)⟩
       | succ j =>
        cases h), Tryz.t154, rfl, rfl, fun _ _ => rfl⟩
theorem tn155 : TnOk Tryz.prog 155 (.st [.int .i64, .int .i64, .int .i64, .int .i64]) := ⟨⟨_, Tryz.underlying155, Tryz.eqGuardType155, Tryz.stoodInHeld155, rfl, fun j τ h => by
    cases j with
    | zero => cases h; exact ⟨_, _, rfl, rfl, by decide, by decide, Tryz.underlying3, rfl, fun us h => by cases h⟩
    | succ j =>
     cases j with
     | zero => cases h; exact ⟨_, _, rfl, rfl, by decide, by decide, Tryz.underlying3, rfl, fun us h => by cases h⟩
     | succ j =>
      cases j with
      | zero => cases h; exact ⟨_, _, rfl, rfl, by decide, by decide, Tryz.underlying3, rfl, fun us h => by cases h⟩
      | succ j =>
       cases j with
       | zero => cases h; exact ⟨_, _, rfl, rfl, by decide, by decide, Tryz.underlying3, rfl, fun us h => by cases h⟩
       | succ j =>
        cases h⟩, (fun us hus fs hfs j τ h f hf => by
    cases hus
    rw [Tryz.underlying155] at hfs
    cases hfs
    cases j with
    | zero => cases h; cases hf; exact ⟨fun k e => by cases e; exact Tryz.underlying3, fun e => (by cases e), fun e => (by cases e)⟩
    | succ j =>
     cases j with
     | zero => cases h; cases hf; exact ⟨fun k e => by cases e; exact Tryz.underlying3, fun e => (by cases e), fun e => (by cases e)⟩
     | succ j =>
      cases j with
      | zero => cases h; cases hf; exact ⟨fun k e => by cases e; exact Tryz.underlying3, fun e => (by cases e), fun e => (by cases e)⟩
      | succ j =>
       cases j with
       | zero => cases h; cases hf; exact ⟨fun k e => by cases e; exact Tryz.underlying3, fun e => (by cases e), fun e => (by cases e)⟩
       | succ j =>
        cases h), Tryz.t155, rfl, rfl, fun _ _ => rfl⟩
theorem tn156 : TnOk Tryz.prog 156 (.sl 155 (.st [.int .i64, .int .i64, .int .i64, .int .i64])) := ⟨⟨Tryz.underlying156, Tryz.t155, _, rfl, rfl, rfl, rfl, by decide, by decide, fun _ _ => rfl, fun k h => by cases h⟩, fun _ h => (by cases h), Tryz.t156, rfl, rfl, fun _ _ => rfl⟩
theorem tn157 : TnOk Tryz.prog 157 (.fn [.st [.int .i64, .sl 118 (.st [.str, .int .i64, .sl 159 (.st [.int .i64, .sl 3 (.int .i64), .sl 3 (.int .i64)])]), .sl 121 (.st [.int .i64, .int .i64, .bool, .int .i64]), .sl 126 (.st [.sl 170 (.st [.int .i64, .int .i64]), .sl 25 (.sl 3 (.int .i64))]), .sl 3 (.int .i64)], .st [.sl 3 (.int .i64), .sl 3 (.int .i64)]] (.sl 155 (.st [.int .i64, .int .i64, .int .i64, .int .i64]))) := ⟨⟨_, _, _, Tryz.underlying157⟩, fun _ h => (by cases h), Tryz.t157, rfl, rfl, fun _ h => by cases h⟩
theorem tn158 : TnOk Tryz.prog 158 (.st [.int .i64, .sl 3 (.int .i64), .sl 3 (.int .i64)]) := ⟨⟨_, Tryz.underlying158, Tryz.eqGuardType158, Tryz.stoodInHeld158, rfl, fun j τ h => by
    cases j with
    | zero => cases h; exact ⟨_, _, rfl, rfl, by decide, by decide, Tryz.underlying3, rfl, fun us h => by cases h⟩
    | succ j =>
     cases j with
     | zero => cases h; exact ⟨_, _, rfl, rfl, by decide, by decide, Tryz.underlying25, rfl, fun us h => by cases h⟩
     | succ j =>
      cases j with
      | zero => cases h; exact ⟨_, _, rfl, rfl, by decide, by decide, Tryz.underlying25, rfl, fun us h => by cases h⟩
      | succ j =>
       cases h⟩, (fun us hus fs hfs j τ h f hf => by
    cases hus
    rw [Tryz.underlying158] at hfs
    cases hfs
    cases j with
    | zero => cases h; cases hf; exact ⟨fun k e => by cases e; exact Tryz.underlying3, fun e => (by cases e), fun e => (by cases e)⟩
    | succ j =>
     cases j with
     | zero => cases h; cases hf; exact ⟨fun k e => (by cases e), fun e => (by cases e), fun e => (by cases e)⟩
     | succ j =>
      cases j with
      | zero => cases h; cases hf; exact ⟨fun k e => (by cases e), fun e => (by cases e), fun e => (by cases e)⟩
      | succ j =>
       cases h), Tryz.t158, rfl, rfl, fun _ _ => rfl⟩
theorem tn159 : TnOk Tryz.prog 159 (.st [.int .i64, .sl 3 (.int .i64), .sl 3 (.int .i64)]) := ⟨⟨_, Tryz.underlying159, Tryz.eqGuardType159, Tryz.stoodInHeld159, rfl, fun j τ h => by
    cases j with
    | zero => cases h; exact ⟨_, _, rfl, rfl, by decide, by decide, Tryz.underlying3, rfl, fun us h => by cases h⟩
    | succ j =>
     cases j with
     | zero => cases h; exact ⟨_, _, rfl, rfl, by decide, by decide, Tryz.underlying25, rfl, fun us h => by cases h⟩
     | succ j =>
      cases j with
      | zero => cases h; exact ⟨_, _, rfl, rfl, by decide, by decide, Tryz.underlying25, rfl, fun us h => by cases h⟩
      | succ j =>
       cases h⟩, (fun us hus fs hfs j τ h f hf => by
    cases hus
    rw [Tryz.underlying159] at hfs
    cases hfs
    cases j with
    | zero => cases h; cases hf; exact ⟨fun k e => by cases e; exact Tryz.underlying3, fun e => (by cases e), fun e => (by cases e)⟩
    | succ j =>
     cases j with
     | zero => cases h; cases hf; exact ⟨fun k e => (by cases e), fun e => (by cases e), fun e => (by cases e)⟩
     | succ j =>
      cases j with
      | zero => cases h; cases hf; exact ⟨fun k e => (by cases e), fun e => (by cases e), fun e => (by cases e)⟩
      | succ j =>
       cases h), Tryz.t159, rfl, rfl, fun _ _ => rfl⟩
theorem tn160 : TnOk Tryz.prog 160 (.fn [.st [.int .i64, .sl 118 (.st [.str, .int .i64, .sl 159 (.st [.int .i64, .sl 3 (.int .i64), .sl 3 (.int .i64)])]), .sl 121 (.st [.int .i64, .int .i64, .bool, .int .i64]), .sl 126 (.st [.sl 170 (.st [.int .i64, .int .i64]), .sl 25 (.sl 3 (.int .i64))]), .sl 3 (.int .i64)], .st [.sl 3 (.int .i64), .sl 3 (.int .i64)], .int .i64] (.st [.int .i64, .sl 3 (.int .i64), .sl 3 (.int .i64)])) := ⟨⟨_, _, _, Tryz.underlying160⟩, fun _ h => (by cases h), Tryz.t160, rfl, rfl, fun _ h => by cases h⟩
theorem tn161 : TnOk Tryz.prog 161 (.fn [.sl 176 (.st [.int .i64, .sl 3 (.int .i64), .sl 3 (.int .i64)])] (.sl 159 (.st [.int .i64, .sl 3 (.int .i64), .sl 3 (.int .i64)]))) := ⟨⟨_, _, _, Tryz.underlying161⟩, fun _ h => (by cases h), Tryz.t161, rfl, rfl, fun _ h => by cases h⟩
theorem tn162 : TnOk Tryz.prog 162 (.fn [.sl 185 (.st [.int .i64, .int .i64])] (.sl 170 (.st [.int .i64, .int .i64]))) := ⟨⟨_, _, _, Tryz.underlying162⟩, fun _ h => (by cases h), Tryz.t162, rfl, rfl, fun _ h => by cases h⟩
theorem tn163 : TnOk Tryz.prog 163 (.fn [.sl 121 (.st [.int .i64, .int .i64, .bool, .int .i64]), .fn [.st [.int .i64, .int .i64, .bool, .int .i64]] (.bool)] (.bool)) := ⟨⟨_, _, _, Tryz.underlying163⟩, fun _ h => (by cases h), Tryz.t163, rfl, rfl, fun _ h => by cases h⟩
theorem tn164 : TnOk Tryz.prog 164 (.fn [.st [.int .i64, .int .i64, .bool, .int .i64]] (.bool)) := ⟨⟨_, _, _, Tryz.underlying164⟩, fun _ h => (by cases h), Tryz.t164, rfl, rfl, fun _ h => by cases h⟩
theorem tn165 : TnOk Tryz.prog 165 (.fn [.st [.sl 3 (.int .i64), .sl 3 (.int .i64)], .int .i64] (.st [.int .i64, .sl 3 (.int .i64), .sl 3 (.int .i64)])) := ⟨⟨_, _, _, Tryz.underlying165⟩, fun _ h => (by cases h), Tryz.t165, rfl, rfl, fun _ h => by cases h⟩
theorem tn166 : TnOk Tryz.prog 166 (.fn [.sl 159 (.st [.int .i64, .sl 3 (.int .i64), .sl 3 (.int .i64)]), .sl 159 (.st [.int .i64, .sl 3 (.int .i64), .sl 3 (.int .i64)])] (.bool)) := ⟨⟨_, _, _, Tryz.underlying166⟩, fun _ h => (by cases h), Tryz.t166, rfl, rfl, fun _ h => by cases h⟩
theorem tn167 : TnOk Tryz.prog 167 (.fn [.sl 170 (.st [.int .i64, .int .i64]), .sl 170 (.st [.int .i64, .int .i64])] (.bool)) := ⟨⟨_, _, _, Tryz.underlying167⟩, fun _ h => (by cases h), Tryz.t167, rfl, rfl, fun _ h => by cases h⟩
theorem tn168 : TnOk Tryz.prog 168 (.sl 5 (.int .u8)) := ⟨⟨Tryz.underlying168, Tryz.t5, _, rfl, rfl, rfl, rfl, by decide, by decide, fun _ _ => rfl, fun k h => by cases h; exact Tryz.underlying5⟩, fun _ h => (by cases h), Tryz.t168, rfl, rfl, fun _ _ => rfl⟩
theorem tn169 : TnOk Tryz.prog 169 (.st [.int .i64, .int .i64]) := ⟨⟨_, Tryz.underlying169, Tryz.eqGuardType169, Tryz.stoodInHeld169, rfl, fun j τ h => by
    cases j with
    | zero => cases h; exact ⟨_, _, rfl, rfl, by decide, by decide, Tryz.underlying3, rfl, fun us h => by cases h⟩
    | succ j =>
     cases j with
     | zero => cases h; exact ⟨_, _, rfl, rfl, by decide, by decide, Tryz.underlying3, rfl, fun us h => by cases h⟩
     | succ j =>
      cases h⟩, (fun us hus fs hfs j τ h f hf => by
    cases hus
    rw [Tryz.underlying169] at hfs
    cases hfs
    cases j with
    | zero => cases h; cases hf; exact ⟨fun k e => by cases e; exact Tryz.underlying3, fun e => (by cases e), fun e => (by cases e)⟩
    | succ j =>
     cases j with
     | zero => cases h; cases hf; exact ⟨fun k e => by cases e; exact Tryz.underlying3, fun e => (by cases e), fun e => (by cases e)⟩
     | succ j =>
      cases h), Tryz.t169, rfl, rfl, fun _ _ => rfl⟩
theorem tn170 : TnOk Tryz.prog 170 (.st [.int .i64, .int .i64]) := ⟨⟨_, Tryz.underlying170, Tryz.eqGuardType170, Tryz.stoodInHeld170, rfl, fun j τ h => by
    cases j with
    | zero => cases h; exact ⟨_, _, rfl, rfl, by decide, by decide, Tryz.underlying3, rfl, fun us h => by cases h⟩
    | succ j =>
     cases j with
     | zero => cases h; exact ⟨_, _, rfl, rfl, by decide, by decide, Tryz.underlying3, rfl, fun us h => by cases h⟩
     | succ j =>
      cases h⟩, (fun us hus fs hfs j τ h f hf => by
    cases hus
    rw [Tryz.underlying170] at hfs
    cases hfs
    cases j with
    | zero => cases h; cases hf; exact ⟨fun k e => by cases e; exact Tryz.underlying3, fun e => (by cases e), fun e => (by cases e)⟩
    | succ j =>
     cases j with
     | zero => cases h; cases hf; exact ⟨fun k e => by cases e; exact Tryz.underlying3, fun e => (by cases e), fun e => (by cases e)⟩
     | succ j =>
      cases h), Tryz.t170, rfl, rfl, fun _ _ => rfl⟩
theorem tn171 : TnOk Tryz.prog 171 (.fn [.sl 3 (.int .i64), .int .i64] (.bool)) := ⟨⟨_, _, _, Tryz.underlying171⟩, fun _ h => (by cases h), Tryz.t171, rfl, rfl, fun _ h => by cases h⟩
theorem tn172 : TnOk Tryz.prog 172 (.fn [.int .i64] (.sl 3 (.int .i64))) := ⟨⟨_, _, _, Tryz.underlying172⟩, fun _ h => (by cases h), Tryz.t172, rfl, rfl, fun _ h => by cases h⟩
theorem tn175 : TnOk Tryz.prog 175 (.fn [.st [.int .i64, .sl 3 (.int .i64), .sl 3 (.int .i64)], .int .i64] (.int .i64)) := ⟨⟨_, _, _, Tryz.underlying175⟩, fun _ h => (by cases h), Tryz.t175, rfl, rfl, fun _ h => by cases h⟩
theorem tn176 : TnOk Tryz.prog 176 (.st [.int .i64, .sl 3 (.int .i64), .sl 3 (.int .i64)]) := ⟨⟨_, Tryz.underlying176, Tryz.eqGuardType176, Tryz.stoodInHeld176, rfl, fun j τ h => by
    cases j with
    | zero => cases h; exact ⟨_, _, rfl, rfl, by decide, by decide, Tryz.underlying3, rfl, fun us h => by cases h⟩
    | succ j =>
     cases j with
     | zero => cases h; exact ⟨_, _, rfl, rfl, by decide, by decide, Tryz.underlying25, rfl, fun us h => by cases h⟩
     | succ j =>
      cases j with
      | zero => cases h; exact ⟨_, _, rfl, rfl, by decide, by decide, Tryz.underlying25, rfl, fun us h => by cases h⟩
      | succ j =>
       cases h⟩, (fun us hus fs hfs j τ h f hf => by
    cases hus
    rw [Tryz.underlying176] at hfs
    cases hfs
    cases j with
    | zero => cases h; cases hf; exact ⟨fun k e => by cases e; exact Tryz.underlying3, fun e => (by cases e), fun e => (by cases e)⟩
    | succ j =>
     cases j with
     | zero => cases h; cases hf; exact ⟨fun k e => (by cases e), fun e => (by cases e), fun e => (by cases e)⟩
     | succ j =>
      cases j with
      | zero => cases h; cases hf; exact ⟨fun k e => (by cases e), fun e => (by cases e), fun e => (by cases e)⟩
      | succ j =>
       cases h), Tryz.t176, rfl, rfl, fun _ _ => rfl⟩
theorem tn177 : TnOk Tryz.prog 177 (.fn [.st [.int .i64, .sl 3 (.int .i64), .sl 3 (.int .i64)], .int .i64, .int .i64] (.bool)) := ⟨⟨_, _, _, Tryz.underlying177⟩, fun _ h => (by cases h), Tryz.t177, rfl, rfl, fun _ h => by cases h⟩
theorem tn178 : TnOk Tryz.prog 178 (.fn [.str] (.bool)) := ⟨⟨_, _, _, Tryz.underlying178⟩, fun _ h => (by cases h), Tryz.t178, rfl, rfl, fun _ h => by cases h⟩
theorem tn179 : TnOk Tryz.prog 179 (.fn [.sl 170 (.st [.int .i64, .int .i64])] (.bool)) := ⟨⟨_, _, _, Tryz.underlying179⟩, fun _ h => (by cases h), Tryz.t179, rfl, rfl, fun _ h => by cases h⟩
theorem tn180 : TnOk Tryz.prog 180 (.fn [.st [.int .i64, .sl 118 (.st [.str, .int .i64, .sl 159 (.st [.int .i64, .sl 3 (.int .i64), .sl 3 (.int .i64)])]), .sl 121 (.st [.int .i64, .int .i64, .bool, .int .i64]), .sl 126 (.st [.sl 170 (.st [.int .i64, .int .i64]), .sl 25 (.sl 3 (.int .i64))]), .sl 3 (.int .i64)], .st [.sl 3 (.int .i64), .sl 3 (.int .i64)], .int .i64, .int .i64] (.int .i64)) := ⟨⟨_, _, _, Tryz.underlying180⟩, fun _ h => (by cases h), Tryz.t180, rfl, rfl, fun _ h => by cases h⟩
theorem tn181 : TnOk Tryz.prog 181 (.fn [.sl 170 (.st [.int .i64, .int .i64]), .int .i64, .int .i64] (.int .i64)) := ⟨⟨_, _, _, Tryz.underlying181⟩, fun _ h => (by cases h), Tryz.t181, rfl, rfl, fun _ h => by cases h⟩
theorem tn182 : TnOk Tryz.prog 182 (.fn [.st [.int .i64, .sl 118 (.st [.str, .int .i64, .sl 159 (.st [.int .i64, .sl 3 (.int .i64), .sl 3 (.int .i64)])]), .sl 121 (.st [.int .i64, .int .i64, .bool, .int .i64]), .sl 126 (.st [.sl 170 (.st [.int .i64, .int .i64]), .sl 25 (.sl 3 (.int .i64))]), .sl 3 (.int .i64)]] (.sl 155 (.st [.int .i64, .int .i64, .int .i64, .int .i64]))) := ⟨⟨_, _, _, Tryz.underlying182⟩, fun _ h => (by cases h), Tryz.t182, rfl, rfl, fun _ h => by cases h⟩
theorem tn183 : TnOk Tryz.prog 183 (.fn [.st [.int .i64, .sl 3 (.int .i64), .sl 3 (.int .i64)]] (.st [.int .i64, .sl 3 (.int .i64), .sl 3 (.int .i64)])) := ⟨⟨_, _, _, Tryz.underlying183⟩, fun _ h => (by cases h), Tryz.t183, rfl, rfl, fun _ h => by cases h⟩
theorem tn184 : TnOk Tryz.prog 184 (.fn [.st [.int .i64, .int .i64]] (.st [.int .i64, .int .i64])) := ⟨⟨_, _, _, Tryz.underlying184⟩, fun _ h => (by cases h), Tryz.t184, rfl, rfl, fun _ h => by cases h⟩
theorem tn185 : TnOk Tryz.prog 185 (.st [.int .i64, .int .i64]) := ⟨⟨_, Tryz.underlying185, Tryz.eqGuardType185, Tryz.stoodInHeld185, rfl, fun j τ h => by
    cases j with
    | zero => cases h; exact ⟨_, _, rfl, rfl, by decide, by decide, Tryz.underlying3, rfl, fun us h => by cases h⟩
    | succ j =>
     cases j with
     | zero => cases h; exact ⟨_, _, rfl, rfl, by decide, by decide, Tryz.underlying3, rfl, fun us h => by cases h⟩
     | succ j =>
      cases h⟩, (fun us hus fs hfs j τ h f hf => by
    cases hus
    rw [Tryz.underlying185] at hfs
    cases hfs
    cases j with
    | zero => cases h; cases hf; exact ⟨fun k e => by cases e; exact Tryz.underlying3, fun e => (by cases e), fun e => (by cases e)⟩
    | succ j =>
     cases j with
     | zero => cases h; cases hf; exact ⟨fun k e => by cases e; exact Tryz.underlying3, fun e => (by cases e), fun e => (by cases e)⟩
     | succ j =>
      cases h), Tryz.t185, rfl, rfl, fun _ _ => rfl⟩
theorem tn186 : TnOk Tryz.prog 186 (.fn [.sl 118 (.st [.str, .int .i64, .sl 159 (.st [.int .i64, .sl 3 (.int .i64), .sl 3 (.int .i64)])]), .fn [.st [.str, .int .i64, .sl 159 (.st [.int .i64, .sl 3 (.int .i64), .sl 3 (.int .i64)])]] (.bool)] (.int .i64)) := ⟨⟨_, _, _, Tryz.underlying186⟩, fun _ h => (by cases h), Tryz.t186, rfl, rfl, fun _ h => by cases h⟩
theorem tn187 : TnOk Tryz.prog 187 (.fn [.st [.str, .int .i64, .sl 159 (.st [.int .i64, .sl 3 (.int .i64), .sl 3 (.int .i64)])]] (.bool)) := ⟨⟨_, _, _, Tryz.underlying187⟩, fun _ h => (by cases h), Tryz.t187, rfl, rfl, fun _ h => by cases h⟩
theorem tn188 : TnOk Tryz.prog 188 (.fn [.sl 121 (.st [.int .i64, .int .i64, .bool, .int .i64]), .fn [.st [.int .i64, .int .i64, .bool, .int .i64]] (.bool)] (.int .i64)) := ⟨⟨_, _, _, Tryz.underlying188⟩, fun _ h => (by cases h), Tryz.t188, rfl, rfl, fun _ h => by cases h⟩
theorem tn189 : TnOk Tryz.prog 189 (.fn [] (.sl 155 (.st [.int .i64, .int .i64, .int .i64, .int .i64]))) := ⟨⟨_, _, _, Tryz.underlying189⟩, fun _ h => (by cases h), Tryz.t189, rfl, rfl, fun _ h => by cases h⟩
theorem tn190 : TnOk Tryz.prog 190 (.fn [.st [.sl 3 (.int .i64), .sl 3 (.int .i64)], .st [.int .i64, .int .i64, .int .i64, .int .i64]] (.bool)) := ⟨⟨_, _, _, Tryz.underlying190⟩, fun _ h => (by cases h), Tryz.t190, rfl, rfl, fun _ h => by cases h⟩
theorem tn191 : TnOk Tryz.prog 191 (.fn [.st [.int .i64, .sl 3 (.int .i64), .sl 3 (.int .i64)], .st [.int .i64, .sl 3 (.int .i64), .sl 3 (.int .i64)]] (.bool)) := ⟨⟨_, _, _, Tryz.underlying191⟩, fun _ h => (by cases h), Tryz.t191, rfl, rfl, fun _ h => by cases h⟩
theorem tn192 : TnOk Tryz.prog 192 (.fn [.st [.int .i64, .int .i64], .st [.int .i64, .int .i64]] (.bool)) := ⟨⟨_, _, _, Tryz.underlying192⟩, fun _ h => (by cases h), Tryz.t192, rfl, rfl, fun _ h => by cases h⟩
theorem tn193 : TnOk Tryz.prog 193 (.fn [.sl 170 (.st [.int .i64, .int .i64]), .int .i64, .int .i64] (.bool)) := ⟨⟨_, _, _, Tryz.underlying193⟩, fun _ h => (by cases h), Tryz.t193, rfl, rfl, fun _ h => by cases h⟩
theorem tn194 : TnOk Tryz.prog 194 (.fn [.st [.int .i64, .sl 118 (.st [.str, .int .i64, .sl 159 (.st [.int .i64, .sl 3 (.int .i64), .sl 3 (.int .i64)])]), .sl 121 (.st [.int .i64, .int .i64, .bool, .int .i64]), .sl 126 (.st [.sl 170 (.st [.int .i64, .int .i64]), .sl 25 (.sl 3 (.int .i64))]), .sl 3 (.int .i64)], .st [.sl 3 (.int .i64), .sl 3 (.int .i64)], .int .i64, .int .i64, .int .i64] (.bool)) := ⟨⟨_, _, _, Tryz.underlying194⟩, fun _ h => (by cases h), Tryz.t194, rfl, rfl, fun _ h => by cases h⟩
theorem tn195 : TnOk Tryz.prog 195 (.fn [.st [.int .i64, .sl 118 (.st [.str, .int .i64, .sl 159 (.st [.int .i64, .sl 3 (.int .i64), .sl 3 (.int .i64)])]), .sl 121 (.st [.int .i64, .int .i64, .bool, .int .i64]), .sl 126 (.st [.sl 170 (.st [.int .i64, .int .i64]), .sl 25 (.sl 3 (.int .i64))]), .sl 3 (.int .i64)], .int .i64] (.bool)) := ⟨⟨_, _, _, Tryz.underlying195⟩, fun _ h => (by cases h), Tryz.t195, rfl, rfl, fun _ h => by cases h⟩
theorem tn196 : TnOk Tryz.prog 196 (.fn [.st [.sl 3 (.int .i64), .sl 3 (.int .i64)], .st [.int .i64, .int .i64, .bool, .int .i64]] (.bool)) := ⟨⟨_, _, _, Tryz.underlying196⟩, fun _ h => (by cases h), Tryz.t196, rfl, rfl, fun _ h => by cases h⟩
theorem tn197 : TnOk Tryz.prog 197 (.fn [.st [.sl 3 (.int .i64), .sl 3 (.int .i64)], .int .i64, .int .i64] (.int .i64)) := ⟨⟨_, _, _, Tryz.underlying197⟩, fun _ h => (by cases h), Tryz.t197, rfl, rfl, fun _ h => by cases h⟩
theorem tn198 : TnOk Tryz.prog 198 (.fn [.st [.sl 3 (.int .i64), .sl 3 (.int .i64)], .int .i64, .int .i64, .int .i64] (.int .i64)) := ⟨⟨_, _, _, Tryz.underlying198⟩, fun _ h => (by cases h), Tryz.t198, rfl, rfl, fun _ h => by cases h⟩
theorem tn199 : TnOk Tryz.prog 199 (.fn [.st [.sl 3 (.int .i64), .sl 3 (.int .i64)], .int .i64, .int .i64, .int .i64] (.bool)) := ⟨⟨_, _, _, Tryz.underlying199⟩, fun _ h => (by cases h), Tryz.t199, rfl, rfl, fun _ h => by cases h⟩
theorem tn200 : TnOk Tryz.prog 200 (.fn [.st [.sl 3 (.int .i64), .sl 3 (.int .i64)], .int .i64] (.sl 3 (.int .i64))) := ⟨⟨_, _, _, Tryz.underlying200⟩, fun _ h => (by cases h), Tryz.t200, rfl, rfl, fun _ h => by cases h⟩
theorem tn201 : TnOk Tryz.prog 201 (.fn [.st [.int .i64, .sl 118 (.st [.str, .int .i64, .sl 159 (.st [.int .i64, .sl 3 (.int .i64), .sl 3 (.int .i64)])]), .sl 121 (.st [.int .i64, .int .i64, .bool, .int .i64]), .sl 126 (.st [.sl 170 (.st [.int .i64, .int .i64]), .sl 25 (.sl 3 (.int .i64))]), .sl 3 (.int .i64)], .int .i64, .int .i64, .int .i64] (.int .i64)) := ⟨⟨_, _, _, Tryz.underlying201⟩, fun _ h => (by cases h), Tryz.t201, rfl, rfl, fun _ h => by cases h⟩
def tys : List (Nat × Ty) := [(3, .int .i64), (4, .bool), (5, .int .u8), (9, .str), (22, .sl 103 (.st [.str, .int .i64, .sl 176 (.st [.int .i64, .sl 3 (.int .i64), .sl 3 (.int .i64)])])), (23, .sl 123 (.st [.int .i64, .int .i64, .bool, .int .i64])), (24, .sl 107 (.st [.sl 185 (.st [.int .i64, .int .i64]), .sl 25 (.sl 3 (.int .i64))])), (25, .sl 3 (.int .i64)), (26, .st [.int .i64, .sl 103 (.st [.str, .int .i64, .sl 176 (.st [.int .i64, .sl 3 (.int .i64), .sl 3 (.int .i64)])]), .sl 123 (.st [.int .i64, .int .i64, .bool, .int .i64]), .sl 107 (.st [.sl 185 (.st [.int .i64, .int .i64]), .sl 25 (.sl 3 (.int .i64))]), .sl 3 (.int .i64)]), (27, .st [.int .i64, .sl 103 (.st [.str, .int .i64, .sl 176 (.st [.int .i64, .sl 3 (.int .i64), .sl 3 (.int .i64)])]), .sl 123 (.st [.int .i64, .int .i64, .bool, .int .i64]), .sl 107 (.st [.sl 185 (.st [.int .i64, .int .i64]), .sl 25 (.sl 3 (.int .i64))]), .sl 3 (.int .i64)]), (28, .fn [.st [.int .i64, .sl 103 (.st [.str, .int .i64, .sl 176 (.st [.int .i64, .sl 3 (.int .i64), .sl 3 (.int .i64)])]), .sl 123 (.st [.int .i64, .int .i64, .bool, .int .i64]), .sl 107 (.st [.sl 185 (.st [.int .i64, .int .i64]), .sl 25 (.sl 3 (.int .i64))]), .sl 3 (.int .i64)], .int .i64] (.int .i64)), (29, .st [.sl 3 (.int .i64), .sl 3 (.int .i64)]), (30, .st [.sl 3 (.int .i64), .sl 3 (.int .i64)]), (32, .fn [.st [.int .i64, .sl 118 (.st [.str, .int .i64, .sl 159 (.st [.int .i64, .sl 3 (.int .i64), .sl 3 (.int .i64)])]), .sl 121 (.st [.int .i64, .int .i64, .bool, .int .i64]), .sl 126 (.st [.sl 170 (.st [.int .i64, .int .i64]), .sl 25 (.sl 3 (.int .i64))]), .sl 3 (.int .i64)], .int .i64] (.tup [.st [.sl 3 (.int .i64), .sl 3 (.int .i64)], .bool])), (33, .sl 118 (.st [.str, .int .i64, .sl 159 (.st [.int .i64, .sl 3 (.int .i64), .sl 3 (.int .i64)])])), (34, .sl 121 (.st [.int .i64, .int .i64, .bool, .int .i64])), (35, .sl 126 (.st [.sl 170 (.st [.int .i64, .int .i64]), .sl 25 (.sl 3 (.int .i64))])), (36, .st [.int .i64, .sl 118 (.st [.str, .int .i64, .sl 159 (.st [.int .i64, .sl 3 (.int .i64), .sl 3 (.int .i64)])]), .sl 121 (.st [.int .i64, .int .i64, .bool, .int .i64]), .sl 126 (.st [.sl 170 (.st [.int .i64, .int .i64]), .sl 25 (.sl 3 (.int .i64))]), .sl 3 (.int .i64)]), (37, .st [.int .i64, .sl 118 (.st [.str, .int .i64, .sl 159 (.st [.int .i64, .sl 3 (.int .i64), .sl 3 (.int .i64)])]), .sl 121 (.st [.int .i64, .int .i64, .bool, .int .i64]), .sl 126 (.st [.sl 170 (.st [.int .i64, .int .i64]), .sl 25 (.sl 3 (.int .i64))]), .sl 3 (.int .i64)]), (38, .fn [.st [.int .i64, .sl 103 (.st [.str, .int .i64, .sl 176 (.st [.int .i64, .sl 3 (.int .i64), .sl 3 (.int .i64)])]), .sl 123 (.st [.int .i64, .int .i64, .bool, .int .i64]), .sl 107 (.st [.sl 185 (.st [.int .i64, .int .i64]), .sl 25 (.sl 3 (.int .i64))]), .sl 3 (.int .i64)]] (.st [.int .i64, .sl 118 (.st [.str, .int .i64, .sl 159 (.st [.int .i64, .sl 3 (.int .i64), .sl 3 (.int .i64)])]), .sl 121 (.st [.int .i64, .int .i64, .bool, .int .i64]), .sl 126 (.st [.sl 170 (.st [.int .i64, .int .i64]), .sl 25 (.sl 3 (.int .i64))]), .sl 3 (.int .i64)])), (39, .fn [.st [.sl 3 (.int .i64), .sl 3 (.int .i64)], .st [.sl 3 (.int .i64), .sl 3 (.int .i64)]] (.bool)), (40, .fn [.st [.int .i64, .sl 118 (.st [.str, .int .i64, .sl 159 (.st [.int .i64, .sl 3 (.int .i64), .sl 3 (.int .i64)])]), .sl 121 (.st [.int .i64, .int .i64, .bool, .int .i64]), .sl 126 (.st [.sl 170 (.st [.int .i64, .int .i64]), .sl 25 (.sl 3 (.int .i64))]), .sl 3 (.int .i64)], .st [.int .i64, .sl 118 (.st [.str, .int .i64, .sl 159 (.st [.int .i64, .sl 3 (.int .i64), .sl 3 (.int .i64)])]), .sl 121 (.st [.int .i64, .int .i64, .bool, .int .i64]), .sl 126 (.st [.sl 170 (.st [.int .i64, .int .i64]), .sl 25 (.sl 3 (.int .i64))]), .sl 3 (.int .i64)]] (.bool)), (41, .fn [.st [.int .i64, .sl 118 (.st [.str, .int .i64, .sl 159 (.st [.int .i64, .sl 3 (.int .i64), .sl 3 (.int .i64)])]), .sl 121 (.st [.int .i64, .int .i64, .bool, .int .i64]), .sl 126 (.st [.sl 170 (.st [.int .i64, .int .i64]), .sl 25 (.sl 3 (.int .i64))]), .sl 3 (.int .i64)], .int .i64] (.int .i64)), (42, .fn [.st [.sl 3 (.int .i64), .sl 3 (.int .i64)], .int .i64] (.int .i64)), (43, .fn [.st [.int .i64, .sl 103 (.st [.str, .int .i64, .sl 176 (.st [.int .i64, .sl 3 (.int .i64), .sl 3 (.int .i64)])]), .sl 123 (.st [.int .i64, .int .i64, .bool, .int .i64]), .sl 107 (.st [.sl 185 (.st [.int .i64, .int .i64]), .sl 25 (.sl 3 (.int .i64))]), .sl 3 (.int .i64)], .int .i64] (.bool)), (45, .sl 25 (.sl 3 (.int .i64))), (61, .fn [.sl 103 (.st [.str, .int .i64, .sl 176 (.st [.int .i64, .sl 3 (.int .i64), .sl 3 (.int .i64)])]), .int .i64] (.int .i64)), (62, .fn [.sl 123 (.st [.int .i64, .int .i64, .bool, .int .i64]), .int .i64] (.int .i64)), (63, .fn [.sl 107 (.st [.sl 185 (.st [.int .i64, .int .i64]), .sl 25 (.sl 3 (.int .i64))]), .int .i64] (.int .i64)), (64, .fn [.sl 3 (.int .i64), .int .i64] (.int .i64)), (65, .sl 30 (.st [.sl 3 (.int .i64), .sl 3 (.int .i64)])), (66, .fn [.st [.int .i64, .sl 118 (.st [.str, .int .i64, .sl 159 (.st [.int .i64, .sl 3 (.int .i64), .sl 3 (.int .i64)])]), .sl 121 (.st [.int .i64, .int .i64, .bool, .int .i64]), .sl 126 (.st [.sl 170 (.st [.int .i64, .int .i64]), .sl 25 (.sl 3 (.int .i64))]), .sl 3 (.int .i64)], .int .i64] (.sl 30 (.st [.sl 3 (.int .i64), .sl 3 (.int .i64)]))), (67, .fn [.st [.int .i64, .sl 118 (.st [.str, .int .i64, .sl 159 (.st [.int .i64, .sl 3 (.int .i64), .sl 3 (.int .i64)])]), .sl 121 (.st [.int .i64, .int .i64, .bool, .int .i64]), .sl 126 (.st [.sl 170 (.st [.int .i64, .int .i64]), .sl 25 (.sl 3 (.int .i64))]), .sl 3 (.int .i64)], .st [.sl 3 (.int .i64), .sl 3 (.int .i64)]] (.int .i64)), (68, .fn [.sl 103 (.st [.str, .int .i64, .sl 176 (.st [.int .i64, .sl 3 (.int .i64), .sl 3 (.int .i64)])])] (.sl 118 (.st [.str, .int .i64, .sl 159 (.st [.int .i64, .sl 3 (.int .i64), .sl 3 (.int .i64)])]))), (69, .fn [.sl 123 (.st [.int .i64, .int .i64, .bool, .int .i64])] (.sl 121 (.st [.int .i64, .int .i64, .bool, .int .i64]))), (70, .fn [.sl 107 (.st [.sl 185 (.st [.int .i64, .int .i64]), .sl 25 (.sl 3 (.int .i64))])] (.sl 126 (.st [.sl 170 (.st [.int .i64, .int .i64]), .sl 25 (.sl 3 (.int .i64))]))), (71, .fn [.sl 3 (.int .i64)] (.sl 3 (.int .i64))), (72, .fn [.sl 3 (.int .i64), .sl 3 (.int .i64)] (.bool)), (73, .fn [.sl 118 (.st [.str, .int .i64, .sl 159 (.st [.int .i64, .sl 3 (.int .i64), .sl 3 (.int .i64)])]), .sl 118 (.st [.str, .int .i64, .sl 159 (.st [.int .i64, .sl 3 (.int .i64), .sl 3 (.int .i64)])])] (.bool)), (74, .fn [.sl 121 (.st [.int .i64, .int .i64, .bool, .int .i64]), .sl 121 (.st [.int .i64, .int .i64, .bool, .int .i64])] (.bool)), (75, .fn [.sl 126 (.st [.sl 170 (.st [.int .i64, .int .i64]), .sl 25 (.sl 3 (.int .i64))]), .sl 126 (.st [.sl 170 (.st [.int .i64, .int .i64]), .sl 25 (.sl 3 (.int .i64))])] (.bool)), (76, .fn [.sl 118 (.st [.str, .int .i64, .sl 159 (.st [.int .i64, .sl 3 (.int .i64), .sl 3 (.int .i64)])]), .int .i64] (.int .i64)), (77, .fn [.sl 121 (.st [.int .i64, .int .i64, .bool, .int .i64]), .int .i64] (.int .i64)), (78, .fn [.sl 126 (.st [.sl 170 (.st [.int .i64, .int .i64]), .sl 25 (.sl 3 (.int .i64))]), .int .i64] (.int .i64)), (81, .fn [.sl 25 (.sl 3 (.int .i64)), .int .i64] (.int .i64)), (92, .fn [.sl 25 (.sl 3 (.int .i64))] (.sl 25 (.sl 3 (.int .i64)))), (97, .fn [.sl 25 (.sl 3 (.int .i64)), .sl 25 (.sl 3 (.int .i64))] (.bool)), (100, .fn [.st [.str, .int .i64, .sl 176 (.st [.int .i64, .sl 3 (.int .i64), .sl 3 (.int .i64)])], .int .i64] (.int .i64)), (101, .sl 176 (.st [.int .i64, .sl 3 (.int .i64), .sl 3 (.int .i64)])), (102, .st [.str, .int .i64, .sl 176 (.st [.int .i64, .sl 3 (.int .i64), .sl 3 (.int .i64)])]), (103, .st [.str, .int .i64, .sl 176 (.st [.int .i64, .sl 3 (.int .i64), .sl 3 (.int .i64)])]), (104, .fn [.st [.sl 185 (.st [.int .i64, .int .i64]), .sl 25 (.sl 3 (.int .i64))], .int .i64] (.int .i64)), (105, .sl 185 (.st [.int .i64, .int .i64])), (106, .st [.sl 185 (.st [.int .i64, .int .i64]), .sl 25 (.sl 3 (.int .i64))]), (107, .st [.sl 185 (.st [.int .i64, .int .i64]), .sl 25 (.sl 3 (.int .i64))]), (108, .fn [.st [.int .i64, .sl 118 (.st [.str, .int .i64, .sl 159 (.st [.int .i64, .sl 3 (.int .i64), .sl 3 (.int .i64)])]), .sl 121 (.st [.int .i64, .int .i64, .bool, .int .i64]), .sl 126 (.st [.sl 170 (.st [.int .i64, .int .i64]), .sl 25 (.sl 3 (.int .i64))]), .sl 3 (.int .i64)]] (.bool)), (109, .fn [.int .i64, .int .i64, .int .i64] (.bool)), (110, .fn [.int .i64, .int .i64] (.sl 25 (.sl 3 (.int .i64)))), (111, .fn [.st [.int .i64, .sl 118 (.st [.str, .int .i64, .sl 159 (.st [.int .i64, .sl 3 (.int .i64), .sl 3 (.int .i64)])]), .sl 121 (.st [.int .i64, .int .i64, .bool, .int .i64]), .sl 126 (.st [.sl 170 (.st [.int .i64, .int .i64]), .sl 25 (.sl 3 (.int .i64))]), .sl 3 (.int .i64)]] (.sl 25 (.sl 3 (.int .i64)))), (112, .fn [.st [.int .i64, .sl 118 (.st [.str, .int .i64, .sl 159 (.st [.int .i64, .sl 3 (.int .i64), .sl 3 (.int .i64)])]), .sl 121 (.st [.int .i64, .int .i64, .bool, .int .i64]), .sl 126 (.st [.sl 170 (.st [.int .i64, .int .i64]), .sl 25 (.sl 3 (.int .i64))]), .sl 3 (.int .i64)], .st [.sl 3 (.int .i64), .sl 3 (.int .i64)]] (.bool)), (113, .fn [.st [.sl 3 (.int .i64), .sl 3 (.int .i64)]] (.st [.sl 3 (.int .i64), .sl 3 (.int .i64)])), (114, .fn [.int .i64, .int .i64] (.int .i64)), (115, .fn [.st [.int .i64, .sl 118 (.st [.str, .int .i64, .sl 159 (.st [.int .i64, .sl 3 (.int .i64), .sl 3 (.int .i64)])]), .sl 121 (.st [.int .i64, .int .i64, .bool, .int .i64]), .sl 126 (.st [.sl 170 (.st [.int .i64, .int .i64]), .sl 25 (.sl 3 (.int .i64))]), .sl 3 (.int .i64)], .st [.sl 3 (.int .i64), .sl 3 (.int .i64)], .int .i64] (.int .i64)), (116, .sl 159 (.st [.int .i64, .sl 3 (.int .i64), .sl 3 (.int .i64)])), (117, .st [.str, .int .i64, .sl 159 (.st [.int .i64, .sl 3 (.int .i64), .sl 3 (.int .i64)])]), (118, .st [.str, .int .i64, .sl 159 (.st [.int .i64, .sl 3 (.int .i64), .sl 3 (.int .i64)])]), (119, .fn [.st [.str, .int .i64, .sl 176 (.st [.int .i64, .sl 3 (.int .i64), .sl 3 (.int .i64)])]] (.st [.str, .int .i64, .sl 159 (.st [.int .i64, .sl 3 (.int .i64), .sl 3 (.int .i64)])])), (120, .st [.int .i64, .int .i64, .bool, .int .i64]), (121, .st [.int .i64, .int .i64, .bool, .int .i64]), (122, .fn [.st [.int .i64, .int .i64, .bool, .int .i64]] (.st [.int .i64, .int .i64, .bool, .int .i64])), (123, .st [.int .i64, .int .i64, .bool, .int .i64]), (124, .sl 170 (.st [.int .i64, .int .i64])), (125, .st [.sl 170 (.st [.int .i64, .int .i64]), .sl 25 (.sl 3 (.int .i64))]), (126, .st [.sl 170 (.st [.int .i64, .int .i64]), .sl 25 (.sl 3 (.int .i64))]), (127, .fn [.st [.sl 185 (.st [.int .i64, .int .i64]), .sl 25 (.sl 3 (.int .i64))]] (.st [.sl 170 (.st [.int .i64, .int .i64]), .sl 25 (.sl 3 (.int .i64))])), (128, .fn [] (.st [.sl 3 (.int .i64), .sl 3 (.int .i64)])), (129, .fn [.st [.str, .int .i64, .sl 159 (.st [.int .i64, .sl 3 (.int .i64), .sl 3 (.int .i64)])], .st [.str, .int .i64, .sl 159 (.st [.int .i64, .sl 3 (.int .i64), .sl 3 (.int .i64)])]] (.bool)), (130, .fn [.st [.int .i64, .int .i64, .bool, .int .i64], .st [.int .i64, .int .i64, .bool, .int .i64]] (.bool)), (131, .fn [.st [.sl 170 (.st [.int .i64, .int .i64]), .sl 25 (.sl 3 (.int .i64))], .st [.sl 170 (.st [.int .i64, .int .i64]), .sl 25 (.sl 3 (.int .i64))]] (.bool)), (132, .fn [.int .i64] (.str)), (133, .fn [.sl 159 (.st [.int .i64, .sl 3 (.int .i64), .sl 3 (.int .i64)]), .int .i64] (.int .i64)), (134, .fn [.sl 170 (.st [.int .i64, .int .i64]), .int .i64] (.int .i64)), (143, .fn [.int .i64] (.bool)), (146, .fn [.sl 3 (.int .i64), .fn [.int .i64] (.bool)] (.sl 3 (.int .i64))), (148, .fn [.sl 176 (.st [.int .i64, .sl 3 (.int .i64), .sl 3 (.int .i64)]), .int .i64] (.int .i64)), (149, .fn [.sl 185 (.st [.int .i64, .int .i64]), .int .i64] (.int .i64)), (150, .fn [.st [.str, .int .i64, .sl 159 (.st [.int .i64, .sl 3 (.int .i64), .sl 3 (.int .i64)])], .int .i64, .int .i64] (.bool)), (151, .fn [.st [.int .i64, .sl 118 (.st [.str, .int .i64, .sl 159 (.st [.int .i64, .sl 3 (.int .i64), .sl 3 (.int .i64)])]), .sl 121 (.st [.int .i64, .int .i64, .bool, .int .i64]), .sl 126 (.st [.sl 170 (.st [.int .i64, .int .i64]), .sl 25 (.sl 3 (.int .i64))]), .sl 3 (.int .i64)], .str] (.int .i64)), (152, .fn [.st [.sl 170 (.st [.int .i64, .int .i64]), .sl 25 (.sl 3 (.int .i64))]] (.bool)), (153, .fn [.st [.int .i64, .sl 118 (.st [.str, .int .i64, .sl 159 (.st [.int .i64, .sl 3 (.int .i64), .sl 3 (.int .i64)])]), .sl 121 (.st [.int .i64, .int .i64, .bool, .int .i64]), .sl 126 (.st [.sl 170 (.st [.int .i64, .int .i64]), .sl 25 (.sl 3 (.int .i64))]), .sl 3 (.int .i64)], .st [.sl 3 (.int .i64), .sl 3 (.int .i64)], .st [.int .i64, .int .i64, .int .i64, .int .i64]] (.bool)), (154, .st [.int .i64, .int .i64, .int .i64, .int .i64]), (155, .st [.int .i64, .int .i64, .int .i64, .int .i64]), (156, .sl 155 (.st [.int .i64, .int .i64, .int .i64, .int .i64])), (157, .fn [.st [.int .i64, .sl 118 (.st [.str, .int .i64, .sl 159 (.st [.int .i64, .sl 3 (.int .i64), .sl 3 (.int .i64)])]), .sl 121 (.st [.int .i64, .int .i64, .bool, .int .i64]), .sl 126 (.st [.sl 170 (.st [.int .i64, .int .i64]), .sl 25 (.sl 3 (.int .i64))]), .sl 3 (.int .i64)], .st [.sl 3 (.int .i64), .sl 3 (.int .i64)]] (.sl 155 (.st [.int .i64, .int .i64, .int .i64, .int .i64]))), (158, .st [.int .i64, .sl 3 (.int .i64), .sl 3 (.int .i64)]), (159, .st [.int .i64, .sl 3 (.int .i64), .sl 3 (.int .i64)]), (160, .fn [.st [.int .i64, .sl 118 (.st [.str, .int .i64, .sl 159 (.st [.int .i64, .sl 3 (.int .i64), .sl 3 (.int .i64)])]), .sl 121 (.st [.int .i64, .int .i64, .bool, .int .i64]), .sl 126 (.st [.sl 170 (.st [.int .i64, .int .i64]), .sl 25 (.sl 3 (.int .i64))]), .sl 3 (.int .i64)], .st [.sl 3 (.int .i64), .sl 3 (.int .i64)], .int .i64] (.st [.int .i64, .sl 3 (.int .i64), .sl 3 (.int .i64)])), (161, .fn [.sl 176 (.st [.int .i64, .sl 3 (.int .i64), .sl 3 (.int .i64)])] (.sl 159 (.st [.int .i64, .sl 3 (.int .i64), .sl 3 (.int .i64)]))), (162, .fn [.sl 185 (.st [.int .i64, .int .i64])] (.sl 170 (.st [.int .i64, .int .i64]))), (163, .fn [.sl 121 (.st [.int .i64, .int .i64, .bool, .int .i64]), .fn [.st [.int .i64, .int .i64, .bool, .int .i64]] (.bool)] (.bool)), (164, .fn [.st [.int .i64, .int .i64, .bool, .int .i64]] (.bool)), (165, .fn [.st [.sl 3 (.int .i64), .sl 3 (.int .i64)], .int .i64] (.st [.int .i64, .sl 3 (.int .i64), .sl 3 (.int .i64)])), (166, .fn [.sl 159 (.st [.int .i64, .sl 3 (.int .i64), .sl 3 (.int .i64)]), .sl 159 (.st [.int .i64, .sl 3 (.int .i64), .sl 3 (.int .i64)])] (.bool)), (167, .fn [.sl 170 (.st [.int .i64, .int .i64]), .sl 170 (.st [.int .i64, .int .i64])] (.bool)), (168, .sl 5 (.int .u8)), (169, .st [.int .i64, .int .i64]), (170, .st [.int .i64, .int .i64]), (171, .fn [.sl 3 (.int .i64), .int .i64] (.bool)), (172, .fn [.int .i64] (.sl 3 (.int .i64))), (175, .fn [.st [.int .i64, .sl 3 (.int .i64), .sl 3 (.int .i64)], .int .i64] (.int .i64)), (176, .st [.int .i64, .sl 3 (.int .i64), .sl 3 (.int .i64)]), (177, .fn [.st [.int .i64, .sl 3 (.int .i64), .sl 3 (.int .i64)], .int .i64, .int .i64] (.bool)), (178, .fn [.str] (.bool)), (179, .fn [.sl 170 (.st [.int .i64, .int .i64])] (.bool)), (180, .fn [.st [.int .i64, .sl 118 (.st [.str, .int .i64, .sl 159 (.st [.int .i64, .sl 3 (.int .i64), .sl 3 (.int .i64)])]), .sl 121 (.st [.int .i64, .int .i64, .bool, .int .i64]), .sl 126 (.st [.sl 170 (.st [.int .i64, .int .i64]), .sl 25 (.sl 3 (.int .i64))]), .sl 3 (.int .i64)], .st [.sl 3 (.int .i64), .sl 3 (.int .i64)], .int .i64, .int .i64] (.int .i64)), (181, .fn [.sl 170 (.st [.int .i64, .int .i64]), .int .i64, .int .i64] (.int .i64)), (182, .fn [.st [.int .i64, .sl 118 (.st [.str, .int .i64, .sl 159 (.st [.int .i64, .sl 3 (.int .i64), .sl 3 (.int .i64)])]), .sl 121 (.st [.int .i64, .int .i64, .bool, .int .i64]), .sl 126 (.st [.sl 170 (.st [.int .i64, .int .i64]), .sl 25 (.sl 3 (.int .i64))]), .sl 3 (.int .i64)]] (.sl 155 (.st [.int .i64, .int .i64, .int .i64, .int .i64]))), (183, .fn [.st [.int .i64, .sl 3 (.int .i64), .sl 3 (.int .i64)]] (.st [.int .i64, .sl 3 (.int .i64), .sl 3 (.int .i64)])), (184, .fn [.st [.int .i64, .int .i64]] (.st [.int .i64, .int .i64])), (185, .st [.int .i64, .int .i64]), (186, .fn [.sl 118 (.st [.str, .int .i64, .sl 159 (.st [.int .i64, .sl 3 (.int .i64), .sl 3 (.int .i64)])]), .fn [.st [.str, .int .i64, .sl 159 (.st [.int .i64, .sl 3 (.int .i64), .sl 3 (.int .i64)])]] (.bool)] (.int .i64)), (187, .fn [.st [.str, .int .i64, .sl 159 (.st [.int .i64, .sl 3 (.int .i64), .sl 3 (.int .i64)])]] (.bool)), (188, .fn [.sl 121 (.st [.int .i64, .int .i64, .bool, .int .i64]), .fn [.st [.int .i64, .int .i64, .bool, .int .i64]] (.bool)] (.int .i64)), (189, .fn [] (.sl 155 (.st [.int .i64, .int .i64, .int .i64, .int .i64]))), (190, .fn [.st [.sl 3 (.int .i64), .sl 3 (.int .i64)], .st [.int .i64, .int .i64, .int .i64, .int .i64]] (.bool)), (191, .fn [.st [.int .i64, .sl 3 (.int .i64), .sl 3 (.int .i64)], .st [.int .i64, .sl 3 (.int .i64), .sl 3 (.int .i64)]] (.bool)), (192, .fn [.st [.int .i64, .int .i64], .st [.int .i64, .int .i64]] (.bool)), (193, .fn [.sl 170 (.st [.int .i64, .int .i64]), .int .i64, .int .i64] (.bool)), (194, .fn [.st [.int .i64, .sl 118 (.st [.str, .int .i64, .sl 159 (.st [.int .i64, .sl 3 (.int .i64), .sl 3 (.int .i64)])]), .sl 121 (.st [.int .i64, .int .i64, .bool, .int .i64]), .sl 126 (.st [.sl 170 (.st [.int .i64, .int .i64]), .sl 25 (.sl 3 (.int .i64))]), .sl 3 (.int .i64)], .st [.sl 3 (.int .i64), .sl 3 (.int .i64)], .int .i64, .int .i64, .int .i64] (.bool)), (195, .fn [.st [.int .i64, .sl 118 (.st [.str, .int .i64, .sl 159 (.st [.int .i64, .sl 3 (.int .i64), .sl 3 (.int .i64)])]), .sl 121 (.st [.int .i64, .int .i64, .bool, .int .i64]), .sl 126 (.st [.sl 170 (.st [.int .i64, .int .i64]), .sl 25 (.sl 3 (.int .i64))]), .sl 3 (.int .i64)], .int .i64] (.bool)), (196, .fn [.st [.sl 3 (.int .i64), .sl 3 (.int .i64)], .st [.int .i64, .int .i64, .bool, .int .i64]] (.bool)), (197, .fn [.st [.sl 3 (.int .i64), .sl 3 (.int .i64)], .int .i64, .int .i64] (.int .i64)), (198, .fn [.st [.sl 3 (.int .i64), .sl 3 (.int .i64)], .int .i64, .int .i64, .int .i64] (.int .i64)), (199, .fn [.st [.sl 3 (.int .i64), .sl 3 (.int .i64)], .int .i64, .int .i64, .int .i64] (.bool)), (200, .fn [.st [.sl 3 (.int .i64), .sl 3 (.int .i64)], .int .i64] (.sl 3 (.int .i64))), (201, .fn [.st [.int .i64, .sl 118 (.st [.str, .int .i64, .sl 159 (.st [.int .i64, .sl 3 (.int .i64), .sl 3 (.int .i64)])]), .sl 121 (.st [.int .i64, .int .i64, .bool, .int .i64]), .sl 126 (.st [.sl 170 (.st [.int .i64, .int .i64]), .sl 25 (.sl 3 (.int .i64))]), .sl 3 (.int .i64)], .int .i64, .int .i64, .int .i64] (.int .i64))]
theorem tysOk : LkAll (TnOk Tryz.prog) tys := ⟨tn3, tn4, tn5, tn9, tn22, tn23, tn24, tn25, tn26, tn27, tn28, tn29, tn30, tn32, tn33, tn34, tn35, tn36, tn37, tn38, tn39, tn40, tn41, tn42, tn43, tn45, tn61, tn62, tn63, tn64, tn65, tn66, tn67, tn68, tn69, tn70, tn71, tn72, tn73, tn74, tn75, tn76, tn77, tn78, tn81, tn92, tn97, tn100, tn101, tn102, tn103, tn104, tn105, tn106, tn107, tn108, tn109, tn110, tn111, tn112, tn113, tn114, tn115, tn116, tn117, tn118, tn119, tn120, tn121, tn122, tn123, tn124, tn125, tn126, tn127, tn128, tn129, tn130, tn131, tn132, tn133, tn134, tn143, tn146, tn148, tn149, tn150, tn151, tn152, tn153, tn154, tn155, tn156, tn157, tn158, tn159, tn160, tn161, tn162, tn163, tn164, tn165, tn166, tn167, tn168, tn169, tn170, tn171, tn172, tn175, tn176, tn177, tn178, tn179, tn180, tn181, tn182, tn183, tn184, tn185, tn186, tn187, tn188, tn189, tn190, tn191, tn192, tn193, tn194, tn195, tn196, tn197, tn198, tn199, tn200, tn201, trivial⟩
def laws_szIntS (x : ((List Int) × (Int × Unit))) (c : Unit) : (Option (Int × Unit)) :=
  (if (ltZ (subZ .i64 x.2.1 (lenI x.1)) 0) = true then (some ((-1), ())) else (some ((subZ .i64 x.2.1 (lenI x.1)), ())))
def H_laws_szIntS : Hd := ⟨[.sl 3 (.int .i64), .int .i64], [], none, .p, .int .i64, .p, []⟩
def T_laws_szIntS : FSig := ⟨H_laws_szIntS.ps, H_laws_szIntS.cs, H_laws_szIntS.io, H_laws_szIntS.im, H_laws_szIntS.R, H_laws_szIntS.m, laws_szIntS⟩
theorem E_laws_szIntS : fnOf tys [] Tryz.f28 H_laws_szIntS = T_laws_szIntS := by kernel_rfl
theorem K_laws_szIntS : SigOk Tryz.prog 28 T_laws_szIntS := (congrArg (SigOk Tryz.prog 28) E_laws_szIntS).mp (fnOf_ok rfl tysOk trivial Tryz.func28 (by decide) rfl (fun _ h => by cases h) (nilEq_of (by kernel_rfl)))
def laws_szMode (x : (D_Mode × (Int × Unit))) (c : Unit) : (Option (Int × Unit)) :=
  (Option.bind ((Option.bind (laws_szIntS (x.1.2.1, (x.2.1, ())) ()) fun v0 => (some v0.1)) : (Option Int)) fun v1 => (if (ltZ v1 0) = true then (some ((-1), ())) else (Option.bind ((Option.bind (laws_szIntS (x.1.2.2.1, (v1, ())) ()) fun v2 => (some v2.1)) : (Option Int)) fun v3 => (if (ltZ v3 0) = true then (some ((-1), ())) else (some (v3, ()))))))
def H_laws_szMode : Hd := ⟨[.st [.int .i64, .sl 3 (.int .i64), .sl 3 (.int .i64)], .int .i64], [], none, .p, .int .i64, .p, []⟩
def T_laws_szMode : FSig := ⟨H_laws_szMode.ps, H_laws_szMode.cs, H_laws_szMode.io, H_laws_szMode.im, H_laws_szMode.R, H_laws_szMode.m, laws_szMode⟩
theorem E_laws_szMode : fnOf tys [(28, T_laws_szIntS)] Tryz.f151 H_laws_szMode = T_laws_szMode := by kernel_rfl
theorem K_laws_szMode : SigOk Tryz.prog 151 T_laws_szMode := (congrArg (SigOk Tryz.prog 151) E_laws_szMode).mp (fnOf_ok rfl tysOk ⟨K_laws_szIntS, trivial⟩ Tryz.func151 (by decide) rfl (fun _ h => by cases h) (nilEq_of (by kernel_rfl)))
def laws_szModeS_L0 : (Int × ((List D_Mode) × (Int × Unit))) → Option (Out (Int × ((List D_Mode) × (Int × Unit))) ((Bool × (Int × ((List D_Mode) × (Int × Unit)))) ⊕ Empty) (Int × Unit)) :=
  (fun v0 => (if (ltZ v0.1 (lenI v0.2.1)) = true then (Option.bind (getI v0.2.1 v0.1) fun v1 => (Option.bind ((Option.bind (laws_szMode (v1, (v0.2.2.1, ())) ()) fun v2 => (some v2.1)) : (Option Int)) fun v3 => (if (ltZ v3 0) = true then (some (Out.ret ((-1), ()))) else (some (Out.norm ((addZ .i64 v0.1 1), (v0.2.1, (v3, ())))))))) else (some (Out.exit (Sum.inl ((ltZ v0.1 (lenI v0.2.1)), (v0.1, (v0.2.1, (v0.2.2.1, ())))))))))
def laws_szModeS (x : ((List D_Mode) × (Int × Unit))) (c : Unit) : (Option (Int × Unit)) :=
  (if (ltZ (subZ .i64 x.2.1 (lenI x.1)) 0) = true then (some ((-1), ())) else (Option.bind (loopN (A := (Int × ((List D_Mode) × (Int × Unit)))) big laws_szModeS_L0 (0, (x.1, ((subZ .i64 x.2.1 (lenI x.1)), ())))) fun v4 => (match v4 with | Out.norm v5 => none | Out.exit v6 => (match ((match v6 with | Sum.inl v9 => (Sum.inl (v9.2.2.2.1, ())) | Sum.inr v10 => (Empty.elim v10)) : ((Int × Unit) ⊕ Empty)) with | Sum.inl v7 => (some (v7.1, ())) | Sum.inr v8 => none) | Out.ret v11 => (some v11))))
def H_laws_szModeS : Hd := ⟨[.sl 176 (.st [.int .i64, .sl 3 (.int .i64), .sl 3 (.int .i64)]), .int .i64], [], none, .p, .int .i64, .p, []⟩
def T_laws_szModeS : FSig := ⟨H_laws_szModeS.ps, H_laws_szModeS.cs, H_laws_szModeS.io, H_laws_szModeS.im, H_laws_szModeS.R, H_laws_szModeS.m, laws_szModeS⟩
theorem E_laws_szModeS : fnOf tys [(151, T_laws_szMode)] Tryz.f120 H_laws_szModeS = T_laws_szModeS := by kernel_rfl
theorem K_laws_szModeS : SigOk Tryz.prog 120 T_laws_szModeS := (congrArg (SigOk Tryz.prog 120) E_laws_szModeS).mp (fnOf_ok rfl tysOk ⟨K_laws_szMode, trivial⟩ Tryz.func120 (by decide) rfl (fun _ h => by cases h) (nilEq_of (by kernel_rfl)))
def laws_szActivity (x : (D_Activity × (Int × Unit))) (c : Unit) : (Option (Int × Unit)) :=
  (if (ltZ (subZ .i64 x.2.1 (lenI x.1.1)) 0) = true then (some ((-1), ())) else (Option.bind ((Option.bind (laws_szModeS (x.1.2.2.1, ((subZ .i64 x.2.1 (lenI x.1.1)), ())) ()) fun v0 => (some v0.1)) : (Option Int)) fun v1 => (if (ltZ v1 0) = true then (some ((-1), ())) else (some (v1, ())))))
def H_laws_szActivity : Hd := ⟨[.st [.str, .int .i64, .sl 176 (.st [.int .i64, .sl 3 (.int .i64), .sl 3 (.int .i64)])], .int .i64], [], none, .p, .int .i64, .p, []⟩
def T_laws_szActivity : FSig := ⟨H_laws_szActivity.ps, H_laws_szActivity.cs, H_laws_szActivity.io, H_laws_szActivity.im, H_laws_szActivity.R, H_laws_szActivity.m, laws_szActivity⟩
theorem E_laws_szActivity : fnOf tys [(120, T_laws_szModeS)] Tryz.f67 H_laws_szActivity = T_laws_szActivity := by kernel_rfl
theorem K_laws_szActivity : SigOk Tryz.prog 67 T_laws_szActivity := (congrArg (SigOk Tryz.prog 67) E_laws_szActivity).mp (fnOf_ok rfl tysOk ⟨K_laws_szModeS, trivial⟩ Tryz.func67 (by decide) rfl (fun _ h => by cases h) (nilEq_of (by kernel_rfl)))
def laws_szActivityS_L0 : (Int × ((List D_Activity) × (Int × Unit))) → Option (Out (Int × ((List D_Activity) × (Int × Unit))) ((Bool × (Int × ((List D_Activity) × (Int × Unit)))) ⊕ Empty) (Int × Unit)) :=
  (fun v0 => (if (ltZ v0.1 (lenI v0.2.1)) = true then (Option.bind (getI v0.2.1 v0.1) fun v1 => (Option.bind ((Option.bind (laws_szActivity (v1, (v0.2.2.1, ())) ()) fun v2 => (some v2.1)) : (Option Int)) fun v3 => (if (ltZ v3 0) = true then (some (Out.ret ((-1), ()))) else (some (Out.norm ((addZ .i64 v0.1 1), (v0.2.1, (v3, ())))))))) else (some (Out.exit (Sum.inl ((ltZ v0.1 (lenI v0.2.1)), (v0.1, (v0.2.1, (v0.2.2.1, ())))))))))
def laws_szActivityS (x : ((List D_Activity) × (Int × Unit))) (c : Unit) : (Option (Int × Unit)) :=
  (if (ltZ (subZ .i64 x.2.1 (lenI x.1)) 0) = true then (some ((-1), ())) else (Option.bind (loopN (A := (Int × ((List D_Activity) × (Int × Unit)))) big laws_szActivityS_L0 (0, (x.1, ((subZ .i64 x.2.1 (lenI x.1)), ())))) fun v4 => (match v4 with | Out.norm v5 => none | Out.exit v6 => (match ((match v6 with | Sum.inl v9 => (Sum.inl (v9.2.2.2.1, ())) | Sum.inr v10 => (Empty.elim v10)) : ((Int × Unit) ⊕ Empty)) with | Sum.inl v7 => (some (v7.1, ())) | Sum.inr v8 => none) | Out.ret v11 => (some v11))))
def H_laws_szActivityS : Hd := ⟨[.sl 103 (.st [.str, .int .i64, .sl 176 (.st [.int .i64, .sl 3 (.int .i64), .sl 3 (.int .i64)])]), .int .i64], [], none, .p, .int .i64, .p, []⟩
def T_laws_szActivityS : FSig := ⟨H_laws_szActivityS.ps, H_laws_szActivityS.cs, H_laws_szActivityS.io, H_laws_szActivityS.im, H_laws_szActivityS.R, H_laws_szActivityS.m, laws_szActivityS⟩
theorem E_laws_szActivityS : fnOf tys [(67, T_laws_szActivity)] Tryz.f25 H_laws_szActivityS = T_laws_szActivityS := by kernel_rfl
theorem K_laws_szActivityS : SigOk Tryz.prog 25 T_laws_szActivityS := (congrArg (SigOk Tryz.prog 25) E_laws_szActivityS).mp (fnOf_ok rfl tysOk ⟨K_laws_szActivity, trivial⟩ Tryz.func25 (by decide) rfl (fun _ h => by cases h) (nilEq_of (by kernel_rfl)))
def laws_szLinkS (x : ((List D_Link) × (Int × Unit))) (c : Unit) : (Option (Int × Unit)) :=
  (if (ltZ (subZ .i64 x.2.1 (lenI x.1)) 0) = true then (some ((-1), ())) else (some ((subZ .i64 x.2.1 (lenI x.1)), ())))
def H_laws_szLinkS : Hd := ⟨[.sl 123 (.st [.int .i64, .int .i64, .bool, .int .i64]), .int .i64], [], none, .p, .int .i64, .p, []⟩
def T_laws_szLinkS : FSig := ⟨H_laws_szLinkS.ps, H_laws_szLinkS.cs, H_laws_szLinkS.io, H_laws_szLinkS.im, H_laws_szLinkS.R, H_laws_szLinkS.m, laws_szLinkS⟩
theorem E_laws_szLinkS : fnOf tys [] Tryz.f26 H_laws_szLinkS = T_laws_szLinkS := by kernel_rfl
theorem K_laws_szLinkS : SigOk Tryz.prog 26 T_laws_szLinkS := (congrArg (SigOk Tryz.prog 26) E_laws_szLinkS).mp (fnOf_ok rfl tysOk trivial Tryz.func26 (by decide) rfl (fun _ h => by cases h) (nilEq_of (by kernel_rfl)))
def laws_szIntSS_L0 : (Int × ((List (List Int)) × (Int × Unit))) → Option (Out (Int × ((List (List Int)) × (Int × Unit))) ((Bool × (Int × ((List (List Int)) × (Int × Unit)))) ⊕ Empty) (Int × Unit)) :=
  (fun v0 => (if (ltZ v0.1 (lenI v0.2.1)) = true then (Option.bind (getI v0.2.1 v0.1) fun v1 => (Option.bind ((Option.bind (laws_szIntS (v1, (v0.2.2.1, ())) ()) fun v2 => (some v2.1)) : (Option Int)) fun v3 => (if (ltZ v3 0) = true then (some (Out.ret ((-1), ()))) else (some (Out.norm ((addZ .i64 v0.1 1), (v0.2.1, (v3, ())))))))) else (some (Out.exit (Sum.inl ((ltZ v0.1 (lenI v0.2.1)), (v0.1, (v0.2.1, (v0.2.2.1, ())))))))))
def laws_szIntSS (x : ((List (List Int)) × (Int × Unit))) (c : Unit) : (Option (Int × Unit)) :=
  (if (ltZ (subZ .i64 x.2.1 (lenI x.1)) 0) = true then (some ((-1), ())) else (Option.bind (loopN (A := (Int × ((List (List Int)) × (Int × Unit)))) big laws_szIntSS_L0 (0, (x.1, ((subZ .i64 x.2.1 (lenI x.1)), ())))) fun v4 => (match v4 with | Out.norm v5 => none | Out.exit v6 => (match ((match v6 with | Sum.inl v9 => (Sum.inl (v9.2.2.2.1, ())) | Sum.inr v10 => (Empty.elim v10)) : ((Int × Unit) ⊕ Empty)) with | Sum.inl v7 => (some (v7.1, ())) | Sum.inr v8 => none) | Out.ret v11 => (some v11))))
def H_laws_szIntSS : Hd := ⟨[.sl 25 (.sl 3 (.int .i64)), .int .i64], [], none, .p, .int .i64, .p, []⟩
def T_laws_szIntSS : FSig := ⟨H_laws_szIntSS.ps, H_laws_szIntSS.cs, H_laws_szIntSS.io, H_laws_szIntSS.im, H_laws_szIntSS.R, H_laws_szIntSS.m, laws_szIntSS⟩
theorem E_laws_szIntSS : fnOf tys [(28, T_laws_szIntS)] Tryz.f47 H_laws_szIntSS = T_laws_szIntSS := by kernel_rfl
theorem K_laws_szIntSS : SigOk Tryz.prog 47 T_laws_szIntSS := (congrArg (SigOk Tryz.prog 47) E_laws_szIntSS).mp (fnOf_ok rfl tysOk ⟨K_laws_szIntS, trivial⟩ Tryz.func47 (by decide) rfl (fun _ h => by cases h) (nilEq_of (by kernel_rfl)))
def laws_szStepS (x : ((List D_Step) × (Int × Unit))) (c : Unit) : (Option (Int × Unit)) :=
  (if (ltZ (subZ .i64 x.2.1 (lenI x.1)) 0) = true then (some ((-1), ())) else (some ((subZ .i64 x.2.1 (lenI x.1)), ())))
def H_laws_szStepS : Hd := ⟨[.sl 185 (.st [.int .i64, .int .i64]), .int .i64], [], none, .p, .int .i64, .p, []⟩
def T_laws_szStepS : FSig := ⟨H_laws_szStepS.ps, H_laws_szStepS.cs, H_laws_szStepS.io, H_laws_szStepS.im, H_laws_szStepS.R, H_laws_szStepS.m, laws_szStepS⟩
theorem E_laws_szStepS : fnOf tys [] Tryz.f121 H_laws_szStepS = T_laws_szStepS := by kernel_rfl
theorem K_laws_szStepS : SigOk Tryz.prog 121 T_laws_szStepS := (congrArg (SigOk Tryz.prog 121) E_laws_szStepS).mp (fnOf_ok rfl tysOk trivial Tryz.func121 (by decide) rfl (fun _ h => by cases h) (nilEq_of (by kernel_rfl)))
def laws_szResource (x : (D_Resource × (Int × Unit))) (c : Unit) : (Option (Int × Unit)) :=
  (Option.bind ((Option.bind (laws_szStepS (x.1.1, (x.2.1, ())) ()) fun v0 => (some v0.1)) : (Option Int)) fun v1 => (if (ltZ v1 0) = true then (some ((-1), ())) else (Option.bind ((Option.bind (laws_szIntSS (x.1.2.1, (v1, ())) ()) fun v2 => (some v2.1)) : (Option Int)) fun v3 => (if (ltZ v3 0) = true then (some ((-1), ())) else (some (v3, ()))))))
def H_laws_szResource : Hd := ⟨[.st [.sl 185 (.st [.int .i64, .int .i64]), .sl 25 (.sl 3 (.int .i64))], .int .i64], [], none, .p, .int .i64, .p, []⟩
def T_laws_szResource : FSig := ⟨H_laws_szResource.ps, H_laws_szResource.cs, H_laws_szResource.io, H_laws_szResource.im, H_laws_szResource.R, H_laws_szResource.m, laws_szResource⟩
theorem E_laws_szResource : fnOf tys [(47, T_laws_szIntSS), (121, T_laws_szStepS)] Tryz.f68 H_laws_szResource = T_laws_szResource := by kernel_rfl
theorem K_laws_szResource : SigOk Tryz.prog 68 T_laws_szResource := (congrArg (SigOk Tryz.prog 68) E_laws_szResource).mp (fnOf_ok rfl tysOk ⟨K_laws_szIntSS, K_laws_szStepS, trivial⟩ Tryz.func68 (by decide) rfl (fun _ h => by cases h) (nilEq_of (by kernel_rfl)))
def laws_szResourceS_L0 : (Int × ((List D_Resource) × (Int × Unit))) → Option (Out (Int × ((List D_Resource) × (Int × Unit))) ((Bool × (Int × ((List D_Resource) × (Int × Unit)))) ⊕ Empty) (Int × Unit)) :=
  (fun v0 => (if (ltZ v0.1 (lenI v0.2.1)) = true then (Option.bind (getI v0.2.1 v0.1) fun v1 => (Option.bind ((Option.bind (laws_szResource (v1, (v0.2.2.1, ())) ()) fun v2 => (some v2.1)) : (Option Int)) fun v3 => (if (ltZ v3 0) = true then (some (Out.ret ((-1), ()))) else (some (Out.norm ((addZ .i64 v0.1 1), (v0.2.1, (v3, ())))))))) else (some (Out.exit (Sum.inl ((ltZ v0.1 (lenI v0.2.1)), (v0.1, (v0.2.1, (v0.2.2.1, ())))))))))
def laws_szResourceS (x : ((List D_Resource) × (Int × Unit))) (c : Unit) : (Option (Int × Unit)) :=
  (if (ltZ (subZ .i64 x.2.1 (lenI x.1)) 0) = true then (some ((-1), ())) else (Option.bind (loopN (A := (Int × ((List D_Resource) × (Int × Unit)))) big laws_szResourceS_L0 (0, (x.1, ((subZ .i64 x.2.1 (lenI x.1)), ())))) fun v4 => (match v4 with | Out.norm v5 => none | Out.exit v6 => (match ((match v6 with | Sum.inl v9 => (Sum.inl (v9.2.2.2.1, ())) | Sum.inr v10 => (Empty.elim v10)) : ((Int × Unit) ⊕ Empty)) with | Sum.inl v7 => (some (v7.1, ())) | Sum.inr v8 => none) | Out.ret v11 => (some v11))))
def H_laws_szResourceS : Hd := ⟨[.sl 107 (.st [.sl 185 (.st [.int .i64, .int .i64]), .sl 25 (.sl 3 (.int .i64))]), .int .i64], [], none, .p, .int .i64, .p, []⟩
def T_laws_szResourceS : FSig := ⟨H_laws_szResourceS.ps, H_laws_szResourceS.cs, H_laws_szResourceS.io, H_laws_szResourceS.im, H_laws_szResourceS.R, H_laws_szResourceS.m, laws_szResourceS⟩
theorem E_laws_szResourceS : fnOf tys [(68, T_laws_szResource)] Tryz.f27 H_laws_szResourceS = T_laws_szResourceS := by kernel_rfl
theorem K_laws_szResourceS : SigOk Tryz.prog 27 T_laws_szResourceS := (congrArg (SigOk Tryz.prog 27) E_laws_szResourceS).mp (fnOf_ok rfl tysOk ⟨K_laws_szResource, trivial⟩ Tryz.func27 (by decide) rfl (fun _ h => by cases h) (nilEq_of (by kernel_rfl)))
def laws_szProject (x : (D_Project × (Int × Unit))) (c : Unit) : (Option (Int × Unit)) :=
  (Option.bind ((Option.bind (laws_szActivityS (x.1.2.1, (x.2.1, ())) ()) fun v0 => (some v0.1)) : (Option Int)) fun v1 => (if (ltZ v1 0) = true then (some ((-1), ())) else (Option.bind ((Option.bind (laws_szLinkS (x.1.2.2.1, (v1, ())) ()) fun v2 => (some v2.1)) : (Option Int)) fun v3 => (if (ltZ v3 0) = true then (some ((-1), ())) else (Option.bind ((Option.bind (laws_szResourceS (x.1.2.2.2.1, (v3, ())) ()) fun v4 => (some v4.1)) : (Option Int)) fun v5 => (if (ltZ v5 0) = true then (some ((-1), ())) else (Option.bind ((Option.bind (laws_szIntS (x.1.2.2.2.2.1, (v5, ())) ()) fun v6 => (some v6.1)) : (Option Int)) fun v7 => (if (ltZ v7 0) = true then (some ((-1), ())) else (some (v7, ()))))))))))
def H_laws_szProject : Hd := ⟨[.st [.int .i64, .sl 103 (.st [.str, .int .i64, .sl 176 (.st [.int .i64, .sl 3 (.int .i64), .sl 3 (.int .i64)])]), .sl 123 (.st [.int .i64, .int .i64, .bool, .int .i64]), .sl 107 (.st [.sl 185 (.st [.int .i64, .int .i64]), .sl 25 (.sl 3 (.int .i64))]), .sl 3 (.int .i64)], .int .i64], [], none, .p, .int .i64, .p, []⟩
def T_laws_szProject : FSig := ⟨H_laws_szProject.ps, H_laws_szProject.cs, H_laws_szProject.io, H_laws_szProject.im, H_laws_szProject.R, H_laws_szProject.m, laws_szProject⟩
theorem E_laws_szProject : fnOf tys [(25, T_laws_szActivityS), (26, T_laws_szLinkS), (27, T_laws_szResourceS), (28, T_laws_szIntS)] Tryz.f5 H_laws_szProject = T_laws_szProject := by kernel_rfl
theorem K_laws_szProject : SigOk Tryz.prog 5 T_laws_szProject := (congrArg (SigOk Tryz.prog 5) E_laws_szProject).mp (fnOf_ok rfl tysOk ⟨K_laws_szActivityS, K_laws_szLinkS, K_laws_szResourceS, K_laws_szIntS, trivial⟩ Tryz.func5 (by decide) rfl (fun _ h => by cases h) (nilEq_of (by kernel_rfl)))
def spec_l01In (x : (Int × D_Step)) (c : Unit) : (Option (Bool × Unit)) :=
  (Option.bind ((if (leZ x.2.1 x.1) = true then (some ((leZ x.1 x.2.2.1), ())) else (some (false, ()))) : (Option (Bool × Unit))) fun v0 => (some (v0.1, ())))
def H_spec_l01In : Hd := ⟨[.int .i64, .int .i64, .int .i64], [], none, .p, .bool, .p, []⟩
def T_spec_l01In : FSig := ⟨H_spec_l01In.ps, H_spec_l01In.cs, H_spec_l01In.io, H_spec_l01In.im, H_spec_l01In.R, H_spec_l01In.m, spec_l01In⟩
theorem E_spec_l01In : fnOf tys [] Tryz.f70 H_spec_l01In = T_spec_l01In := by kernel_rfl
theorem K_spec_l01In : SigOk Tryz.prog 70 T_spec_l01In := (congrArg (SigOk Tryz.prog 70) E_spec_l01In).mp (fnOf_ok rfl tysOk trivial Tryz.func70 (by decide) rfl (fun _ h => by cases h) (nilEq_of (by kernel_rfl)))
def spec_l04Nums_L0 : (Int × (Int × ((List Int) × ((List Int) × (Int × Unit))))) → Option (Out (Int × (Int × ((List Int) × ((List Int) × (Int × Unit))))) ((Bool × (Int × (Int × ((List Int) × ((List Int) × (Int × Unit)))))) ⊕ Empty) (Bool × Unit)) :=
  (fun v0 => (if (ltZ v0.1 v0.2.1) = true then (Option.bind (getI v0.2.2.1 v0.1) fun v1 => (Option.bind ((Option.bind (spec_l01In (v1, (0, (20, ()))) ()) fun v2 => (some v2.1)) : (Option Bool)) fun v3 => (if (notB v3) = true then (some (Out.ret (false, ()))) else (some (Out.norm ((addZ .i64 v0.1 1), (v0.2.1, (v0.2.2.1, (v0.2.2.2.1, (v0.2.2.2.2.1, ())))))))))) else (some (Out.exit (Sum.inl ((ltZ v0.1 v0.2.1), (v0.1, (v0.2.1, (v0.2.2.1, (v0.2.2.2.1, (v0.2.2.2.2.1, ())))))))))))
def spec_l04Nums (x : ((List Int) × (Int × Unit))) (c : Unit) : (Option (Bool × Unit)) :=
  (Option.bind (loopN (A := (Int × (Int × ((List Int) × ((List Int) × (Int × Unit)))))) big spec_l04Nums_L0 (0, ((lenI x.1), (x.1, (x.1, (x.2.1, ())))))) fun v4 => (match v4 with | Out.norm v5 => none | Out.exit v6 => (match ((match v6 with | Sum.inl v9 => (Sum.inl (v9.2.2.2.2.1, (v9.2.2.2.2.2.1, ()))) | Sum.inr v10 => (Empty.elim v10)) : (((List Int) × (Int × Unit)) ⊕ Empty)) with | Sum.inl v7 => (some ((eqZ (lenI v7.1) v7.2.1), ())) | Sum.inr v8 => none) | Out.ret v11 => (some v11)))
def H_spec_l04Nums : Hd := ⟨[.sl 3 (.int .i64), .int .i64], [], none, .p, .bool, .p, []⟩
def T_spec_l04Nums : FSig := ⟨H_spec_l04Nums.ps, H_spec_l04Nums.cs, H_spec_l04Nums.io, H_spec_l04Nums.im, H_spec_l04Nums.R, H_spec_l04Nums.m, spec_l04Nums⟩
theorem E_spec_l04Nums : fnOf tys [(70, T_spec_l01In)] Tryz.f178 H_spec_l04Nums = T_spec_l04Nums := by kernel_rfl
theorem K_spec_l04Nums : SigOk Tryz.prog 178 T_spec_l04Nums := (congrArg (SigOk Tryz.prog 178) E_spec_l04Nums).mp (fnOf_ok rfl tysOk ⟨K_spec_l01In, trivial⟩ Tryz.func178 (by decide) rfl (fun _ h => by cases h) (nilEq_of (by kernel_rfl)))
def spec_ModeOk (x : (D_Mode × D_Step)) (c : Unit) : (Option (Bool × Unit)) :=
  (Option.bind ((Option.bind (spec_l01In (x.1.1, (1, (12, ()))) ()) fun v0 => (some v0.1)) : (Option Bool)) fun v1 => (Option.bind ((if v1 = true then (Option.bind ((Option.bind (spec_l04Nums (x.1.2.1, (x.2.1, ())) ()) fun v2 => (some v2.1)) : (Option Bool)) fun v3 => (Option.bind ((if v3 = true then (Option.bind ((Option.bind (spec_l04Nums (x.1.2.2.1, (x.2.2.1, ())) ()) fun v4 => (some v4.1)) : (Option Bool)) fun v5 => (some (v5, ()))) else (some (false, ()))) : (Option (Bool × Unit))) fun v6 => (some (v6.1, ())))) else (some (false, ()))) : (Option (Bool × Unit))) fun v7 => (some (v7.1, ()))))
def H_spec_ModeOk : Hd := ⟨[.st [.int .i64, .sl 3 (.int .i64), .sl 3 (.int .i64)], .int .i64, .int .i64], [], none, .p, .bool, .p, []⟩
def T_spec_ModeOk : FSig := ⟨H_spec_ModeOk.ps, H_spec_ModeOk.cs, H_spec_ModeOk.io, H_spec_ModeOk.im, H_spec_ModeOk.R, H_spec_ModeOk.m, spec_ModeOk⟩
theorem E_spec_ModeOk : fnOf tys [(70, T_spec_l01In), (178, T_spec_l04Nums)] Tryz.f152 H_spec_ModeOk = T_spec_ModeOk := by kernel_rfl
theorem K_spec_ModeOk : SigOk Tryz.prog 152 T_spec_ModeOk := (congrArg (SigOk Tryz.prog 152) E_spec_ModeOk).mp (fnOf_ok rfl tysOk ⟨K_spec_l01In, K_spec_l04Nums, trivial⟩ Tryz.func152 (by decide) rfl (fun _ h => by cases h) (nilEq_of (by kernel_rfl)))
def spec_IsName_L0 : (Int × ((List UInt8) × Unit)) → Option (Out (Int × ((List UInt8) × Unit)) ((Bool × (Int × ((List UInt8) × Unit))) ⊕ Empty) (Bool × Unit)) :=
  (fun v0 => (if (ltZ v0.1 (lenI v0.2.1)) = true then (Option.bind (byteAt v0.2.1 v0.1) fun v1 => (Option.bind ((if (leZ 97 v1) = true then (Option.bind (byteAt v0.2.1 v0.1) fun v2 => (some ((leZ v2 122), (v0.1, (v0.2.1, ()))))) else (some (false, (v0.1, (v0.2.1, ()))))) : (Option (Bool × (Int × ((List UInt8) × Unit))))) fun v3 => (Option.bind ((if (notB v3.1) = true then (Option.bind ((if (eqZ v3.2.1 0) = true then (some (true, (v3.2.1, (v3.2.2.1, ())))) else (Option.bind (byteAt v3.2.2.1 v3.2.1) fun v4 => (Option.bind ((if (ltZ v4 48) = true then (some (true, (v3.2.1, (v3.2.2.1, ())))) else (Option.bind (byteAt v3.2.2.1 v3.2.1) fun v5 => (some ((ltZ 57 v5), (v3.2.1, (v3.2.2.1, ())))))) : (Option (Bool × (Int × ((List UInt8) × Unit))))) fun v6 => (some (v6.1, (v6.2.1, (v6.2.2.1, ()))))))) : (Option (Bool × (Int × ((List UInt8) × Unit))))) fun v7 => (some (v7.1, (v7.2.1, (v7.2.2.1, ()))))) else (some (false, (v3.2.1, (v3.2.2.1, ()))))) : (Option (Bool × (Int × ((List UInt8) × Unit))))) fun v8 => (if v8.1 = true then (some (Out.ret (false, ()))) else (some (Out.norm ((addZ .i64 v8.2.1 1), (v8.2.2.1, ())))))))) else (some (Out.exit (Sum.inl ((ltZ v0.1 (lenI v0.2.1)), (v0.1, (v0.2.1, ()))))))))
def spec_IsName (x : ((List UInt8) × Unit)) (c : Unit) : (Option (Bool × Unit)) :=
  (Option.bind (loopN (A := (Int × ((List UInt8) × Unit))) big spec_IsName_L0 (0, (x.1, ()))) fun v9 => (match v9 with | Out.norm v10 => none | Out.exit v11 => (match ((match v11 with | Sum.inl v16 => (Sum.inl (v16.2.2.1, ())) | Sum.inr v17 => (Empty.elim v17)) : (((List UInt8) × Unit) ⊕ Empty)) with | Sum.inl v12 => (Option.bind ((Option.bind (spec_l01In ((lenI v12.1), (1, (8, ()))) ()) fun v13 => (some v13.1)) : (Option Bool)) fun v14 => (some (v14, ()))) | Sum.inr v15 => none) | Out.ret v18 => (some v18)))
def H_spec_IsName : Hd := ⟨[.str], [], none, .p, .bool, .p, []⟩
def T_spec_IsName : FSig := ⟨H_spec_IsName.ps, H_spec_IsName.cs, H_spec_IsName.io, H_spec_IsName.im, H_spec_IsName.R, H_spec_IsName.m, spec_IsName⟩
theorem E_spec_IsName : fnOf tys [(70, T_spec_l01In)] Tryz.f153 H_spec_IsName = T_spec_IsName := by kernel_rfl
theorem K_spec_IsName : SigOk Tryz.prog 153 T_spec_IsName := (congrArg (SigOk Tryz.prog 153) E_spec_IsName).mp (fnOf_ok rfl tysOk ⟨K_spec_l01In, trivial⟩ Tryz.func153 (by decide) rfl (fun _ h => by cases h) (nilEq_of (by kernel_rfl)))
def spec_ActivityOk_L0 : (Int × (Int × ((List D_Mode) × (Int × (Int × (D_Activity × Unit)))))) → Option (Out (Int × (Int × ((List D_Mode) × (Int × (Int × (D_Activity × Unit)))))) ((Bool × (Int × (Int × ((List D_Mode) × (Int × (Int × (D_Activity × Unit))))))) ⊕ Empty) (Bool × Unit)) :=
  (fun v0 => (if (ltZ v0.1 v0.2.1) = true then (Option.bind (getI v0.2.2.1 v0.1) fun v1 => (Option.bind ((Option.bind (spec_ModeOk (v1, (v0.2.2.2.1, (v0.2.2.2.2.1, ()))) ()) fun v2 => (some v2.1)) : (Option Bool)) fun v3 => (if (notB v3) = true then (some (Out.ret (false, ()))) else (some (Out.norm ((addZ .i64 v0.1 1), (v0.2.1, (v0.2.2.1, (v0.2.2.2.1, (v0.2.2.2.2.1, (v0.2.2.2.2.2.1, ()))))))))))) else (some (Out.exit (Sum.inl ((ltZ v0.1 v0.2.1), (v0.1, (v0.2.1, (v0.2.2.1, (v0.2.2.2.1, (v0.2.2.2.2.1, (v0.2.2.2.2.2.1, ()))))))))))))
def spec_ActivityOk (x : (D_Activity × D_Step)) (c : Unit) : (Option (Bool × Unit)) :=
  (Option.bind (loopN (A := (Int × (Int × ((List D_Mode) × (Int × (Int × (D_Activity × Unit))))))) big spec_ActivityOk_L0 (0, ((lenI x.1.2.2.1), (x.1.2.2.1, (x.2.1, (x.2.2.1, (x.1, ()))))))) fun v4 => (match v4 with | Out.norm v5 => none | Out.exit v6 => (match ((match v6 with | Sum.inl v17 => (Sum.inl (v17.2.2.2.2.2.2.1, ())) | Sum.inr v18 => (Empty.elim v18)) : ((D_Activity × Unit) ⊕ Empty)) with | Sum.inl v7 => (Option.bind ((Option.bind (spec_IsName (v7.1.1, ()) ()) fun v8 => (some v8.1)) : (Option Bool)) fun v9 => (Option.bind ((if v9 = true then (Option.bind ((Option.bind (spec_l01In (v7.1.2.1, (0, (3, ()))) ()) fun v10 => (some v10.1)) : (Option Bool)) fun v11 => (Option.bind ((if v11 = true then (Option.bind ((Option.bind (spec_l01In ((lenI v7.1.2.2.1), (1, (3, ()))) ()) fun v12 => (some v12.1)) : (Option Bool)) fun v13 => (some (v13, ()))) else (some (false, ()))) : (Option (Bool × Unit))) fun v14 => (some (v14.1, ())))) else (some (false, ()))) : (Option (Bool × Unit))) fun v15 => (some (v15.1, ())))) | Sum.inr v16 => none) | Out.ret v19 => (some v19)))
def H_spec_ActivityOk : Hd := ⟨[.st [.str, .int .i64, .sl 159 (.st [.int .i64, .sl 3 (.int .i64), .sl 3 (.int .i64)])], .int .i64, .int .i64], [], none, .p, .bool, .p, []⟩
def T_spec_ActivityOk : FSig := ⟨H_spec_ActivityOk.ps, H_spec_ActivityOk.cs, H_spec_ActivityOk.io, H_spec_ActivityOk.im, H_spec_ActivityOk.R, H_spec_ActivityOk.m, spec_ActivityOk⟩
theorem E_spec_ActivityOk : fnOf tys [(70, T_spec_l01In), (152, T_spec_ModeOk), (153, T_spec_IsName)] Tryz.f122 H_spec_ActivityOk = T_spec_ActivityOk := by kernel_rfl
theorem K_spec_ActivityOk : SigOk Tryz.prog 122 T_spec_ActivityOk := (congrArg (SigOk Tryz.prog 122) E_spec_ActivityOk).mp (fnOf_ok rfl tysOk ⟨K_spec_l01In, K_spec_ModeOk, K_spec_IsName, trivial⟩ Tryz.func122 (by decide) rfl (fun _ h => by cases h) (nilEq_of (by kernel_rfl)))
def spec_ActivityIndex_L0 : (Int × (Int × ((List D_Activity) × ((List UInt8) × Unit)))) → Option (Out (Int × (Int × ((List D_Activity) × ((List UInt8) × Unit)))) ((Bool × (Int × (Int × ((List D_Activity) × ((List UInt8) × Unit))))) ⊕ Empty) (Int × Unit)) :=
  (fun v0 => (if (ltZ v0.1 v0.2.1) = true then (Option.bind (getI v0.2.2.1 v0.1) fun v1 => (if (eqS v1.1 v0.2.2.2.1) = true then (some (Out.ret (v0.1, ()))) else (some (Out.norm ((addZ .i64 v0.1 1), (v0.2.1, (v0.2.2.1, (v0.2.2.2.1, ())))))))) else (some (Out.exit (Sum.inl ((ltZ v0.1 v0.2.1), (v0.1, (v0.2.1, (v0.2.2.1, (v0.2.2.2.1, ()))))))))))
def spec_ActivityIndex (x : (D_Project × ((List UInt8) × Unit))) (c : Unit) : (Option (Int × Unit)) :=
  (Option.bind (loopN (A := (Int × (Int × ((List D_Activity) × ((List UInt8) × Unit))))) big spec_ActivityIndex_L0 (0, ((lenI x.1.2.1), (x.1.2.1, (x.2.1, ()))))) fun v2 => (match v2 with | Out.norm v3 => none | Out.exit v4 => (match ((match v4 with | Sum.inl v7 => (Sum.inl ()) | Sum.inr v8 => (Empty.elim v8)) : (Unit ⊕ Empty)) with | Sum.inl v5 => (some ((-1), ())) | Sum.inr v6 => none) | Out.ret v9 => (some v9)))
def H_spec_ActivityIndex : Hd := ⟨[.st [.int .i64, .sl 118 (.st [.str, .int .i64, .sl 159 (.st [.int .i64, .sl 3 (.int .i64), .sl 3 (.int .i64)])]), .sl 121 (.st [.int .i64, .int .i64, .bool, .int .i64]), .sl 126 (.st [.sl 170 (.st [.int .i64, .int .i64]), .sl 25 (.sl 3 (.int .i64))]), .sl 3 (.int .i64)], .str], [], none, .p, .int .i64, .p, []⟩
def T_spec_ActivityIndex : FSig := ⟨H_spec_ActivityIndex.ps, H_spec_ActivityIndex.cs, H_spec_ActivityIndex.io, H_spec_ActivityIndex.im, H_spec_ActivityIndex.R, H_spec_ActivityIndex.m, spec_ActivityIndex⟩
theorem E_spec_ActivityIndex : fnOf tys [] Tryz.f123 H_spec_ActivityIndex = T_spec_ActivityIndex := by kernel_rfl
theorem K_spec_ActivityIndex : SigOk Tryz.prog 123 T_spec_ActivityIndex := (congrArg (SigOk Tryz.prog 123) E_spec_ActivityIndex).mp (fnOf_ok rfl tysOk trivial Tryz.func123 (by decide) rfl (fun _ h => by cases h) (nilEq_of (by kernel_rfl)))
def spec_StepsOk_L0 : (Int × (Int × ((List D_Step) × ((List D_Step) × Unit)))) → Option (Out (Int × (Int × ((List D_Step) × ((List D_Step) × Unit)))) ((Bool × (Int × (Int × ((List D_Step) × ((List D_Step) × Unit))))) ⊕ Empty) (Bool × Unit)) :=
  (fun v0 => (if (ltZ v0.1 v0.2.1) = true then (Option.bind (getI v0.2.2.1 v0.1) fun v1 => (Option.bind ((Option.bind (spec_l01In (v1.1, (0, (60, ()))) ()) fun v2 => (some v2.1)) : (Option Bool)) fun v3 => (Option.bind ((if (notB v3) = true then (some (true, (v0.1, (v0.2.1, (v0.2.2.1, (v0.2.2.2.1, ())))))) else (Option.bind ((Option.bind (spec_l01In (v1.2.1, (0, (20, ()))) ()) fun v4 => (some v4.1)) : (Option Bool)) fun v5 => (Option.bind ((if (notB v5) = true then (some (true, (v0.1, (v0.2.1, (v0.2.2.1, (v0.2.2.2.1, ())))))) else (Option.bind ((if (ltZ 0 v0.1) = true then (Option.bind (getI v0.2.2.2.1 (subZ .i64 v0.1 1)) fun v6 => (some ((leZ v1.1 v6.1), (v0.1, (v0.2.1, (v0.2.2.1, (v0.2.2.2.1, ()))))))) else (some (false, (v0.1, (v0.2.1, (v0.2.2.1, (v0.2.2.2.1, ()))))))) : (Option (Bool × (Int × (Int × ((List D_Step) × ((List D_Step) × Unit))))))) fun v7 => (some (v7.1, (v7.2.1, (v7.2.2.1, (v7.2.2.2.1, (v7.2.2.2.2.1, ())))))))) : (Option (Bool × (Int × (Int × ((List D_Step) × ((List D_Step) × Unit))))))) fun v8 => (some (v8.1, (v8.2.1, (v8.2.2.1, (v8.2.2.2.1, (v8.2.2.2.2.1, ()))))))))) : (Option (Bool × (Int × (Int × ((List D_Step) × ((List D_Step) × Unit))))))) fun v9 => (if v9.1 = true then (some (Out.ret (false, ()))) else (some (Out.norm ((addZ .i64 v9.2.1 1), (v9.2.2.1, (v9.2.2.2.1, (v9.2.2.2.2.1, ())))))))))) else (some (Out.exit (Sum.inl ((ltZ v0.1 v0.2.1), (v0.1, (v0.2.1, (v0.2.2.1, (v0.2.2.2.1, ()))))))))))
def spec_StepsOk (x : ((List D_Step) × Unit)) (c : Unit) : (Option (Bool × Unit)) :=
  (Option.bind (loopN (A := (Int × (Int × ((List D_Step) × ((List D_Step) × Unit))))) big spec_StepsOk_L0 (0, ((lenI x.1), (x.1, (x.1, ()))))) fun v10 => (match v10 with | Out.norm v11 => none | Out.exit v12 => (match ((match v12 with | Sum.inl v19 => (Sum.inl (v19.2.2.2.2.1, ())) | Sum.inr v20 => (Empty.elim v20)) : (((List D_Step) × Unit) ⊕ Empty)) with | Sum.inl v13 => (Option.bind ((Option.bind (spec_l01In ((lenI v13.1), (1, (8, ()))) ()) fun v14 => (some v14.1)) : (Option Bool)) fun v15 => (Option.bind ((if v15 = true then (Option.bind (getI v13.1 0) fun v16 => (some ((eqZ v16.1 0), ()))) else (some (false, ()))) : (Option (Bool × Unit))) fun v17 => (some (v17.1, ())))) | Sum.inr v18 => none) | Out.ret v21 => (some v21)))
def H_spec_StepsOk : Hd := ⟨[.sl 170 (.st [.int .i64, .int .i64])], [], none, .p, .bool, .p, []⟩
def T_spec_StepsOk : FSig := ⟨H_spec_StepsOk.ps, H_spec_StepsOk.cs, H_spec_StepsOk.io, H_spec_StepsOk.im, H_spec_StepsOk.R, H_spec_StepsOk.m, spec_StepsOk⟩
theorem E_spec_StepsOk : fnOf tys [(70, T_spec_l01In)] Tryz.f154 H_spec_StepsOk = T_spec_StepsOk := by kernel_rfl
theorem K_spec_StepsOk : SigOk Tryz.prog 154 T_spec_StepsOk := (congrArg (SigOk Tryz.prog 154) E_spec_StepsOk).mp (fnOf_ok rfl tysOk ⟨K_spec_l01In, trivial⟩ Tryz.func154 (by decide) rfl (fun _ h => by cases h) (nilEq_of (by kernel_rfl)))
def spec_ResourceOk_L0 : (Int × (Int × ((List Int) × (Int × (Int × ((List (List Int)) × (D_Resource × Unit))))))) → Option (Out (Int × (Int × ((List Int) × (Int × (Int × ((List (List Int)) × (D_Resource × Unit))))))) ((Bool × (Int × (Int × ((List Int) × (Int × (Int × ((List (List Int)) × (D_Resource × Unit)))))))) ⊕ Empty) (Bool × Unit)) :=
  (fun v2 => (if (ltZ v2.1 v2.2.1) = true then (Option.bind (getI v2.2.2.1 v2.1) fun v3 => (Option.bind ((Option.bind (spec_l01In (v3, (0, (12, ()))) ()) fun v4 => (some v4.1)) : (Option Bool)) fun v5 => (if (notB v5) = true then (some (Out.ret (false, ()))) else (some (Out.norm ((addZ .i64 v2.1 1), (v2.2.1, (v2.2.2.1, (v2.2.2.2.1, (v2.2.2.2.2.1, (v2.2.2.2.2.2.1, (v2.2.2.2.2.2.2.1, ())))))))))))) else (some (Out.exit (Sum.inl ((ltZ v2.1 v2.2.1), (v2.1, (v2.2.1, (v2.2.2.1, (v2.2.2.2.1, (v2.2.2.2.2.1, (v2.2.2.2.2.2.1, (v2.2.2.2.2.2.2.1, ())))))))))))))
def spec_ResourceOk_L1 : (Int × (Int × ((List (List Int)) × (D_Resource × Unit)))) → Option (Out (Int × (Int × ((List (List Int)) × (D_Resource × Unit)))) ((Bool × (Int × (Int × ((List (List Int)) × (D_Resource × Unit))))) ⊕ Empty) (Bool × Unit)) :=
  (fun v0 => (if (ltZ v0.1 v0.2.1) = true then (Option.bind (getI v0.2.2.1 v0.1) fun v1 => (if (notB (eqZ (lenI v1) 4)) = true then (some (Out.ret (false, ()))) else (Option.bind (loopN (A := (Int × (Int × ((List Int) × (Int × (Int × ((List (List Int)) × (D_Resource × Unit)))))))) big spec_ResourceOk_L0 (0, ((lenI v1), (v1, (v0.1, (v0.2.1, (v0.2.2.1, (v0.2.2.2.1, ())))))))) fun v6 => (match v6 with | Out.norm v7 => none | Out.exit v8 => (match ((match v8 with | Sum.inl v13 => (Sum.inl (v13.2.2.2.2.1, (v13.2.2.2.2.2.1, (v13.2.2.2.2.2.2.1, (v13.2.2.2.2.2.2.2.1, ()))))) | Sum.inr v14 => (Empty.elim v14)) : ((Int × (Int × ((List (List Int)) × (D_Resource × Unit)))) ⊕ Empty)) with | Sum.inl v9 => (some (Out.norm ((addZ .i64 v9.1 1), (v9.2.1, (v9.2.2.1, (v9.2.2.2.1, ())))))) | Sum.inr v10 => (match ((Empty.elim v10) : ((Int × (Int × ((List (List Int)) × (D_Resource × Unit)))) ⊕ Empty)) with | Sum.inl v11 => (some (Out.norm ((addZ .i64 v11.1 1), (v11.2.1, (v11.2.2.1, (v11.2.2.2.1, ())))))) | Sum.inr v12 => (some (Out.exit (Sum.inr (Empty.elim v12)))))) | Out.ret v15 => (some (Out.ret v15)))))) else (some (Out.exit (Sum.inl ((ltZ v0.1 v0.2.1), (v0.1, (v0.2.1, (v0.2.2.1, (v0.2.2.2.1, ()))))))))))
def spec_ResourceOk (x : (D_Resource × Unit)) (c : Unit) : (Option (Bool × Unit)) :=
  (Option.bind (loopN (A := (Int × (Int × ((List (List Int)) × (D_Resource × Unit))))) big spec_ResourceOk_L1 (0, ((lenI x.1.2.1), (x.1.2.1, (x.1, ()))))) fun v16 => (match v16 with | Out.norm v17 => none | Out.exit v18 => (match ((match v18 with | Sum.inl v25 => (Sum.inl (v25.2.2.2.2.1, ())) | Sum.inr v26 => (Empty.elim v26)) : ((D_Resource × Unit) ⊕ Empty)) with | Sum.inl v19 => (Option.bind ((Option.bind (spec_StepsOk (v19.1.1, ()) ()) fun v20 => (some v20.1)) : (Option Bool)) fun v21 => (Option.bind ((if v21 = true then (Option.bind ((if (eqZ (lenI v19.1.2.1) 0) = true then (some (true, ())) else (some ((eqZ (lenI v19.1.2.1) 4), ()))) : (Option (Bool × Unit))) fun v22 => (some (v22.1, ()))) else (some (false, ()))) : (Option (Bool × Unit))) fun v23 => (some (v23.1, ())))) | Sum.inr v24 => none) | Out.ret v27 => (some v27)))
def H_spec_ResourceOk : Hd := ⟨[.st [.sl 170 (.st [.int .i64, .int .i64]), .sl 25 (.sl 3 (.int .i64))]], [], none, .p, .bool, .p, []⟩
def T_spec_ResourceOk : FSig := ⟨H_spec_ResourceOk.ps, H_spec_ResourceOk.cs, H_spec_ResourceOk.io, H_spec_ResourceOk.im, H_spec_ResourceOk.R, H_spec_ResourceOk.m, spec_ResourceOk⟩
theorem E_spec_ResourceOk : fnOf tys [(70, T_spec_l01In), (154, T_spec_StepsOk)] Tryz.f124 H_spec_ResourceOk = T_spec_ResourceOk := by kernel_rfl
theorem K_spec_ResourceOk : SigOk Tryz.prog 124 T_spec_ResourceOk := (congrArg (SigOk Tryz.prog 124) E_spec_ResourceOk).mp (fnOf_ok rfl tysOk ⟨K_spec_l01In, K_spec_StepsOk, trivial⟩ Tryz.func124 (by decide) rfl (fun _ h => by cases h) (nilEq_of (by kernel_rfl)))
def spec_ProjectOk_L0 : (Int × (Int × ((List D_Activity) × (D_Project × (Int × Unit))))) → Option (Out (Int × (Int × ((List D_Activity) × (D_Project × (Int × Unit))))) ((Bool × (Int × (Int × ((List D_Activity) × (D_Project × (Int × Unit)))))) ⊕ Empty) (Bool × Unit)) :=
  (fun v8 => (if (ltZ v8.1 v8.2.1) = true then (Option.bind (getI v8.2.2.1 v8.1) fun v9 => (Option.bind ((Option.bind (spec_ActivityOk (v9, ((lenI v8.2.2.2.1.2.2.2.1), ((lenI v8.2.2.2.1.2.2.2.2.1), ()))) ()) fun v10 => (some v10.1)) : (Option Bool)) fun v11 => (Option.bind ((if (notB v11) = true then (some (true, (v8.1, (v8.2.1, (v8.2.2.1, (v8.2.2.2.1, (v8.2.2.2.2.1, ()))))))) else (Option.bind ((Option.bind (spec_ActivityIndex (v8.2.2.2.1, (v9.1, ())) ()) fun v12 => (some v12.1)) : (Option Int)) fun v13 => (some ((notB (eqZ v13 v8.1)), (v8.1, (v8.2.1, (v8.2.2.1, (v8.2.2.2.1, (v8.2.2.2.2.1, ()))))))))) : (Option (Bool × (Int × (Int × ((List D_Activity) × (D_Project × (Int × Unit)))))))) fun v14 => (if v14.1 = true then (some (Out.ret (false, ()))) else (some (Out.norm ((addZ .i64 v14.2.1 1), (v14.2.2.1, (v14.2.2.2.1, (v14.2.2.2.2.1, (v14.2.2.2.2.2.1, ()))))))))))) else (some (Out.exit (Sum.inl ((ltZ v8.1 v8.2.1), (v8.1, (v8.2.1, (v8.2.2.1, (v8.2.2.2.1, (v8.2.2.2.2.1, ())))))))))))
def spec_ProjectOk_L1 : (Int × (Int × ((List D_Resource) × (D_Project × (Int × Unit))))) → Option (Out (Int × (Int × ((List D_Resource) × (D_Project × (Int × Unit))))) ((Bool × (Int × (Int × ((List D_Resource) × (D_Project × (Int × Unit)))))) ⊕ Empty) (Bool × Unit)) :=
  (fun v19 => (if (ltZ v19.1 v19.2.1) = true then (Option.bind (getI v19.2.2.1 v19.1) fun v20 => (Option.bind ((Option.bind (spec_ResourceOk (v20, ()) ()) fun v21 => (some v21.1)) : (Option Bool)) fun v22 => (if (notB v22) = true then (some (Out.ret (false, ()))) else (some (Out.norm ((addZ .i64 v19.1 1), (v19.2.1, (v19.2.2.1, (v19.2.2.2.1, (v19.2.2.2.2.1, ())))))))))) else (some (Out.exit (Sum.inl ((ltZ v19.1 v19.2.1), (v19.1, (v19.2.1, (v19.2.2.1, (v19.2.2.2.1, (v19.2.2.2.2.1, ())))))))))))
def spec_ProjectOk_L2 : (Int × (Int × ((List Int) × (D_Project × (Int × Unit))))) → Option (Out (Int × (Int × ((List Int) × (D_Project × (Int × Unit))))) ((Bool × (Int × (Int × ((List Int) × (D_Project × (Int × Unit)))))) ⊕ Empty) (Bool × Unit)) :=
  (fun v27 => (if (ltZ v27.1 v27.2.1) = true then (Option.bind (getI v27.2.2.1 v27.1) fun v28 => (Option.bind ((Option.bind (spec_l01In (v28, (0, (100, ()))) ()) fun v29 => (some v29.1)) : (Option Bool)) fun v30 => (if (notB v30) = true then (some (Out.ret (false, ()))) else (some (Out.norm ((addZ .i64 v27.1 1), (v27.2.1, (v27.2.2.1, (v27.2.2.2.1, (v27.2.2.2.2.1, ())))))))))) else (some (Out.exit (Sum.inl ((ltZ v27.1 v27.2.1), (v27.1, (v27.2.1, (v27.2.2.1, (v27.2.2.2.1, (v27.2.2.2.2.1, ())))))))))))
def spec_ProjectOk_L3 : (Int × (Int × ((List D_Link) × (Int × Unit)))) → Option (Out (Int × (Int × ((List D_Link) × (Int × Unit)))) ((Bool × (Int × (Int × ((List D_Link) × (Int × Unit))))) ⊕ Empty) (Bool × Unit)) :=
  (fun v35 => (if (ltZ v35.1 v35.2.1) = true then (Option.bind (getI v35.2.2.1 v35.1) fun v36 => (Option.bind ((Option.bind (spec_l01In (v36.1, (0, ((subZ .i64 v35.2.2.2.1 1), ()))) ()) fun v37 => (some v37.1)) : (Option Bool)) fun v38 => (Option.bind ((if (notB v38) = true then (some (true, (v35.1, (v35.2.1, (v35.2.2.1, (v35.2.2.2.1, ())))))) else (Option.bind ((Option.bind (spec_l01In (v36.2.1, (0, ((subZ .i64 v35.2.2.2.1 1), ()))) ()) fun v39 => (some v39.1)) : (Option Bool)) fun v40 => (Option.bind ((if (notB v40) = true then (some (true, (v35.1, (v35.2.1, (v35.2.2.1, (v35.2.2.2.1, ())))))) else (Option.bind ((if (eqZ v36.1 v36.2.1) = true then (some (true, (v35.1, (v35.2.1, (v35.2.2.1, (v35.2.2.2.1, ())))))) else (Option.bind ((Option.bind (spec_l01In (v36.2.2.2.1, ((-60), (60, ()))) ()) fun v41 => (some v41.1)) : (Option Bool)) fun v42 => (some ((notB v42), (v35.1, (v35.2.1, (v35.2.2.1, (v35.2.2.2.1, ())))))))) : (Option (Bool × (Int × (Int × ((List D_Link) × (Int × Unit))))))) fun v43 => (some (v43.1, (v43.2.1, (v43.2.2.1, (v43.2.2.2.1, (v43.2.2.2.2.1, ())))))))) : (Option (Bool × (Int × (Int × ((List D_Link) × (Int × Unit))))))) fun v44 => (some (v44.1, (v44.2.1, (v44.2.2.1, (v44.2.2.2.1, (v44.2.2.2.2.1, ()))))))))) : (Option (Bool × (Int × (Int × ((List D_Link) × (Int × Unit))))))) fun v45 => (if v45.1 = true then (some (Out.ret (false, ()))) else (some (Out.norm ((addZ .i64 v45.2.1 1), (v45.2.2.1, (v45.2.2.2.1, (v45.2.2.2.2.1, ())))))))))) else (some (Out.exit (Sum.inl ((ltZ v35.1 v35.2.1), (v35.1, (v35.2.1, (v35.2.2.1, (v35.2.2.2.1, ()))))))))))
def spec_ProjectOk (x : (D_Project × Unit)) (c : Unit) : (Option (Bool × Unit)) :=
  (Option.bind ((Option.bind (spec_l01In (x.1.1, (1, (60, ()))) ()) fun v0 => (some v0.1)) : (Option Bool)) fun v1 => (Option.bind ((if (notB v1) = true then (some (true, (x.1, ((lenI x.1.2.1), ())))) else (Option.bind ((Option.bind (spec_l01In ((lenI x.1.2.1), (1, (6, ()))) ()) fun v2 => (some v2.1)) : (Option Bool)) fun v3 => (Option.bind ((if (notB v3) = true then (some (true, (x.1, ((lenI x.1.2.1), ())))) else (Option.bind ((if (ltZ 3 (lenI x.1.2.2.2.1)) = true then (some (true, (x.1, ((lenI x.1.2.1), ())))) else (Option.bind ((if (ltZ 2 (lenI x.1.2.2.2.2.1)) = true then (some (true, (x.1, ((lenI x.1.2.1), ())))) else (some ((ltZ 12 (lenI x.1.2.2.1)), (x.1, ((lenI x.1.2.1), ()))))) : (Option (Bool × (D_Project × (Int × Unit))))) fun v4 => (some (v4.1, (v4.2.1, (v4.2.2.1, ())))))) : (Option (Bool × (D_Project × (Int × Unit))))) fun v5 => (some (v5.1, (v5.2.1, (v5.2.2.1, ())))))) : (Option (Bool × (D_Project × (Int × Unit))))) fun v6 => (some (v6.1, (v6.2.1, (v6.2.2.1, ()))))))) : (Option (Bool × (D_Project × (Int × Unit))))) fun v7 => (if v7.1 = true then (some (false, ())) else (Option.bind (loopN (A := (Int × (Int × ((List D_Activity) × (D_Project × (Int × Unit)))))) big spec_ProjectOk_L0 (0, ((lenI v7.2.1.2.1), (v7.2.1.2.1, (v7.2.1, (v7.2.2.1, ())))))) fun v15 => (match v15 with | Out.norm v16 => none | Out.exit v17 => (match ((match v17 with | Sum.inl v63 => (Sum.inl (v63.2.2.2.2.1, (v63.2.2.2.2.2.1, ()))) | Sum.inr v64 => (Empty.elim v64)) : ((D_Project × (Int × Unit)) ⊕ Empty)) with | Sum.inl v18 => (Option.bind (loopN (A := (Int × (Int × ((List D_Resource) × (D_Project × (Int × Unit)))))) big spec_ProjectOk_L1 (0, ((lenI v18.1.2.2.2.1), (v18.1.2.2.2.1, (v18.1, (v18.2.1, ())))))) fun v23 => (match v23 with | Out.norm v24 => none | Out.exit v25 => (match ((match v25 with | Sum.inl v59 => (Sum.inl (v59.2.2.2.2.1, (v59.2.2.2.2.2.1, ()))) | Sum.inr v60 => (Empty.elim v60)) : ((D_Project × (Int × Unit)) ⊕ Empty)) with | Sum.inl v26 => (Option.bind (loopN (A := (Int × (Int × ((List Int) × (D_Project × (Int × Unit)))))) big spec_ProjectOk_L2 (0, ((lenI v26.1.2.2.2.2.1), (v26.1.2.2.2.2.1, (v26.1, (v26.2.1, ())))))) fun v31 => (match v31 with | Out.norm v32 => none | Out.exit v33 => (match ((match v33 with | Sum.inl v55 => (Sum.inl (v55.2.2.2.2.1, (v55.2.2.2.2.2.1, ()))) | Sum.inr v56 => (Empty.elim v56)) : ((D_Project × (Int × Unit)) ⊕ Empty)) with | Sum.inl v34 => (Option.bind (loopN (A := (Int × (Int × ((List D_Link) × (Int × Unit))))) big spec_ProjectOk_L3 (0, ((lenI v34.1.2.2.1), (v34.1.2.2.1, (v34.2.1, ()))))) fun v46 => (match v46 with | Out.norm v47 => none | Out.exit v48 => (match ((match v48 with | Sum.inl v51 => (Sum.inl ()) | Sum.inr v52 => (Empty.elim v52)) : (Unit ⊕ Empty)) with | Sum.inl v49 => (some (true, ())) | Sum.inr v50 => none) | Out.ret v53 => (some v53))) | Sum.inr v54 => none) | Out.ret v57 => (some v57))) | Sum.inr v58 => none) | Out.ret v61 => (some v61))) | Sum.inr v62 => none) | Out.ret v65 => (some v65))))))
def H_spec_ProjectOk : Hd := ⟨[.st [.int .i64, .sl 118 (.st [.str, .int .i64, .sl 159 (.st [.int .i64, .sl 3 (.int .i64), .sl 3 (.int .i64)])]), .sl 121 (.st [.int .i64, .int .i64, .bool, .int .i64]), .sl 126 (.st [.sl 170 (.st [.int .i64, .int .i64]), .sl 25 (.sl 3 (.int .i64))]), .sl 3 (.int .i64)]], [], none, .p, .bool, .p, []⟩
def T_spec_ProjectOk : FSig := ⟨H_spec_ProjectOk.ps, H_spec_ProjectOk.cs, H_spec_ProjectOk.io, H_spec_ProjectOk.im, H_spec_ProjectOk.R, H_spec_ProjectOk.m, spec_ProjectOk⟩
theorem E_spec_ProjectOk : fnOf tys [(70, T_spec_l01In), (122, T_spec_ActivityOk), (123, T_spec_ActivityIndex), (124, T_spec_ResourceOk)] Tryz.f69 H_spec_ProjectOk = T_spec_ProjectOk := by kernel_rfl
theorem K_spec_ProjectOk : SigOk Tryz.prog 69 T_spec_ProjectOk := (congrArg (SigOk Tryz.prog 69) E_spec_ProjectOk).mp (fnOf_ok rfl tysOk ⟨K_spec_l01In, K_spec_ActivityOk, K_spec_ActivityIndex, K_spec_ResourceOk, trivial⟩ Tryz.func69 (by decide) rfl (fun _ h => by cases h) (nilEq_of (by kernel_rfl)))
def spec_l32Starts_L0 : (Int × ((List Int) × (Int × (Int × ((List (List Int)) × ((List (List Int)) × D_Step)))))) → Option (Out (Int × ((List Int) × (Int × (Int × ((List (List Int)) × ((List (List Int)) × D_Step)))))) ((Bool × (Int × ((List Int) × (Int × (Int × ((List (List Int)) × ((List (List Int)) × D_Step))))))) ⊕ Empty) ((List (List Int)) × Unit)) :=
  (fun v3 => (if (leZ v3.1 v3.2.2.2.2.2.2.2.1) = true then (Option.bind (addI [] v3.2.1) fun v4 => (Option.bind (addI v4 (v3.1 :: [])) fun v5 => (Option.bind (addI v3.2.2.2.2.2.1 (v5 :: [])) fun v6 => (some (Out.norm ((addZ .i64 v3.1 1), (v3.2.1, (v3.2.2.1, (v3.2.2.2.1, (v3.2.2.2.2.1, (v6, (v3.2.2.2.2.2.2.1, (v3.2.2.2.2.2.2.2.1, ()))))))))))))) else (some (Out.exit (Sum.inl ((leZ v3.1 v3.2.2.2.2.2.2.2.1), (v3.1, (v3.2.1, (v3.2.2.1, (v3.2.2.2.1, (v3.2.2.2.2.1, (v3.2.2.2.2.2.1, (v3.2.2.2.2.2.2.1, (v3.2.2.2.2.2.2.2.1, ()))))))))))))))
def spec_l32Starts_L1 : (Int × (Int × ((List (List Int)) × ((List (List Int)) × D_Step)))) → Option (Out (Int × (Int × ((List (List Int)) × ((List (List Int)) × D_Step)))) ((Bool × (Int × (Int × ((List (List Int)) × ((List (List Int)) × D_Step))))) ⊕ Empty) ((List (List Int)) × Unit)) :=
  (fun v1 => (if (ltZ v1.1 v1.2.1) = true then (Option.bind (getI v1.2.2.1 v1.1) fun v2 => (Option.bind (loopN (A := (Int × ((List Int) × (Int × (Int × ((List (List Int)) × ((List (List Int)) × D_Step))))))) big spec_l32Starts_L0 (0, (v2, (v1.1, (v1.2.1, (v1.2.2.1, (v1.2.2.2.1, (v1.2.2.2.2.1, (v1.2.2.2.2.2.1, ()))))))))) fun v7 => (match v7 with | Out.norm v8 => none | Out.exit v9 => (match ((match v9 with | Sum.inl v14 => (Sum.inl (v14.2.2.2.1, (v14.2.2.2.2.1, (v14.2.2.2.2.2.1, (v14.2.2.2.2.2.2.1, (v14.2.2.2.2.2.2.2.1, (v14.2.2.2.2.2.2.2.2.1, ()))))))) | Sum.inr v15 => (Empty.elim v15)) : ((Int × (Int × ((List (List Int)) × ((List (List Int)) × D_Step)))) ⊕ Empty)) with | Sum.inl v10 => (some (Out.norm ((addZ .i64 v10.1 1), (v10.2.1, (v10.2.2.1, (v10.2.2.2.1, (v10.2.2.2.2.1, (v10.2.2.2.2.2.1, ())))))))) | Sum.inr v11 => (match ((Empty.elim v11) : ((Int × (Int × ((List (List Int)) × ((List (List Int)) × D_Step)))) ⊕ Empty)) with | Sum.inl v12 => (some (Out.norm ((addZ .i64 v12.1 1), (v12.2.1, (v12.2.2.1, (v12.2.2.2.1, (v12.2.2.2.2.1, (v12.2.2.2.2.2.1, ())))))))) | Sum.inr v13 => (some (Out.exit (Sum.inr (Empty.elim v13)))))) | Out.ret v16 => (some (Out.ret v16))))) else (some (Out.exit (Sum.inl ((ltZ v1.1 v1.2.1), (v1.1, (v1.2.1, (v1.2.2.1, (v1.2.2.2.1, (v1.2.2.2.2.1, (v1.2.2.2.2.2.1, ()))))))))))))
def spec_l32Starts_L2 : (Int × (Int × ((List (List Int)) × Unit))) → Option (Out (Int × (Int × ((List (List Int)) × Unit))) ((Bool × (Int × (Int × ((List (List Int)) × Unit)))) ⊕ Empty) ((List (List Int)) × Unit)) :=
  (fun v0 => (if (ltZ 0 v0.1) = true then (Option.bind (loopN (A := (Int × (Int × ((List (List Int)) × ((List (List Int)) × D_Step))))) big spec_l32Starts_L1 (0, ((lenI v0.2.2.1), (v0.2.2.1, ([], (v0.1, (v0.2.1, ()))))))) fun v17 => (match v17 with | Out.norm v18 => none | Out.exit v19 => (match ((match v19 with | Sum.inl v24 => (Sum.inl (v24.2.2.2.2.1, (v24.2.2.2.2.2.1, (v24.2.2.2.2.2.2.1, ())))) | Sum.inr v25 => (Empty.elim v25)) : (((List (List Int)) × D_Step) ⊕ Empty)) with | Sum.inl v20 => (some (Out.norm ((subZ .i64 v20.2.1 1), (v20.2.2.1, (v20.1, ()))))) | Sum.inr v21 => (match ((Empty.elim (Empty.elim v21)) : ((Int × (Int × ((List (List Int)) × Unit))) ⊕ Empty)) with | Sum.inl v22 => (some (Out.norm ((subZ .i64 v22.1 1), (v22.2.1, (v22.2.2.1, ()))))) | Sum.inr v23 => (some (Out.exit (Sum.inr (Empty.elim v23)))))) | Out.ret v26 => (some (Out.ret v26)))) else (some (Out.exit (Sum.inl ((ltZ 0 v0.1), (v0.1, (v0.2.1, (v0.2.2.1, ())))))))))
def spec_l32Starts (x : D_Step) (c : Unit) : (Option ((List (List Int)) × Unit)) :=
  (Option.bind (loopN (A := (Int × (Int × ((List (List Int)) × Unit)))) big spec_l32Starts_L2 (x.1, (x.2.1, (([] :: []), ())))) fun v27 => (match v27 with | Out.norm v28 => none | Out.exit v29 => (match ((match v29 with | Sum.inl v32 => (Sum.inl (v32.2.2.2.1, ())) | Sum.inr v33 => (Empty.elim v33)) : (((List (List Int)) × Unit) ⊕ Empty)) with | Sum.inl v30 => (some (v30.1, ())) | Sum.inr v31 => none) | Out.ret v34 => (some v34)))
def H_spec_l32Starts : Hd := ⟨[.int .i64, .int .i64], [], none, .p, .sl 25 (.sl 3 (.int .i64)), .p, [(3, .p), (5, .p)]⟩
def T_spec_l32Starts : FSig := ⟨H_spec_l32Starts.ps, H_spec_l32Starts.cs, H_spec_l32Starts.io, H_spec_l32Starts.im, H_spec_l32Starts.R, H_spec_l32Starts.m, spec_l32Starts⟩
theorem E_spec_l32Starts : fnOf tys [] Tryz.f71 H_spec_l32Starts = T_spec_l32Starts := by kernel_rfl
theorem K_spec_l32Starts : SigOk Tryz.prog 71 T_spec_l32Starts := (congrArg (SigOk Tryz.prog 71) E_spec_l32Starts).mp (fnOf_ok rfl tysOk trivial Tryz.func71 (by decide) rfl (fun _ h => by cases h) (nilEq_of (by kernel_rfl)))
def spec_AllModeLists_L0 : (Int × (Int × ((List Int) × (Int × (Int × ((List (List Int)) × (D_Activity × ((List (List Int)) × (Int × (Int × ((List D_Activity) × Unit))))))))))) → Option (Out (Int × (Int × ((List Int) × (Int × (Int × ((List (List Int)) × (D_Activity × ((List (List Int)) × (Int × (Int × ((List D_Activity) × Unit))))))))))) ((Bool × (Int × (Int × ((List Int) × (Int × (Int × ((List (List Int)) × (D_Activity × ((List (List Int)) × (Int × (Int × ((List D_Activity) × Unit)))))))))))) ⊕ Empty) ((List (List Int)) × Unit)) :=
  (fun v6 => (if (ltZ v6.1 v6.2.1) = true then (Option.bind (addI [] v6.2.2.1) fun v7 => (Option.bind (addI v7 (v6.1 :: [])) fun v8 => (Option.bind (addI v6.2.2.2.2.2.2.2.1 (v8 :: [])) fun v9 => (some (Out.norm ((addZ .i64 v6.1 1), (v6.2.1, (v6.2.2.1, (v6.2.2.2.1, (v6.2.2.2.2.1, (v6.2.2.2.2.2.1, (v6.2.2.2.2.2.2.1, (v9, (v6.2.2.2.2.2.2.2.2.1, (v6.2.2.2.2.2.2.2.2.2.1, (v6.2.2.2.2.2.2.2.2.2.2.1, ())))))))))))))))) else (some (Out.exit (Sum.inl ((ltZ v6.1 v6.2.1), (v6.1, (v6.2.1, (v6.2.2.1, (v6.2.2.2.1, (v6.2.2.2.2.1, (v6.2.2.2.2.2.1, (v6.2.2.2.2.2.2.1, (v6.2.2.2.2.2.2.2.1, (v6.2.2.2.2.2.2.2.2.1, (v6.2.2.2.2.2.2.2.2.2.1, (v6.2.2.2.2.2.2.2.2.2.2.1, ())))))))))))))))))
def spec_AllModeLists_L1 : (Int × (Int × ((List (List Int)) × (D_Activity × ((List (List Int)) × (Int × (Int × ((List D_Activity) × Unit)))))))) → Option (Out (Int × (Int × ((List (List Int)) × (D_Activity × ((List (List Int)) × (Int × (Int × ((List D_Activity) × Unit)))))))) ((Bool × (Int × (Int × ((List (List Int)) × (D_Activity × ((List (List Int)) × (Int × (Int × ((List D_Activity) × Unit))))))))) ⊕ Empty) ((List (List Int)) × Unit)) :=
  (fun v4 => (if (ltZ v4.1 v4.2.1) = true then (Option.bind (getI v4.2.2.1 v4.1) fun v5 => (Option.bind (loopN (A := (Int × (Int × ((List Int) × (Int × (Int × ((List (List Int)) × (D_Activity × ((List (List Int)) × (Int × (Int × ((List D_Activity) × Unit)))))))))))) big spec_AllModeLists_L0 (0, ((lenI v4.2.2.2.1.2.2.1), (v5, (v4.1, (v4.2.1, (v4.2.2.1, (v4.2.2.2.1, (v4.2.2.2.2.1, (v4.2.2.2.2.2.1, (v4.2.2.2.2.2.2.1, (v4.2.2.2.2.2.2.2.1, ())))))))))))) fun v10 => (match v10 with | Out.norm v11 => none | Out.exit v12 => (match ((match v12 with | Sum.inl v17 => (Sum.inl (v17.2.2.2.2.1, (v17.2.2.2.2.2.1, (v17.2.2.2.2.2.2.1, (v17.2.2.2.2.2.2.2.1, (v17.2.2.2.2.2.2.2.2.1, (v17.2.2.2.2.2.2.2.2.2.1, (v17.2.2.2.2.2.2.2.2.2.2.1, (v17.2.2.2.2.2.2.2.2.2.2.2.1, ()))))))))) | Sum.inr v18 => (Empty.elim v18)) : ((Int × (Int × ((List (List Int)) × (D_Activity × ((List (List Int)) × (Int × (Int × ((List D_Activity) × Unit)))))))) ⊕ Empty)) with | Sum.inl v13 => (some (Out.norm ((addZ .i64 v13.1 1), (v13.2.1, (v13.2.2.1, (v13.2.2.2.1, (v13.2.2.2.2.1, (v13.2.2.2.2.2.1, (v13.2.2.2.2.2.2.1, (v13.2.2.2.2.2.2.2.1, ())))))))))) | Sum.inr v14 => (match ((Empty.elim v14) : ((Int × (Int × ((List (List Int)) × (D_Activity × ((List (List Int)) × (Int × (Int × ((List D_Activity) × Unit)))))))) ⊕ Empty)) with | Sum.inl v15 => (some (Out.norm ((addZ .i64 v15.1 1), (v15.2.1, (v15.2.2.1, (v15.2.2.2.1, (v15.2.2.2.2.1, (v15.2.2.2.2.2.1, (v15.2.2.2.2.2.2.1, (v15.2.2.2.2.2.2.2.1, ())))))))))) | Sum.inr v16 => (some (Out.exit (Sum.inr (Empty.elim v16)))))) | Out.ret v19 => (some (Out.ret v19))))) else (some (Out.exit (Sum.inl ((ltZ v4.1 v4.2.1), (v4.1, (v4.2.1, (v4.2.2.1, (v4.2.2.2.1, (v4.2.2.2.2.1, (v4.2.2.2.2.2.1, (v4.2.2.2.2.2.2.1, (v4.2.2.2.2.2.2.2.1, ()))))))))))))))
def spec_AllModeLists_L2 : (Int × (Int × ((List D_Activity) × ((List (List Int)) × Unit)))) → Option (Out (Int × (Int × ((List D_Activity) × ((List (List Int)) × Unit)))) ((Bool × (Int × (Int × ((List D_Activity) × ((List (List Int)) × Unit))))) ⊕ Empty) ((List (List Int)) × Unit)) :=
  (fun v2 => (if (ltZ v2.1 v2.2.1) = true then (Option.bind (getI v2.2.2.1 v2.1) fun v3 => (Option.bind (loopN (A := (Int × (Int × ((List (List Int)) × (D_Activity × ((List (List Int)) × (Int × (Int × ((List D_Activity) × Unit))))))))) big spec_AllModeLists_L1 (0, ((lenI v2.2.2.2.1), (v2.2.2.2.1, (v3, ([], (v2.1, (v2.2.1, (v2.2.2.1, ()))))))))) fun v20 => (match v20 with | Out.norm v21 => none | Out.exit v22 => (match ((match v22 with | Sum.inl v27 => (Sum.inl (v27.2.2.2.2.2.1, (v27.2.2.2.2.2.2.1, (v27.2.2.2.2.2.2.2.1, (v27.2.2.2.2.2.2.2.2.1, ()))))) | Sum.inr v28 => (Empty.elim v28)) : (((List (List Int)) × (Int × (Int × ((List D_Activity) × Unit)))) ⊕ Empty)) with | Sum.inl v23 => (some (Out.norm ((addZ .i64 v23.2.1 1), (v23.2.2.1, (v23.2.2.2.1, (v23.1, ())))))) | Sum.inr v24 => (match ((Empty.elim (Empty.elim v24)) : ((Int × (Int × ((List D_Activity) × ((List (List Int)) × Unit)))) ⊕ Empty)) with | Sum.inl v25 => (some (Out.norm ((addZ .i64 v25.1 1), (v25.2.1, (v25.2.2.1, (v25.2.2.2.1, ())))))) | Sum.inr v26 => (some (Out.exit (Sum.inr (Empty.elim v26)))))) | Out.ret v29 => (some (Out.ret v29))))) else (some (Out.exit (Sum.inl ((ltZ v2.1 v2.2.1), (v2.1, (v2.2.1, (v2.2.2.1, (v2.2.2.2.1, ()))))))))))
def spec_AllModeLists (x : (D_Project × Unit)) (c : Unit) : (Option ((List (List Int)) × Unit)) :=
  (Option.bind ((Option.bind (spec_ProjectOk (x.1, ()) ()) fun v0 => (some v0.1)) : (Option Bool)) fun v1 => (if (notB v1) = true then (some ([], ())) else (Option.bind (loopN (A := (Int × (Int × ((List D_Activity) × ((List (List Int)) × Unit))))) big spec_AllModeLists_L2 (0, ((lenI x.1.2.1), (x.1.2.1, (([] :: []), ()))))) fun v30 => (match v30 with | Out.norm v31 => none | Out.exit v32 => (match ((match v32 with | Sum.inl v35 => (Sum.inl (v35.2.2.2.2.1, ())) | Sum.inr v36 => (Empty.elim v36)) : (((List (List Int)) × Unit) ⊕ Empty)) with | Sum.inl v33 => (some (v33.1, ())) | Sum.inr v34 => none) | Out.ret v37 => (some v37)))))
def H_spec_AllModeLists : Hd := ⟨[.st [.int .i64, .sl 118 (.st [.str, .int .i64, .sl 159 (.st [.int .i64, .sl 3 (.int .i64), .sl 3 (.int .i64)])]), .sl 121 (.st [.int .i64, .int .i64, .bool, .int .i64]), .sl 126 (.st [.sl 170 (.st [.int .i64, .int .i64]), .sl 25 (.sl 3 (.int .i64))]), .sl 3 (.int .i64)]], [], none, .p, .sl 25 (.sl 3 (.int .i64)), .p, [(2, .p), (3, .p)]⟩
def T_spec_AllModeLists : FSig := ⟨H_spec_AllModeLists.ps, H_spec_AllModeLists.cs, H_spec_AllModeLists.io, H_spec_AllModeLists.im, H_spec_AllModeLists.R, H_spec_AllModeLists.m, spec_AllModeLists⟩
theorem E_spec_AllModeLists : fnOf tys [(69, T_spec_ProjectOk)] Tryz.f72 H_spec_AllModeLists = T_spec_AllModeLists := by kernel_rfl
theorem K_spec_AllModeLists : SigOk Tryz.prog 72 T_spec_AllModeLists := (congrArg (SigOk Tryz.prog 72) E_spec_AllModeLists).mp (fnOf_ok rfl tysOk ⟨K_spec_ProjectOk, trivial⟩ Tryz.func72 (by decide) rfl (fun _ h => by cases h) (nilEq_of (by kernel_rfl)))
def spec_l09Mode (x : (D_Project × (D_Schedule × (Int × Unit)))) (c : Unit) : (Option (D_Mode × Unit)) :=
  (Option.bind (getI x.1.2.1 x.2.2.1) fun v0 => (Option.bind (getI x.2.1.2.1 x.2.2.1) fun v1 => (Option.bind (getI v0.2.2.1 v1) fun v2 => (some (v2, ())))))
def H_spec_l09Mode : Hd := ⟨[.st [.int .i64, .sl 118 (.st [.str, .int .i64, .sl 159 (.st [.int .i64, .sl 3 (.int .i64), .sl 3 (.int .i64)])]), .sl 121 (.st [.int .i64, .int .i64, .bool, .int .i64]), .sl 126 (.st [.sl 170 (.st [.int .i64, .int .i64]), .sl 25 (.sl 3 (.int .i64))]), .sl 3 (.int .i64)], .st [.sl 3 (.int .i64), .sl 3 (.int .i64)], .int .i64], [], none, .p, .st [.int .i64, .sl 3 (.int .i64), .sl 3 (.int .i64)], .p, []⟩
def T_spec_l09Mode : FSig := ⟨H_spec_l09Mode.ps, H_spec_l09Mode.cs, H_spec_l09Mode.io, H_spec_l09Mode.im, H_spec_l09Mode.R, H_spec_l09Mode.m, spec_l09Mode⟩
theorem E_spec_l09Mode : fnOf tys [] Tryz.f127 H_spec_l09Mode = T_spec_l09Mode := by kernel_rfl
theorem K_spec_l09Mode : SigOk Tryz.prog 127 T_spec_l09Mode := (congrArg (SigOk Tryz.prog 127) E_spec_l09Mode).mp (fnOf_ok rfl tysOk trivial Tryz.func127 (by decide) rfl (fun _ h => by cases h) (nilEq_of (by kernel_rfl)))
def spec_l09End (x : (D_Project × (D_Schedule × (Int × Unit)))) (c : Unit) : (Option (Int × Unit)) :=
  (Option.bind (getI x.2.1.1 x.2.2.1) fun v0 => (Option.bind ((Option.bind (spec_l09Mode (x.1, (x.2.1, (x.2.2.1, ()))) ()) fun v1 => (some v1.1)) : (Option D_Mode)) fun v2 => (some ((addZ .i64 v0 v2.1), ()))))
def H_spec_l09End : Hd := ⟨[.st [.int .i64, .sl 118 (.st [.str, .int .i64, .sl 159 (.st [.int .i64, .sl 3 (.int .i64), .sl 3 (.int .i64)])]), .sl 121 (.st [.int .i64, .int .i64, .bool, .int .i64]), .sl 126 (.st [.sl 170 (.st [.int .i64, .int .i64]), .sl 25 (.sl 3 (.int .i64))]), .sl 3 (.int .i64)], .st [.sl 3 (.int .i64), .sl 3 (.int .i64)], .int .i64], [], none, .p, .int .i64, .p, []⟩
def T_spec_l09End : FSig := ⟨H_spec_l09End.ps, H_spec_l09End.cs, H_spec_l09End.io, H_spec_l09End.im, H_spec_l09End.R, H_spec_l09End.m, spec_l09End⟩
theorem E_spec_l09End : fnOf tys [(127, T_spec_l09Mode)] Tryz.f78 H_spec_l09End = T_spec_l09End := by kernel_rfl
theorem K_spec_l09End : SigOk Tryz.prog 78 T_spec_l09End := (congrArg (SigOk Tryz.prog 78) E_spec_l09End).mp (fnOf_ok rfl tysOk ⟨K_spec_l09Mode, trivial⟩ Tryz.func78 (by decide) rfl (fun _ h => by cases h) (nilEq_of (by kernel_rfl)))
def spec_l09Use_L0 : (Int × (Int × (Int × (D_Project × (D_Schedule × D_Step))))) → Option (Out (Int × (Int × (Int × (D_Project × (D_Schedule × D_Step))))) ((Bool × (Int × (Int × (Int × (D_Project × (D_Schedule × D_Step)))))) ⊕ Empty) (Int × Unit)) :=
  (fun v0 => (if (ltZ v0.1 v0.2.1) = true then (Option.bind (getI v0.2.2.2.2.1.1 v0.1) fun v1 => (Option.bind ((if (leZ v1 v0.2.2.1) = true then (Option.bind ((Option.bind (spec_l09End (v0.2.2.2.1, (v0.2.2.2.2.1, (v0.1, ()))) ()) fun v2 => (some v2.1)) : (Option Int)) fun v3 => (some ((ltZ v0.2.2.1 v3), (v0.1, (v0.1, (v0.2.1, (v0.2.2.1, (v0.2.2.2.1, (v0.2.2.2.2.1, (v0.2.2.2.2.2.1, (v0.2.2.2.2.2.2.1, ()))))))))))) else (some (false, (v0.1, (v0.1, (v0.2.1, (v0.2.2.1, (v0.2.2.2.1, (v0.2.2.2.2.1, (v0.2.2.2.2.2.1, (v0.2.2.2.2.2.2.1, ()))))))))))) : (Option (Bool × (Int × (Int × (Int × (Int × (D_Project × (D_Schedule × D_Step))))))))) fun v4 => (Option.bind ((if v4.1 = true then (Option.bind ((Option.bind (spec_l09Mode (v4.2.2.2.2.2.1, (v4.2.2.2.2.2.2.1, (v4.2.1, ()))) ()) fun v5 => (some v5.1)) : (Option D_Mode)) fun v6 => (Option.bind (getI v6.2.1 v4.2.2.2.2.2.2.2.1) fun v7 => (some (Out.norm (v4.2.2.1, (v4.2.2.2.1, (v4.2.2.2.2.1, (v4.2.2.2.2.2.1, (v4.2.2.2.2.2.2.1, (v4.2.2.2.2.2.2.2.1, ((addZ .i64 v4.2.2.2.2.2.2.2.2.1 v7), ()))))))))))) else (some (Out.norm (v4.2.2.1, (v4.2.2.2.1, (v4.2.2.2.2.1, (v4.2.2.2.2.2.1, (v4.2.2.2.2.2.2.1, (v4.2.2.2.2.2.2.2.1, (v4.2.2.2.2.2.2.2.2.1, ())))))))))) : (Option (Out (Int × (Int × (Int × (D_Project × (D_Schedule × D_Step))))) Empty (Int × Unit)))) fun v8 => (match ((match ((match v8 with | Out.norm v17 => (Out.norm v17) | Out.exit v18 => (Out.exit v18) | Out.ret v19 => (Out.ret v19)) : (Out (Int × (Int × (Int × (D_Project × (D_Schedule × D_Step))))) Empty (Int × Unit))) with | Out.norm v14 => (Out.norm v14) | Out.exit v15 => (Out.exit v15) | Out.ret v16 => (Out.ret v16)) : (Out (Int × (Int × (Int × (D_Project × (D_Schedule × D_Step))))) Empty (Int × Unit))) with | Out.norm v9 => (some (Out.norm ((addZ .i64 v9.1 1), (v9.2.1, (v9.2.2.1, (v9.2.2.2.1, (v9.2.2.2.2.1, (v9.2.2.2.2.2.1, (v9.2.2.2.2.2.2.1, ()))))))))) | Out.exit v10 => (match ((Empty.elim v10) : ((Int × (Int × (Int × (D_Project × (D_Schedule × D_Step))))) ⊕ Empty)) with | Sum.inl v11 => (some (Out.norm ((addZ .i64 v11.1 1), (v11.2.1, (v11.2.2.1, (v11.2.2.2.1, (v11.2.2.2.2.1, (v11.2.2.2.2.2.1, (v11.2.2.2.2.2.2.1, ()))))))))) | Sum.inr v12 => (some (Out.exit (Sum.inr (Empty.elim v12))))) | Out.ret v13 => (some (Out.ret v13)))))) else (some (Out.exit (Sum.inl ((ltZ v0.1 v0.2.1), (v0.1, (v0.2.1, (v0.2.2.1, (v0.2.2.2.1, (v0.2.2.2.2.1, (v0.2.2.2.2.2.1, (v0.2.2.2.2.2.2.1, ())))))))))))))
def spec_l09Use (x : (D_Project × (D_Schedule × D_Step))) (c : Unit) : (Option (Int × Unit)) :=
  (Option.bind (loopN (A := (Int × (Int × (Int × (D_Project × (D_Schedule × D_Step)))))) big spec_l09Use_L0 (0, ((lenI x.1.2.1), (x.2.2.2.1, (x.1, (x.2.1, (x.2.2.1, (0, ())))))))) fun v20 => (match v20 with | Out.norm v21 => none | Out.exit v22 => (match ((match v22 with | Sum.inl v25 => (Sum.inl (v25.2.2.2.2.2.2.2.1, ())) | Sum.inr v26 => (Empty.elim v26)) : ((Int × Unit) ⊕ Empty)) with | Sum.inl v23 => (some (v23.1, ())) | Sum.inr v24 => none) | Out.ret v27 => (some v27)))
def H_spec_l09Use : Hd := ⟨[.st [.int .i64, .sl 118 (.st [.str, .int .i64, .sl 159 (.st [.int .i64, .sl 3 (.int .i64), .sl 3 (.int .i64)])]), .sl 121 (.st [.int .i64, .int .i64, .bool, .int .i64]), .sl 126 (.st [.sl 170 (.st [.int .i64, .int .i64]), .sl 25 (.sl 3 (.int .i64))]), .sl 3 (.int .i64)], .st [.sl 3 (.int .i64), .sl 3 (.int .i64)], .int .i64, .int .i64], [], none, .p, .int .i64, .p, []⟩
def T_spec_l09Use : FSig := ⟨H_spec_l09Use.ps, H_spec_l09Use.cs, H_spec_l09Use.io, H_spec_l09Use.im, H_spec_l09Use.R, H_spec_l09Use.m, spec_l09Use⟩
theorem E_spec_l09Use : fnOf tys [(78, T_spec_l09End), (127, T_spec_l09Mode)] Tryz.f155 H_spec_l09Use = T_spec_l09Use := by kernel_rfl
theorem K_spec_l09Use : SigOk Tryz.prog 155 T_spec_l09Use := (congrArg (SigOk Tryz.prog 155) E_spec_l09Use).mp (fnOf_ok rfl tysOk ⟨K_spec_l09End, K_spec_l09Mode, trivial⟩ Tryz.func155 (by decide) rfl (fun _ h => by cases h) (nilEq_of (by kernel_rfl)))
def spec_l03At_L0 : (Int × (Int × ((List D_Step) × D_Step))) → Option (Out (Int × (Int × ((List D_Step) × D_Step))) ((Bool × (Int × (Int × ((List D_Step) × D_Step)))) ⊕ Empty) (Int × Unit)) :=
  (fun v0 => (if (ltZ v0.1 v0.2.1) = true then (Option.bind (getI v0.2.2.1 v0.1) fun v1 => (Option.bind ((if (leZ v1.1 v0.2.2.2.1) = true then (some (Out.norm (v0.1, (v0.2.1, (v0.2.2.1, (v0.2.2.2.1, (v1.2.1, ()))))))) else (some (Out.norm (v0.1, (v0.2.1, (v0.2.2.1, (v0.2.2.2.1, (v0.2.2.2.2.1, ())))))))) : (Option (Out (Int × (Int × ((List D_Step) × D_Step))) Empty (Int × Unit)))) fun v2 => (match ((match ((match v2 with | Out.norm v11 => (Out.norm v11) | Out.exit v12 => (Out.exit v12) | Out.ret v13 => (Out.ret v13)) : (Out (Int × (Int × ((List D_Step) × D_Step))) Empty (Int × Unit))) with | Out.norm v8 => (Out.norm v8) | Out.exit v9 => (Out.exit v9) | Out.ret v10 => (Out.ret v10)) : (Out (Int × (Int × ((List D_Step) × D_Step))) Empty (Int × Unit))) with | Out.norm v3 => (some (Out.norm ((addZ .i64 v3.1 1), (v3.2.1, (v3.2.2.1, (v3.2.2.2.1, (v3.2.2.2.2.1, ()))))))) | Out.exit v4 => (match ((Empty.elim v4) : ((Int × (Int × ((List D_Step) × D_Step))) ⊕ Empty)) with | Sum.inl v5 => (some (Out.norm ((addZ .i64 v5.1 1), (v5.2.1, (v5.2.2.1, (v5.2.2.2.1, (v5.2.2.2.2.1, ()))))))) | Sum.inr v6 => (some (Out.exit (Sum.inr (Empty.elim v6))))) | Out.ret v7 => (some (Out.ret v7))))) else (some (Out.exit (Sum.inl ((ltZ v0.1 v0.2.1), (v0.1, (v0.2.1, (v0.2.2.1, (v0.2.2.2.1, (v0.2.2.2.2.1, ())))))))))))
def spec_l03At (x : ((List D_Step) × (Int × Unit))) (c : Unit) : (Option (Int × Unit)) :=
  (Option.bind (loopN (A := (Int × (Int × ((List D_Step) × D_Step)))) big spec_l03At_L0 (0, ((lenI x.1), (x.1, (x.2.1, (0, ())))))) fun v14 => (match v14 with | Out.norm v15 => none | Out.exit v16 => (match ((match v16 with | Sum.inl v19 => (Sum.inl (v19.2.2.2.2.2.1, ())) | Sum.inr v20 => (Empty.elim v20)) : ((Int × Unit) ⊕ Empty)) with | Sum.inl v17 => (some (v17.1, ())) | Sum.inr v18 => none) | Out.ret v21 => (some v21)))
def H_spec_l03At : Hd := ⟨[.sl 170 (.st [.int .i64, .int .i64]), .int .i64], [], none, .p, .int .i64, .p, []⟩
def T_spec_l03At : FSig := ⟨H_spec_l03At.ps, H_spec_l03At.cs, H_spec_l03At.io, H_spec_l03At.im, H_spec_l03At.R, H_spec_l03At.m, spec_l03At⟩
theorem E_spec_l03At : fnOf tys [] Tryz.f156 H_spec_l03At = T_spec_l03At := by kernel_rfl
theorem K_spec_l03At : SigOk Tryz.prog 156 T_spec_l03At := (congrArg (SigOk Tryz.prog 156) E_spec_l03At).mp (fnOf_ok rfl tysOk trivial Tryz.func156 (by decide) rfl (fun _ h => by cases h) (nilEq_of (by kernel_rfl)))
def spec_l03Span (x : ((List D_Step) × D_Step)) (c : Unit) : (Option (Bool × Unit)) :=
  (Option.bind ((Option.bind (spec_StepsOk (x.1, ()) ()) fun v0 => (some v0.1)) : (Option Bool)) fun v1 => (Option.bind ((if v1 = true then (Option.bind ((Option.bind (spec_l01In (x.2.1, (0, (60, ()))) ()) fun v2 => (some v2.1)) : (Option Bool)) fun v3 => (Option.bind ((if v3 = true then (Option.bind ((Option.bind (spec_l01In (x.2.2.1, (0, (60, ()))) ()) fun v4 => (some v4.1)) : (Option Bool)) fun v5 => (some (v5, ()))) else (some (false, ()))) : (Option (Bool × Unit))) fun v6 => (some (v6.1, ())))) else (some (false, ()))) : (Option (Bool × Unit))) fun v7 => (some (v7.1, ()))))
def H_spec_l03Span : Hd := ⟨[.sl 170 (.st [.int .i64, .int .i64]), .int .i64, .int .i64], [], none, .p, .bool, .p, []⟩
def T_spec_l03Span : FSig := ⟨H_spec_l03Span.ps, H_spec_l03Span.cs, H_spec_l03Span.io, H_spec_l03Span.im, H_spec_l03Span.R, H_spec_l03Span.m, spec_l03Span⟩
theorem E_spec_l03Span : fnOf tys [(70, T_spec_l01In), (154, T_spec_StepsOk)] Tryz.f179 H_spec_l03Span = T_spec_l03Span := by kernel_rfl
theorem K_spec_l03Span : SigOk Tryz.prog 179 T_spec_l03Span := (congrArg (SigOk Tryz.prog 179) E_spec_l03Span).mp (fnOf_ok rfl tysOk ⟨K_spec_l01In, K_spec_StepsOk, trivial⟩ Tryz.func179 (by decide) rfl (fun _ h => by cases h) (nilEq_of (by kernel_rfl)))
def spec_TotalCapacity_L0 : (Int × (Int × ((List D_Step) × (Int × Unit)))) → Option (Out (Int × (Int × ((List D_Step) × (Int × Unit)))) ((Bool × (Int × (Int × ((List D_Step) × (Int × Unit))))) ⊕ Empty) (Int × Unit)) :=
  (fun v2 => (if (ltZ v2.1 v2.2.1) = true then (Option.bind ((Option.bind (spec_l03At (v2.2.2.1, (v2.1, ())) ()) fun v3 => (some v3.1)) : (Option Int)) fun v4 => (some (Out.norm ((addZ .i64 v2.1 1), (v2.2.1, (v2.2.2.1, ((addZ .i64 v2.2.2.2.1 v4), ()))))))) else (some (Out.exit (Sum.inl ((ltZ v2.1 v2.2.1), (v2.1, (v2.2.1, (v2.2.2.1, (v2.2.2.2.1, ()))))))))))
def spec_TotalCapacity (x : ((List D_Step) × D_Step)) (c : Unit) : (Option (Int × Unit)) :=
  (Option.bind ((Option.bind (spec_l03Span (x.1, (x.2.1, (x.2.2.1, ()))) ()) fun v0 => (some v0.1)) : (Option Bool)) fun v1 => (if (notB v1) = true then (some (0, ())) else (Option.bind (loopN (A := (Int × (Int × ((List D_Step) × (Int × Unit))))) big spec_TotalCapacity_L0 (x.2.1, (x.2.2.1, (x.1, (0, ()))))) fun v5 => (match v5 with | Out.norm v6 => none | Out.exit v7 => (match ((match v7 with | Sum.inl v10 => (Sum.inl (v10.2.2.2.2.1, ())) | Sum.inr v11 => (Empty.elim v11)) : ((Int × Unit) ⊕ Empty)) with | Sum.inl v8 => (some (v8.1, ())) | Sum.inr v9 => none) | Out.ret v12 => (some v12)))))
def H_spec_TotalCapacity : Hd := ⟨[.sl 170 (.st [.int .i64, .int .i64]), .int .i64, .int .i64], [], none, .p, .int .i64, .p, []⟩
def T_spec_TotalCapacity : FSig := ⟨H_spec_TotalCapacity.ps, H_spec_TotalCapacity.cs, H_spec_TotalCapacity.io, H_spec_TotalCapacity.im, H_spec_TotalCapacity.R, H_spec_TotalCapacity.m, spec_TotalCapacity⟩
theorem E_spec_TotalCapacity : fnOf tys [(156, T_spec_l03At), (179, T_spec_l03Span)] Tryz.f157 H_spec_TotalCapacity = T_spec_TotalCapacity := by kernel_rfl
theorem K_spec_TotalCapacity : SigOk Tryz.prog 157 T_spec_TotalCapacity := (congrArg (SigOk Tryz.prog 157) E_spec_TotalCapacity).mp (fnOf_ok rfl tysOk ⟨K_spec_l03At, K_spec_l03Span, trivial⟩ Tryz.func157 (by decide) rfl (fun _ h => by cases h) (nilEq_of (by kernel_rfl)))
def spec_l10Ahead (x : (D_Project × (D_Schedule × (Int × D_Step)))) (c : Unit) : (Option (Bool × Unit)) :=
  (Option.bind ((Option.bind (spec_l09End (x.1, (x.2.1, (x.2.2.2.1, ()))) ()) fun v0 => (some v0.1)) : (Option Int)) fun v1 => (Option.bind (getI x.1.2.2.2.1 x.2.2.1) fun v2 => (Option.bind (getI x.1.2.1 x.2.2.2.1) fun v3 => (Option.bind (getI v2.2.1 v3.2.1) fun v4 => (Option.bind (getI x.1.2.1 x.2.2.2.2.1) fun v5 => (Option.bind (getI v4 v5.2.1) fun v6 => (Option.bind (getI x.2.1.1 x.2.2.2.2.1) fun v7 => (some ((leZ (addZ .i64 v1 v6) v7), ())))))))))
def H_spec_l10Ahead : Hd := ⟨[.st [.int .i64, .sl 118 (.st [.str, .int .i64, .sl 159 (.st [.int .i64, .sl 3 (.int .i64), .sl 3 (.int .i64)])]), .sl 121 (.st [.int .i64, .int .i64, .bool, .int .i64]), .sl 126 (.st [.sl 170 (.st [.int .i64, .int .i64]), .sl 25 (.sl 3 (.int .i64))]), .sl 3 (.int .i64)], .st [.sl 3 (.int .i64), .sl 3 (.int .i64)], .int .i64, .int .i64, .int .i64], [], none, .p, .bool, .p, []⟩
def T_spec_l10Ahead : FSig := ⟨H_spec_l10Ahead.ps, H_spec_l10Ahead.cs, H_spec_l10Ahead.io, H_spec_l10Ahead.im, H_spec_l10Ahead.R, H_spec_l10Ahead.m, spec_l10Ahead⟩
theorem E_spec_l10Ahead : fnOf tys [(78, T_spec_l09End)] Tryz.f180 H_spec_l10Ahead = T_spec_l10Ahead := by kernel_rfl
theorem K_spec_l10Ahead : SigOk Tryz.prog 180 T_spec_l10Ahead := (congrArg (SigOk Tryz.prog 180) E_spec_l10Ahead).mp (fnOf_ok rfl tysOk ⟨K_spec_l09End, trivial⟩ Tryz.func180 (by decide) rfl (fun _ h => by cases h) (nilEq_of (by kernel_rfl)))
def spec_l10Pair (x : (D_Project × (D_Schedule × (D_Rule × Unit)))) (c : Unit) : (Option (Bool × Unit)) :=
  (Option.bind ((Option.bind (spec_l09Mode (x.1, (x.2.1, (x.2.2.1.2.2.1, ()))) ()) fun v0 => (some v0.1)) : (Option D_Mode)) fun v1 => (Option.bind (getI v1.2.1 x.2.2.1.2.1) fun v2 => (Option.bind ((if (eqZ v2 0) = true then (some (true, (x.1, (x.2.1, (x.2.2.1, ()))))) else (Option.bind ((Option.bind (spec_l09Mode (x.1, (x.2.1, (x.2.2.1.2.2.2.1, ()))) ()) fun v3 => (some v3.1)) : (Option D_Mode)) fun v4 => (Option.bind (getI v4.2.1 x.2.2.1.2.1) fun v5 => (some ((eqZ v5 0), (x.1, (x.2.1, (x.2.2.1, ())))))))) : (Option (Bool × (D_Project × (D_Schedule × (D_Rule × Unit)))))) fun v6 => (if v6.1 = true then (some (false, ())) else (Option.bind ((Option.bind (spec_l10Ahead (v6.2.1, (v6.2.2.1, (v6.2.2.2.1.2.1, (v6.2.2.2.1.2.2.1, (v6.2.2.2.1.2.2.2.1, ()))))) ()) fun v7 => (some v7.1)) : (Option Bool)) fun v8 => (Option.bind ((if (notB v8) = true then (Option.bind ((Option.bind (spec_l10Ahead (v6.2.1, (v6.2.2.1, (v6.2.2.2.1.2.1, (v6.2.2.2.1.2.2.2.1, (v6.2.2.2.1.2.2.1, ()))))) ()) fun v9 => (some v9.1)) : (Option Bool)) fun v10 => (some ((notB v10), ()))) else (some (false, ()))) : (Option (Bool × Unit))) fun v11 => (some (v11.1, ()))))))))
def H_spec_l10Pair : Hd := ⟨[.st [.int .i64, .sl 118 (.st [.str, .int .i64, .sl 159 (.st [.int .i64, .sl 3 (.int .i64), .sl 3 (.int .i64)])]), .sl 121 (.st [.int .i64, .int .i64, .bool, .int .i64]), .sl 126 (.st [.sl 170 (.st [.int .i64, .int .i64]), .sl 25 (.sl 3 (.int .i64))]), .sl 3 (.int .i64)], .st [.sl 3 (.int .i64), .sl 3 (.int .i64)], .st [.int .i64, .int .i64, .int .i64, .int .i64]], [], none, .p, .bool, .p, []⟩
def T_spec_l10Pair : FSig := ⟨H_spec_l10Pair.ps, H_spec_l10Pair.cs, H_spec_l10Pair.io, H_spec_l10Pair.im, H_spec_l10Pair.R, H_spec_l10Pair.m, spec_l10Pair⟩
theorem E_spec_l10Pair : fnOf tys [(127, T_spec_l09Mode), (180, T_spec_l10Ahead)] Tryz.f158 H_spec_l10Pair = T_spec_l10Pair := by kernel_rfl
theorem K_spec_l10Pair : SigOk Tryz.prog 158 T_spec_l10Pair := (congrArg (SigOk Tryz.prog 158) E_spec_l10Pair).mp (fnOf_ok rfl tysOk ⟨K_spec_l09Mode, K_spec_l10Ahead, trivial⟩ Tryz.func158 (by decide) rfl (fun _ h => by cases h) (nilEq_of (by kernel_rfl)))
def spec_ScheduleForm_L0 : (Int × (Int × ((List D_Activity) × (D_Schedule × Unit)))) → Option (Out (Int × (Int × ((List D_Activity) × (D_Schedule × Unit)))) ((Bool × (Int × (Int × ((List D_Activity) × (D_Schedule × Unit))))) ⊕ Empty) (Bool × Unit)) :=
  (fun v4 => (if (ltZ v4.1 v4.2.1) = true then (Option.bind (getI v4.2.2.1 v4.1) fun v5 => (Option.bind (getI v4.2.2.2.1.1 v4.1) fun v6 => (Option.bind ((Option.bind (spec_l01In (v6, (0, (60, ()))) ()) fun v7 => (some v7.1)) : (Option Bool)) fun v8 => (Option.bind ((if (notB v8) = true then (some (true, (v4.1, (v4.2.1, (v4.2.2.1, (v4.2.2.2.1, ())))))) else (Option.bind (getI v4.2.2.2.1.2.1 v4.1) fun v9 => (Option.bind ((Option.bind (spec_l01In (v9, (0, ((subZ .i64 (lenI v5.2.2.1) 1), ()))) ()) fun v10 => (some v10.1)) : (Option Bool)) fun v11 => (some ((notB v11), (v4.1, (v4.2.1, (v4.2.2.1, (v4.2.2.2.1, ()))))))))) : (Option (Bool × (Int × (Int × ((List D_Activity) × (D_Schedule × Unit))))))) fun v12 => (if v12.1 = true then (some (Out.ret (false, ()))) else (some (Out.norm ((addZ .i64 v12.2.1 1), (v12.2.2.1, (v12.2.2.2.1, (v12.2.2.2.2.1, ()))))))))))) else (some (Out.exit (Sum.inl ((ltZ v4.1 v4.2.1), (v4.1, (v4.2.1, (v4.2.2.1, (v4.2.2.2.1, ()))))))))))
def spec_ScheduleForm (x : (D_Project × (D_Schedule × Unit))) (c : Unit) : (Option (Bool × Unit)) :=
  (Option.bind ((Option.bind (spec_ProjectOk (x.1, ()) ()) fun v0 => (some v0.1)) : (Option Bool)) fun v1 => (Option.bind ((if (notB v1) = true then (some (true, (x.1, (x.2.1, ())))) else (Option.bind ((if (notB (eqZ (lenI x.2.1.1) (lenI x.1.2.1))) = true then (some (true, (x.1, (x.2.1, ())))) else (some ((notB (eqZ (lenI x.2.1.2.1) (lenI x.1.2.1))), (x.1, (x.2.1, ()))))) : (Option (Bool × (D_Project × (D_Schedule × Unit))))) fun v2 => (some (v2.1, (v2.2.1, (v2.2.2.1, ())))))) : (Option (Bool × (D_Project × (D_Schedule × Unit))))) fun v3 => (if v3.1 = true then (some (false, ())) else (Option.bind (loopN (A := (Int × (Int × ((List D_Activity) × (D_Schedule × Unit))))) big spec_ScheduleForm_L0 (0, ((lenI v3.2.1.2.1), (v3.2.1.2.1, (v3.2.2.1, ()))))) fun v13 => (match v13 with | Out.norm v14 => none | Out.exit v15 => (match ((match v15 with | Sum.inl v18 => (Sum.inl ()) | Sum.inr v19 => (Empty.elim v19)) : (Unit ⊕ Empty)) with | Sum.inl v16 => (some (true, ())) | Sum.inr v17 => none) | Out.ret v20 => (some v20))))))
def H_spec_ScheduleForm : Hd := ⟨[.st [.int .i64, .sl 118 (.st [.str, .int .i64, .sl 159 (.st [.int .i64, .sl 3 (.int .i64), .sl 3 (.int .i64)])]), .sl 121 (.st [.int .i64, .int .i64, .bool, .int .i64]), .sl 126 (.st [.sl 170 (.st [.int .i64, .int .i64]), .sl 25 (.sl 3 (.int .i64))]), .sl 3 (.int .i64)], .st [.sl 3 (.int .i64), .sl 3 (.int .i64)]], [], none, .p, .bool, .p, []⟩
def T_spec_ScheduleForm : FSig := ⟨H_spec_ScheduleForm.ps, H_spec_ScheduleForm.cs, H_spec_ScheduleForm.io, H_spec_ScheduleForm.im, H_spec_ScheduleForm.R, H_spec_ScheduleForm.m, spec_ScheduleForm⟩
theorem E_spec_ScheduleForm : fnOf tys [(69, T_spec_ProjectOk), (70, T_spec_l01In)] Tryz.f76 H_spec_ScheduleForm = T_spec_ScheduleForm := by kernel_rfl
theorem K_spec_ScheduleForm : SigOk Tryz.prog 76 T_spec_ScheduleForm := (congrArg (SigOk Tryz.prog 76) E_spec_ScheduleForm).mp (fnOf_ok rfl tysOk ⟨K_spec_ProjectOk, K_spec_l01In, trivial⟩ Tryz.func76 (by decide) rfl (fun _ h => by cases h) (nilEq_of (by kernel_rfl)))
def spec_ConsumptionOf_L0 : (Int × (Int × (D_Project × (D_Schedule × D_Step)))) → Option (Out (Int × (Int × (D_Project × (D_Schedule × D_Step)))) ((Bool × (Int × (Int × (D_Project × (D_Schedule × D_Step))))) ⊕ Empty) (Int × Unit)) :=
  (fun v5 => (if (ltZ v5.1 v5.2.1) = true then (Option.bind ((Option.bind (spec_l09Mode (v5.2.2.1, (v5.2.2.2.1, (v5.1, ()))) ()) fun v6 => (some v6.1)) : (Option D_Mode)) fun v7 => (Option.bind (getI v7.2.2.1 v5.2.2.2.2.1) fun v8 => (some (Out.norm ((addZ .i64 v5.1 1), (v5.2.1, (v5.2.2.1, (v5.2.2.2.1, (v5.2.2.2.2.1, ((addZ .i64 v5.2.2.2.2.2.1 v8), ())))))))))) else (some (Out.exit (Sum.inl ((ltZ v5.1 v5.2.1), (v5.1, (v5.2.1, (v5.2.2.1, (v5.2.2.2.1, (v5.2.2.2.2.1, (v5.2.2.2.2.2.1, ()))))))))))))
def spec_ConsumptionOf (x : (D_Project × (D_Schedule × (Int × Unit)))) (c : Unit) : (Option (Int × Unit)) :=
  (Option.bind ((Option.bind (spec_ScheduleForm (x.1, (x.2.1, ())) ()) fun v0 => (some v0.1)) : (Option Bool)) fun v1 => (Option.bind ((if (notB v1) = true then (some (true, (x.1, (x.2.1, (x.2.2.1, (0, ())))))) else (Option.bind ((Option.bind (spec_l01In (x.2.2.1, (0, ((subZ .i64 (lenI x.1.2.2.2.2.1) 1), ()))) ()) fun v2 => (some v2.1)) : (Option Bool)) fun v3 => (some ((notB v3), (x.1, (x.2.1, (x.2.2.1, (0, ())))))))) : (Option (Bool × (D_Project × (D_Schedule × D_Step))))) fun v4 => (if v4.1 = true then (some (0, ())) else (Option.bind (loopN (A := (Int × (Int × (D_Project × (D_Schedule × D_Step))))) big spec_ConsumptionOf_L0 (0, ((lenI v4.2.1.2.1), (v4.2.1, (v4.2.2.1, (v4.2.2.2.1, (v4.2.2.2.2.1, ()))))))) fun v9 => (match v9 with | Out.norm v10 => none | Out.exit v11 => (match ((match v11 with | Sum.inl v14 => (Sum.inl (v14.2.2.2.2.2.2.1, ())) | Sum.inr v15 => (Empty.elim v15)) : ((Int × Unit) ⊕ Empty)) with | Sum.inl v12 => (some (v12.1, ())) | Sum.inr v13 => none) | Out.ret v16 => (some v16))))))
def H_spec_ConsumptionOf : Hd := ⟨[.st [.int .i64, .sl 118 (.st [.str, .int .i64, .sl 159 (.st [.int .i64, .sl 3 (.int .i64), .sl 3 (.int .i64)])]), .sl 121 (.st [.int .i64, .int .i64, .bool, .int .i64]), .sl 126 (.st [.sl 170 (.st [.int .i64, .int .i64]), .sl 25 (.sl 3 (.int .i64))]), .sl 3 (.int .i64)], .st [.sl 3 (.int .i64), .sl 3 (.int .i64)], .int .i64], [], none, .p, .int .i64, .p, []⟩
def T_spec_ConsumptionOf : FSig := ⟨H_spec_ConsumptionOf.ps, H_spec_ConsumptionOf.cs, H_spec_ConsumptionOf.io, H_spec_ConsumptionOf.im, H_spec_ConsumptionOf.R, H_spec_ConsumptionOf.m, spec_ConsumptionOf⟩
theorem E_spec_ConsumptionOf : fnOf tys [(70, T_spec_l01In), (76, T_spec_ScheduleForm), (127, T_spec_l09Mode)] Tryz.f159 H_spec_ConsumptionOf = T_spec_ConsumptionOf := by kernel_rfl
theorem K_spec_ConsumptionOf : SigOk Tryz.prog 159 T_spec_ConsumptionOf := (congrArg (SigOk Tryz.prog 159) E_spec_ConsumptionOf).mp (fnOf_ok rfl tysOk ⟨K_spec_l01In, K_spec_ScheduleForm, K_spec_l09Mode, trivial⟩ Tryz.func159 (by decide) rfl (fun _ h => by cases h) (nilEq_of (by kernel_rfl)))
def spec_l10Fails_L0 : (Int × (D_Schedule × (Int × (D_Project × (D_Rule × Unit))))) → Option (Out (Int × (D_Schedule × (Int × (D_Project × (D_Rule × Unit))))) ((Bool × (Int × (D_Schedule × (Int × (D_Project × (D_Rule × Unit)))))) ⊕ Empty) (Bool × Unit)) :=
  (fun v24 => (if (ltZ v24.1 v24.2.2.2.2.1.2.2.2.1) = true then (Option.bind ((Option.bind (spec_l09Use (v24.2.2.2.1, (v24.2.1, (v24.2.2.2.2.1.2.1, (v24.1, ())))) ()) fun v25 => (some v25.1)) : (Option Int)) fun v26 => (some (Out.norm ((addZ .i64 v24.1 1), (v24.2.1, ((addZ .i64 v24.2.2.1 v26), (v24.2.2.2.1, (v24.2.2.2.2.1, ())))))))) else (some (Out.exit (Sum.inl ((ltZ v24.1 v24.2.2.2.2.1.2.2.2.1), (v24.1, (v24.2.1, (v24.2.2.1, (v24.2.2.2.1, (v24.2.2.2.2.1, ())))))))))))
def spec_l10Fails (x : (D_Project × (D_Schedule × (D_Rule × Unit)))) (c : Unit) : (Option (Bool × Unit)) :=
  (if (eqZ x.2.2.1.1 1) = true then (Option.bind (getI x.1.2.2.1 x.2.2.1.2.1) fun v0 => (Option.bind (getI x.2.1.1 v0.1) fun v1 => (Option.bind ((if v0.2.2.1 = true then (Option.bind ((Option.bind (spec_l09End (x.1, (x.2.1, (v0.1, ()))) ()) fun v2 => (some v2.1)) : (Option Int)) fun v3 => (some (Out.norm (x.2.1, (v3, (v0, ())))))) else (some (Out.norm (x.2.1, (v1, (v0, ())))))) : (Option (Out (D_Schedule × (Int × (D_Link × Unit))) Empty (Bool × Unit)))) fun v4 => (match ((match v4 with | Out.norm v14 => (Out.norm v14) | Out.exit v15 => (Out.exit v15) | Out.ret v16 => (Out.ret v16)) : (Out (D_Schedule × (Int × (D_Link × Unit))) Empty (Bool × Unit))) with | Out.norm v5 => (Option.bind (getI v5.1.1 v5.2.2.1.2.1) fun v6 => (some ((ltZ v6 (addZ .i64 v5.2.1 v5.2.2.1.2.2.2.1)), ()))) | Out.exit v7 => (match ((Empty.elim (Empty.elim (Empty.elim v7))) : ((D_Schedule × (D_Project × (D_Rule × Unit))) ⊕ Empty)) with | Sum.inl v8 => (Option.bind ((Option.bind (spec_ConsumptionOf (v8.2.1, (v8.1, (v8.2.2.1.2.1, ()))) ()) fun v9 => (some v9.1)) : (Option Int)) fun v10 => (Option.bind (getI v8.2.1.2.2.2.2.1 v8.2.2.1.2.1) fun v11 => (some ((ltZ v11 v10), ())))) | Sum.inr v12 => none) | Out.ret v13 => (some v13))))) else (if (eqZ x.2.2.1.1 2) = true then (Option.bind ((Option.bind (spec_l09End (x.1, (x.2.1, (x.2.2.1.2.1, ()))) ()) fun v17 => (some v17.1)) : (Option Int)) fun v18 => (some ((ltZ x.1.1 v18), ()))) else (if (eqZ x.2.2.1.1 3) = true then (Option.bind ((Option.bind (spec_l09Use (x.1, (x.2.1, (x.2.2.1.2.1, (x.2.2.1.2.2.1, ())))) ()) fun v19 => (some v19.1)) : (Option Int)) fun v20 => (Option.bind (getI x.1.2.2.2.1 x.2.2.1.2.1) fun v21 => (Option.bind ((Option.bind (spec_l03At (v21.1, (x.2.2.1.2.2.1, ())) ()) fun v22 => (some v22.1)) : (Option Int)) fun v23 => (some ((ltZ v23 v20), ()))))) else (if (eqZ x.2.2.1.1 4) = true then (Option.bind (loopN (A := (Int × (D_Schedule × (Int × (D_Project × (D_Rule × Unit)))))) big spec_l10Fails_L0 (x.2.2.1.2.2.1, (x.2.1, (0, (x.1, (x.2.2.1, ())))))) fun v27 => (match v27 with | Out.norm v28 => none | Out.exit v29 => (match ((match v29 with | Sum.inl v40 => (Sum.inl (v40.2.2.2.1, (v40.2.2.2.2.1, (v40.2.2.2.2.2.1, ())))) | Sum.inr v41 => (Empty.elim v41)) : ((Int × (D_Project × (D_Rule × Unit))) ⊕ Empty)) with | Sum.inl v30 => (Option.bind (getI v30.2.1.2.2.2.1 v30.2.2.1.2.1) fun v31 => (Option.bind ((Option.bind (spec_TotalCapacity (v31.1, (v30.2.2.1.2.2.1, (v30.2.2.1.2.2.2.1, ()))) ()) fun v32 => (some v32.1)) : (Option Int)) fun v33 => (some ((ltZ v33 v30.1), ())))) | Sum.inr v34 => (match ((Empty.elim (Empty.elim (Empty.elim v34))) : ((D_Schedule × (D_Project × (D_Rule × Unit))) ⊕ Empty)) with | Sum.inl v35 => (Option.bind ((Option.bind (spec_ConsumptionOf (v35.2.1, (v35.1, (v35.2.2.1.2.1, ()))) ()) fun v36 => (some v36.1)) : (Option Int)) fun v37 => (Option.bind (getI v35.2.1.2.2.2.2.1 v35.2.2.1.2.1) fun v38 => (some ((ltZ v38 v37), ())))) | Sum.inr v39 => none)) | Out.ret v42 => (some v42))) else (if (eqZ x.2.2.1.1 5) = true then (Option.bind ((Option.bind (spec_l10Pair (x.1, (x.2.1, (x.2.2.1, ()))) ()) fun v43 => (some v43.1)) : (Option Bool)) fun v44 => (some (v44, ()))) else (Option.bind ((Option.bind (spec_ConsumptionOf (x.1, (x.2.1, (x.2.2.1.2.1, ()))) ()) fun v45 => (some v45.1)) : (Option Int)) fun v46 => (Option.bind (getI x.1.2.2.2.2.1 x.2.2.1.2.1) fun v47 => (some ((ltZ v47 v46), ())))))))))
def H_spec_l10Fails : Hd := ⟨[.st [.int .i64, .sl 118 (.st [.str, .int .i64, .sl 159 (.st [.int .i64, .sl 3 (.int .i64), .sl 3 (.int .i64)])]), .sl 121 (.st [.int .i64, .int .i64, .bool, .int .i64]), .sl 126 (.st [.sl 170 (.st [.int .i64, .int .i64]), .sl 25 (.sl 3 (.int .i64))]), .sl 3 (.int .i64)], .st [.sl 3 (.int .i64), .sl 3 (.int .i64)], .st [.int .i64, .int .i64, .int .i64, .int .i64]], [], none, .p, .bool, .p, []⟩
def T_spec_l10Fails : FSig := ⟨H_spec_l10Fails.ps, H_spec_l10Fails.cs, H_spec_l10Fails.io, H_spec_l10Fails.im, H_spec_l10Fails.R, H_spec_l10Fails.m, spec_l10Fails⟩
theorem E_spec_l10Fails : fnOf tys [(78, T_spec_l09End), (155, T_spec_l09Use), (156, T_spec_l03At), (157, T_spec_TotalCapacity), (158, T_spec_l10Pair), (159, T_spec_ConsumptionOf)] Tryz.f125 H_spec_l10Fails = T_spec_l10Fails := by kernel_rfl
theorem K_spec_l10Fails : SigOk Tryz.prog 125 T_spec_l10Fails := (congrArg (SigOk Tryz.prog 125) E_spec_l10Fails).mp (fnOf_ok rfl tysOk ⟨K_spec_l09End, K_spec_l09Use, K_spec_l03At, K_spec_TotalCapacity, K_spec_l10Pair, K_spec_ConsumptionOf, trivial⟩ Tryz.func125 (by decide) rfl (fun _ h => by cases h) (nilEq_of (by kernel_rfl)))
def spec_l32Quick_L0 : (Int × (Int × (D_Schedule × (D_Project × Unit)))) → Option (Out (Int × (Int × (D_Schedule × (D_Project × Unit)))) ((Bool × (Int × (Int × (D_Schedule × (D_Project × Unit))))) ⊕ Empty) (Bool × Unit)) :=
  (fun v0 => (if (ltZ v0.1 v0.2.1) = true then (Option.bind ((Option.bind (spec_l10Fails (v0.2.2.2.1, (v0.2.2.1, ((1, (v0.1, (0, (0, ())))), ()))) ()) fun v1 => (some v1.1)) : (Option Bool)) fun v2 => (if v2 = true then (some (Out.ret (false, ()))) else (some (Out.norm ((addZ .i64 v0.1 1), (v0.2.1, (v0.2.2.1, (v0.2.2.2.1, ())))))))) else (some (Out.exit (Sum.inl ((ltZ v0.1 v0.2.1), (v0.1, (v0.2.1, (v0.2.2.1, (v0.2.2.2.1, ()))))))))))
def spec_l32Quick_L1 : (Int × (Int × (D_Schedule × (D_Project × Unit)))) → Option (Out (Int × (Int × (D_Schedule × (D_Project × Unit)))) ((Bool × (Int × (Int × (D_Schedule × (D_Project × Unit))))) ⊕ Empty) (Bool × Unit)) :=
  (fun v7 => (if (ltZ v7.1 v7.2.1) = true then (Option.bind ((Option.bind (spec_l09End (v7.2.2.2.1, (v7.2.2.1, (v7.1, ()))) ()) fun v8 => (some v8.1)) : (Option Int)) fun v9 => (if (ltZ v7.2.2.2.1.1 v9) = true then (some (Out.ret (false, ()))) else (some (Out.norm ((addZ .i64 v7.1 1), (v7.2.1, (v7.2.2.1, (v7.2.2.2.1, ())))))))) else (some (Out.exit (Sum.inl ((ltZ v7.1 v7.2.1), (v7.1, (v7.2.1, (v7.2.2.1, (v7.2.2.2.1, ()))))))))))
def spec_l32Quick (x : (D_Project × (D_Schedule × Unit))) (c : Unit) : (Option (Bool × Unit)) :=
  (Option.bind (loopN (A := (Int × (Int × (D_Schedule × (D_Project × Unit))))) big spec_l32Quick_L0 (0, ((lenI x.1.2.2.1), (x.2.1, (x.1, ()))))) fun v3 => (match v3 with | Out.norm v4 => none | Out.exit v5 => (match ((match v5 with | Sum.inl v19 => (Sum.inl (v19.2.2.2.1, (v19.2.2.2.2.1, ()))) | Sum.inr v20 => (Empty.elim v20)) : ((D_Schedule × (D_Project × Unit)) ⊕ Empty)) with | Sum.inl v6 => (Option.bind (loopN (A := (Int × (Int × (D_Schedule × (D_Project × Unit))))) big spec_l32Quick_L1 (0, ((lenI v6.2.1.2.1), (v6.1, (v6.2.1, ()))))) fun v10 => (match v10 with | Out.norm v11 => none | Out.exit v12 => (match ((match v12 with | Sum.inl v15 => (Sum.inl ()) | Sum.inr v16 => (Empty.elim v16)) : (Unit ⊕ Empty)) with | Sum.inl v13 => (some (true, ())) | Sum.inr v14 => none) | Out.ret v17 => (some v17))) | Sum.inr v18 => none) | Out.ret v21 => (some v21)))
def H_spec_l32Quick : Hd := ⟨[.st [.int .i64, .sl 118 (.st [.str, .int .i64, .sl 159 (.st [.int .i64, .sl 3 (.int .i64), .sl 3 (.int .i64)])]), .sl 121 (.st [.int .i64, .int .i64, .bool, .int .i64]), .sl 126 (.st [.sl 170 (.st [.int .i64, .int .i64]), .sl 25 (.sl 3 (.int .i64))]), .sl 3 (.int .i64)], .st [.sl 3 (.int .i64), .sl 3 (.int .i64)]], [], none, .p, .bool, .p, []⟩
def T_spec_l32Quick : FSig := ⟨H_spec_l32Quick.ps, H_spec_l32Quick.cs, H_spec_l32Quick.io, H_spec_l32Quick.im, H_spec_l32Quick.R, H_spec_l32Quick.m, spec_l32Quick⟩
theorem E_spec_l32Quick : fnOf tys [(78, T_spec_l09End), (125, T_spec_l10Fails)] Tryz.f73 H_spec_l32Quick = T_spec_l32Quick := by kernel_rfl
theorem K_spec_l32Quick : SigOk Tryz.prog 73 T_spec_l32Quick := (congrArg (SigOk Tryz.prog 73) E_spec_l32Quick).mp (fnOf_ok rfl tysOk ⟨K_spec_l09End, K_spec_l10Fails, trivial⟩ Tryz.func73 (by decide) rfl (fun _ h => by cases h) (nilEq_of (by kernel_rfl)))
def spec_IsMachine (x : (D_Project × (Int × Unit))) (c : Unit) : (Option (Bool × Unit)) :=
  (Option.bind ((Option.bind (spec_l01In (x.2.1, (0, ((subZ .i64 (lenI x.1.2.2.2.1) 1), ()))) ()) fun v0 => (some v0.1)) : (Option Bool)) fun v1 => (Option.bind ((if v1 = true then (Option.bind (getI x.1.2.2.2.1 x.2.1) fun v2 => (some ((ltZ 0 (lenI v2.2.1)), ()))) else (some (false, ()))) : (Option (Bool × Unit))) fun v3 => (some (v3.1, ()))))
def H_spec_IsMachine : Hd := ⟨[.st [.int .i64, .sl 118 (.st [.str, .int .i64, .sl 159 (.st [.int .i64, .sl 3 (.int .i64), .sl 3 (.int .i64)])]), .sl 121 (.st [.int .i64, .int .i64, .bool, .int .i64]), .sl 126 (.st [.sl 170 (.st [.int .i64, .int .i64]), .sl 25 (.sl 3 (.int .i64))]), .sl 3 (.int .i64)], .int .i64], [], none, .p, .bool, .p, []⟩
def T_spec_IsMachine : FSig := ⟨H_spec_IsMachine.ps, H_spec_IsMachine.cs, H_spec_IsMachine.io, H_spec_IsMachine.im, H_spec_IsMachine.R, H_spec_IsMachine.m, spec_IsMachine⟩
theorem E_spec_IsMachine : fnOf tys [(70, T_spec_l01In)] Tryz.f181 H_spec_IsMachine = T_spec_IsMachine := by kernel_rfl
theorem K_spec_IsMachine : SigOk Tryz.prog 181 T_spec_IsMachine := (congrArg (SigOk Tryz.prog 181) E_spec_IsMachine).mp (fnOf_ok rfl tysOk ⟨K_spec_l01In, trivial⟩ Tryz.func181 (by decide) rfl (fun _ h => by cases h) (nilEq_of (by kernel_rfl)))
def spec_l10Rules_L0 : (Int × (Int × (D_Project × ((List D_Rule) × Unit)))) → Option (Out (Int × (Int × (D_Project × ((List D_Rule) × Unit)))) ((Bool × (Int × (Int × (D_Project × ((List D_Rule) × Unit))))) ⊕ Empty) ((List D_Rule) × Unit)) :=
  (fun v0 => (if (ltZ v0.1 v0.2.1) = true then (Option.bind (addI v0.2.2.2.1 ((1, (v0.1, (0, (0, ())))) :: [])) fun v1 => (some (Out.norm ((addZ .i64 v0.1 1), (v0.2.1, (v0.2.2.1, (v1, ()))))))) else (some (Out.exit (Sum.inl ((ltZ v0.1 v0.2.1), (v0.1, (v0.2.1, (v0.2.2.1, (v0.2.2.2.1, ()))))))))))
def spec_l10Rules_L1 : (Int × (Int × (D_Project × ((List D_Rule) × Unit)))) → Option (Out (Int × (Int × (D_Project × ((List D_Rule) × Unit)))) ((Bool × (Int × (Int × (D_Project × ((List D_Rule) × Unit))))) ⊕ Empty) ((List D_Rule) × Unit)) :=
  (fun v6 => (if (ltZ v6.1 v6.2.1) = true then (Option.bind (addI v6.2.2.2.1 ((2, (v6.1, (0, (0, ())))) :: [])) fun v7 => (some (Out.norm ((addZ .i64 v6.1 1), (v6.2.1, (v6.2.2.1, (v7, ()))))))) else (some (Out.exit (Sum.inl ((ltZ v6.1 v6.2.1), (v6.1, (v6.2.1, (v6.2.2.1, (v6.2.2.2.1, ()))))))))))
def spec_l10Rules_L2 : (Int × (Int × (Int × (Int × (D_Project × ((List D_Rule) × Unit)))))) → Option (Out (Int × (Int × (Int × (Int × (D_Project × ((List D_Rule) × Unit)))))) ((Bool × (Int × (Int × (Int × (Int × (D_Project × ((List D_Rule) × Unit))))))) ⊕ Empty) ((List D_Rule) × Unit)) :=
  (fun v13 => (if (leZ v13.1 60) = true then (Option.bind (addI v13.2.2.2.2.2.1 ((3, (v13.2.1, (v13.1, (0, ())))) :: [])) fun v14 => (some (Out.norm ((addZ .i64 v13.1 1), (v13.2.1, (v13.2.2.1, (v13.2.2.2.1, (v13.2.2.2.2.1, (v14, ()))))))))) else (some (Out.exit (Sum.inl ((leZ v13.1 60), (v13.1, (v13.2.1, (v13.2.2.1, (v13.2.2.2.1, (v13.2.2.2.2.1, (v13.2.2.2.2.2.1, ()))))))))))))
def spec_l10Rules_L3 : (Int × (Int × (D_Project × ((List D_Rule) × Unit)))) → Option (Out (Int × (Int × (D_Project × ((List D_Rule) × Unit)))) ((Bool × (Int × (Int × (D_Project × ((List D_Rule) × Unit))))) ⊕ Empty) ((List D_Rule) × Unit)) :=
  (fun v12 => (if (ltZ v12.1 v12.2.1) = true then (Option.bind (loopN (A := (Int × (Int × (Int × (Int × (D_Project × ((List D_Rule) × Unit))))))) big spec_l10Rules_L2 (0, (v12.1, (v12.1, (v12.2.1, (v12.2.2.1, (v12.2.2.2.1, ()))))))) fun v15 => (match v15 with | Out.norm v16 => none | Out.exit v17 => (match ((match v17 with | Sum.inl v22 => (Sum.inl (v22.2.2.2.1, (v22.2.2.2.2.1, (v22.2.2.2.2.2.1, (v22.2.2.2.2.2.2.1, ()))))) | Sum.inr v23 => (Empty.elim v23)) : ((Int × (Int × (D_Project × ((List D_Rule) × Unit)))) ⊕ Empty)) with | Sum.inl v18 => (some (Out.norm ((addZ .i64 v18.1 1), (v18.2.1, (v18.2.2.1, (v18.2.2.2.1, ())))))) | Sum.inr v19 => (match ((Empty.elim v19) : ((Int × (Int × (D_Project × ((List D_Rule) × Unit)))) ⊕ Empty)) with | Sum.inl v20 => (some (Out.norm ((addZ .i64 v20.1 1), (v20.2.1, (v20.2.2.1, (v20.2.2.2.1, ())))))) | Sum.inr v21 => (some (Out.exit (Sum.inr (Empty.elim v21)))))) | Out.ret v24 => (some (Out.ret v24)))) else (some (Out.exit (Sum.inl ((ltZ v12.1 v12.2.1), (v12.1, (v12.2.1, (v12.2.2.1, (v12.2.2.2.1, ()))))))))))
def spec_l10Rules_L4 : (Int × (Int × (Int × (Int × (Int × (Int × (Int × (D_Project × ((List D_Rule) × Unit))))))))) → Option (Out (Int × (Int × (Int × (Int × (Int × (Int × (Int × (D_Project × ((List D_Rule) × Unit))))))))) ((Bool × (Int × (Int × (Int × (Int × (Int × (Int × (Int × (D_Project × ((List D_Rule) × Unit)))))))))) ⊕ Empty) ((List D_Rule) × Unit)) :=
  (fun v31 => (Option.bind ((if (ltZ v31.1 (lenI v31.2.2.2.2.2.2.2.1.2.1)) = true then (Option.bind ((Option.bind (spec_IsMachine (v31.2.2.2.2.2.2.2.1, (v31.2.2.2.2.1, ())) ()) fun v32 => (some v32.1)) : (Option Bool)) fun v33 => (some (v33, (v31.1, (v31.2.1, (v31.2.2.1, (v31.2.2.2.1, (v31.2.2.2.2.1, (v31.2.2.2.2.2.1, (v31.2.2.2.2.2.2.1, (v31.2.2.2.2.2.2.2.1, (v31.2.2.2.2.2.2.2.2.1, ())))))))))))) else (some (false, (v31.1, (v31.2.1, (v31.2.2.1, (v31.2.2.2.1, (v31.2.2.2.2.1, (v31.2.2.2.2.2.1, (v31.2.2.2.2.2.2.1, (v31.2.2.2.2.2.2.2.1, (v31.2.2.2.2.2.2.2.2.1, ())))))))))))) : (Option (Bool × (Int × (Int × (Int × (Int × (Int × (Int × (Int × (D_Project × ((List D_Rule) × Unit)))))))))))) fun v34 => (if v34.1 = true then (Option.bind (addI v34.2.2.2.2.2.2.2.2.2.1 ((5, (v34.2.2.2.2.2.1, (v34.2.2.1, (v34.2.1, ())))) :: [])) fun v35 => (some (Out.norm ((addZ .i64 v34.2.1 1), (v34.2.2.1, (v34.2.2.2.1, (v34.2.2.2.2.1, (v34.2.2.2.2.2.1, (v34.2.2.2.2.2.2.1, (v34.2.2.2.2.2.2.2.1, (v34.2.2.2.2.2.2.2.2.1, (v35, ())))))))))))) else (some (Out.exit (Sum.inl v34))))))
def spec_l10Rules_L5 : (Int × (Int × (Int × (Int × (Int × (D_Project × ((List D_Rule) × Unit))))))) → Option (Out (Int × (Int × (Int × (Int × (Int × (D_Project × ((List D_Rule) × Unit))))))) ((Bool × (Int × (Int × (Int × (Int × (Int × (D_Project × ((List D_Rule) × Unit)))))))) ⊕ Empty) ((List D_Rule) × Unit)) :=
  (fun v30 => (if (ltZ v30.1 v30.2.1) = true then (Option.bind (loopN (A := (Int × (Int × (Int × (Int × (Int × (Int × (Int × (D_Project × ((List D_Rule) × Unit)))))))))) big spec_l10Rules_L4 ((addZ .i64 v30.1 1), (v30.1, (v30.1, (v30.2.1, (v30.2.2.1, (v30.2.2.2.1, (v30.2.2.2.2.1, (v30.2.2.2.2.2.1, (v30.2.2.2.2.2.2.1, ())))))))))) fun v36 => (match v36 with | Out.norm v37 => none | Out.exit v38 => (match ((match v38 with | Sum.inl v43 => (Sum.inl (v43.2.2.2.1, (v43.2.2.2.2.1, (v43.2.2.2.2.2.1, (v43.2.2.2.2.2.2.1, (v43.2.2.2.2.2.2.2.1, (v43.2.2.2.2.2.2.2.2.1, (v43.2.2.2.2.2.2.2.2.2.1, ())))))))) | Sum.inr v44 => (Empty.elim v44)) : ((Int × (Int × (Int × (Int × (Int × (D_Project × ((List D_Rule) × Unit))))))) ⊕ Empty)) with | Sum.inl v39 => (some (Out.norm ((addZ .i64 v39.1 1), (v39.2.1, (v39.2.2.1, (v39.2.2.2.1, (v39.2.2.2.2.1, (v39.2.2.2.2.2.1, (v39.2.2.2.2.2.2.1, ()))))))))) | Sum.inr v40 => (match ((Empty.elim v40) : ((Int × (Int × (Int × (Int × (Int × (D_Project × ((List D_Rule) × Unit))))))) ⊕ Empty)) with | Sum.inl v41 => (some (Out.norm ((addZ .i64 v41.1 1), (v41.2.1, (v41.2.2.1, (v41.2.2.2.1, (v41.2.2.2.2.1, (v41.2.2.2.2.2.1, (v41.2.2.2.2.2.2.1, ()))))))))) | Sum.inr v42 => (some (Out.exit (Sum.inr (Empty.elim v42)))))) | Out.ret v45 => (some (Out.ret v45)))) else (some (Out.exit (Sum.inl ((ltZ v30.1 v30.2.1), (v30.1, (v30.2.1, (v30.2.2.1, (v30.2.2.2.1, (v30.2.2.2.2.1, (v30.2.2.2.2.2.1, (v30.2.2.2.2.2.2.1, ())))))))))))))
def spec_l10Rules_L6 : (Int × (Int × (D_Project × ((List D_Rule) × Unit)))) → Option (Out (Int × (Int × (D_Project × ((List D_Rule) × Unit)))) ((Bool × (Int × (Int × (D_Project × ((List D_Rule) × Unit))))) ⊕ Empty) ((List D_Rule) × Unit)) :=
  (fun v29 => (if (ltZ v29.1 v29.2.1) = true then (Option.bind (loopN (A := (Int × (Int × (Int × (Int × (Int × (D_Project × ((List D_Rule) × Unit)))))))) big spec_l10Rules_L5 (0, ((lenI v29.2.2.1.2.1), (v29.1, (v29.1, (v29.2.1, (v29.2.2.1, (v29.2.2.2.1, ())))))))) fun v46 => (match v46 with | Out.norm v47 => none | Out.exit v48 => (match ((match v48 with | Sum.inl v53 => (Sum.inl (v53.2.2.2.2.1, (v53.2.2.2.2.2.1, (v53.2.2.2.2.2.2.1, (v53.2.2.2.2.2.2.2.1, ()))))) | Sum.inr v54 => (Empty.elim v54)) : ((Int × (Int × (D_Project × ((List D_Rule) × Unit)))) ⊕ Empty)) with | Sum.inl v49 => (some (Out.norm ((addZ .i64 v49.1 1), (v49.2.1, (v49.2.2.1, (v49.2.2.2.1, ())))))) | Sum.inr v50 => (match ((Empty.elim v50) : ((Int × (Int × (D_Project × ((List D_Rule) × Unit)))) ⊕ Empty)) with | Sum.inl v51 => (some (Out.norm ((addZ .i64 v51.1 1), (v51.2.1, (v51.2.2.1, (v51.2.2.2.1, ())))))) | Sum.inr v52 => (some (Out.exit (Sum.inr (Empty.elim v52)))))) | Out.ret v55 => (some (Out.ret v55)))) else (some (Out.exit (Sum.inl ((ltZ v29.1 v29.2.1), (v29.1, (v29.2.1, (v29.2.2.1, (v29.2.2.2.1, ()))))))))))
def spec_l10Rules_L7 : (Int × (Int × ((List D_Rule) × Unit))) → Option (Out (Int × (Int × ((List D_Rule) × Unit))) ((Bool × (Int × (Int × ((List D_Rule) × Unit)))) ⊕ Empty) ((List D_Rule) × Unit)) :=
  (fun v60 => (if (ltZ v60.1 v60.2.1) = true then (Option.bind (addI v60.2.2.1 ((6, (v60.1, (0, (0, ())))) :: [])) fun v61 => (some (Out.norm ((addZ .i64 v60.1 1), (v60.2.1, (v61, ())))))) else (some (Out.exit (Sum.inl ((ltZ v60.1 v60.2.1), (v60.1, (v60.2.1, (v60.2.2.1, ())))))))))
def spec_l10Rules (x : (D_Project × Unit)) (c : Unit) : (Option ((List D_Rule) × Unit)) :=
  (Option.bind (loopN (A := (Int × (Int × (D_Project × ((List D_Rule) × Unit))))) big spec_l10Rules_L0 (0, ((lenI x.1.2.2.1), (x.1, ([], ()))))) fun v2 => (match v2 with | Out.norm v3 => none | Out.exit v4 => (match ((match v4 with | Sum.inl v83 => (Sum.inl (v83.2.2.2.1, (v83.2.2.2.2.1, ()))) | Sum.inr v84 => (Empty.elim v84)) : ((D_Project × ((List D_Rule) × Unit)) ⊕ Empty)) with | Sum.inl v5 => (Option.bind (loopN (A := (Int × (Int × (D_Project × ((List D_Rule) × Unit))))) big spec_l10Rules_L1 (0, ((lenI v5.1.2.1), (v5.1, (v5.2.1, ()))))) fun v8 => (match v8 with | Out.norm v9 => none | Out.exit v10 => (match ((match v10 with | Sum.inl v79 => (Sum.inl (v79.2.2.2.1, (v79.2.2.2.2.1, ()))) | Sum.inr v80 => (Empty.elim v80)) : ((D_Project × ((List D_Rule) × Unit)) ⊕ Empty)) with | Sum.inl v11 => (Option.bind (loopN (A := (Int × (Int × (D_Project × ((List D_Rule) × Unit))))) big spec_l10Rules_L3 (0, ((lenI v11.1.2.2.2.1), (v11.1, (v11.2.1, ()))))) fun v25 => (match v25 with | Out.norm v26 => none | Out.exit v27 => (match ((match v27 with | Sum.inl v75 => (Sum.inl (v75.2.2.2.1, (v75.2.2.2.2.1, ()))) | Sum.inr v76 => (Empty.elim v76)) : ((D_Project × ((List D_Rule) × Unit)) ⊕ Empty)) with | Sum.inl v28 => (Option.bind (loopN (A := (Int × (Int × (D_Project × ((List D_Rule) × Unit))))) big spec_l10Rules_L6 (0, ((lenI v28.1.2.2.2.1), (v28.1, (v28.2.1, ()))))) fun v56 => (match v56 with | Out.norm v57 => none | Out.exit v58 => (match ((match v58 with | Sum.inl v71 => (Sum.inl (v71.2.2.2.1, (v71.2.2.2.2.1, ()))) | Sum.inr v72 => (Empty.elim v72)) : ((D_Project × ((List D_Rule) × Unit)) ⊕ Empty)) with | Sum.inl v59 => (Option.bind (loopN (A := (Int × (Int × ((List D_Rule) × Unit)))) big spec_l10Rules_L7 (0, ((lenI v59.1.2.2.2.2.1), (v59.2.1, ())))) fun v62 => (match v62 with | Out.norm v63 => none | Out.exit v64 => (match ((match v64 with | Sum.inl v67 => (Sum.inl (v67.2.2.2.1, ())) | Sum.inr v68 => (Empty.elim v68)) : (((List D_Rule) × Unit) ⊕ Empty)) with | Sum.inl v65 => (some (v65.1, ())) | Sum.inr v66 => none) | Out.ret v69 => (some v69))) | Sum.inr v70 => none) | Out.ret v73 => (some v73))) | Sum.inr v74 => none) | Out.ret v77 => (some v77))) | Sum.inr v78 => none) | Out.ret v81 => (some v81))) | Sum.inr v82 => none) | Out.ret v85 => (some v85)))
def H_spec_l10Rules : Hd := ⟨[.st [.int .i64, .sl 118 (.st [.str, .int .i64, .sl 159 (.st [.int .i64, .sl 3 (.int .i64), .sl 3 (.int .i64)])]), .sl 121 (.st [.int .i64, .int .i64, .bool, .int .i64]), .sl 126 (.st [.sl 170 (.st [.int .i64, .int .i64]), .sl 25 (.sl 3 (.int .i64))]), .sl 3 (.int .i64)]], [], none, .p, .sl 155 (.st [.int .i64, .int .i64, .int .i64, .int .i64]), (Ty.all (.sl 155 (.st [.int .i64, .int .i64, .int .i64, .int .i64]))), []⟩
def T_spec_l10Rules : FSig := ⟨H_spec_l10Rules.ps, H_spec_l10Rules.cs, H_spec_l10Rules.io, H_spec_l10Rules.im, H_spec_l10Rules.R, H_spec_l10Rules.m, spec_l10Rules⟩
theorem E_spec_l10Rules : fnOf tys [(181, T_spec_IsMachine)] Tryz.f160 H_spec_l10Rules = T_spec_l10Rules := by kernel_rfl
theorem K_spec_l10Rules : SigOk Tryz.prog 160 T_spec_l10Rules := (congrArg (SigOk Tryz.prog 160) E_spec_l10Rules).mp (fnOf_ok rfl tysOk ⟨K_spec_IsMachine, trivial⟩ Tryz.func160 (by decide) rfl (fun _ h => by cases h) (nilEq_of (by kernel_rfl)))
def spec_ViolatedRules_L0 : (Int × (Int × ((List D_Rule) × (D_Project × (D_Schedule × ((List D_Rule) × Unit)))))) → Option (Out (Int × (Int × ((List D_Rule) × (D_Project × (D_Schedule × ((List D_Rule) × Unit)))))) ((Bool × (Int × (Int × ((List D_Rule) × (D_Project × (D_Schedule × ((List D_Rule) × Unit))))))) ⊕ Empty) ((List D_Rule) × Unit)) :=
  (fun v4 => (if (ltZ v4.1 v4.2.1) = true then (Option.bind ((Option.bind (getI v4.2.2.1 v4.1) fun v5 => (some ())) : (Option Unit)) fun v6 => (Option.bind ((Option.bind (getI v4.2.2.1 v4.1) fun v7 => (some v7)) : (Option D_Rule)) fun v8 => (Option.bind ((Option.bind (spec_l10Fails (v4.2.2.2.1, (v4.2.2.2.2.1, (v8, ()))) ()) fun v9 => (some v9.1)) : (Option Bool)) fun v10 => (Option.bind ((if v10 = true then (Option.bind (addI v4.2.2.2.2.2.1 (v8 :: [])) fun v11 => (some (Out.norm (v4.1, (v4.2.1, (v4.2.2.1, (v4.2.2.2.1, (v4.2.2.2.2.1, (v11, ()))))))))) else (some (Out.norm (v4.1, (v4.2.1, (v4.2.2.1, (v4.2.2.2.1, (v4.2.2.2.2.1, (v4.2.2.2.2.2.1, ()))))))))) : (Option (Out (Int × (Int × ((List D_Rule) × (D_Project × (D_Schedule × ((List D_Rule) × Unit)))))) Empty ((List D_Rule) × Unit)))) fun v12 => (match ((match ((match v12 with | Out.norm v21 => (Out.norm v21) | Out.exit v22 => (Out.exit v22) | Out.ret v23 => (Out.ret v23)) : (Out (Int × (Int × ((List D_Rule) × (D_Project × (D_Schedule × ((List D_Rule) × Unit)))))) Empty ((List D_Rule) × Unit))) with | Out.norm v18 => (Out.norm v18) | Out.exit v19 => (Out.exit v19) | Out.ret v20 => (Out.ret v20)) : (Out (Int × (Int × ((List D_Rule) × (D_Project × (D_Schedule × ((List D_Rule) × Unit)))))) Empty ((List D_Rule) × Unit))) with | Out.norm v13 => (some (Out.norm ((addZ .i64 v13.1 1), (v13.2.1, (v13.2.2.1, (v13.2.2.2.1, (v13.2.2.2.2.1, (v13.2.2.2.2.2.1, ())))))))) | Out.exit v14 => (match ((Empty.elim v14) : ((Int × (Int × ((List D_Rule) × (D_Project × (D_Schedule × ((List D_Rule) × Unit)))))) ⊕ Empty)) with | Sum.inl v15 => (some (Out.norm ((addZ .i64 v15.1 1), (v15.2.1, (v15.2.2.1, (v15.2.2.2.1, (v15.2.2.2.2.1, (v15.2.2.2.2.2.1, ())))))))) | Sum.inr v16 => (some (Out.exit (Sum.inr (Empty.elim v16))))) | Out.ret v17 => (some (Out.ret v17))))))) else (some (Out.exit (Sum.inl ((ltZ v4.1 v4.2.1), (v4.1, (v4.2.1, (v4.2.2.1, (v4.2.2.2.1, (v4.2.2.2.2.1, (v4.2.2.2.2.2.1, ()))))))))))))
def spec_ViolatedRules (x : (D_Project × (D_Schedule × Unit))) (c : Unit) : (Option ((List D_Rule) × Unit)) :=
  (Option.bind ((Option.bind (spec_ScheduleForm (x.1, (x.2.1, ())) ()) fun v0 => (some v0.1)) : (Option Bool)) fun v1 => (if (notB v1) = true then (some ([], ())) else (Option.bind ((Option.bind (spec_l10Rules (x.1, ()) ()) fun v2 => (some v2.1)) : (Option (List D_Rule))) fun v3 => (Option.bind (loopN (A := (Int × (Int × ((List D_Rule) × (D_Project × (D_Schedule × ((List D_Rule) × Unit))))))) big spec_ViolatedRules_L0 (0, ((lenI v3), (v3, (x.1, (x.2.1, ([], ()))))))) fun v24 => (match v24 with | Out.norm v25 => none | Out.exit v26 => (match ((match v26 with | Sum.inl v29 => (Sum.inl (v29.2.2.2.2.2.2.1, ())) | Sum.inr v30 => (Empty.elim v30)) : (((List D_Rule) × Unit) ⊕ Empty)) with | Sum.inl v27 => (some (v27.1, ())) | Sum.inr v28 => none) | Out.ret v31 => (some v31))))))
def H_spec_ViolatedRules : Hd := ⟨[.st [.int .i64, .sl 118 (.st [.str, .int .i64, .sl 159 (.st [.int .i64, .sl 3 (.int .i64), .sl 3 (.int .i64)])]), .sl 121 (.st [.int .i64, .int .i64, .bool, .int .i64]), .sl 126 (.st [.sl 170 (.st [.int .i64, .int .i64]), .sl 25 (.sl 3 (.int .i64))]), .sl 3 (.int .i64)], .st [.sl 3 (.int .i64), .sl 3 (.int .i64)]], [], none, .p, .sl 155 (.st [.int .i64, .int .i64, .int .i64, .int .i64]), (Ty.all (.sl 155 (.st [.int .i64, .int .i64, .int .i64, .int .i64]))), []⟩
def T_spec_ViolatedRules : FSig := ⟨H_spec_ViolatedRules.ps, H_spec_ViolatedRules.cs, H_spec_ViolatedRules.io, H_spec_ViolatedRules.im, H_spec_ViolatedRules.R, H_spec_ViolatedRules.m, spec_ViolatedRules⟩
theorem E_spec_ViolatedRules : fnOf tys [(76, T_spec_ScheduleForm), (125, T_spec_l10Fails), (160, T_spec_l10Rules)] Tryz.f126 H_spec_ViolatedRules = T_spec_ViolatedRules := by kernel_rfl
theorem K_spec_ViolatedRules : SigOk Tryz.prog 126 T_spec_ViolatedRules := (congrArg (SigOk Tryz.prog 126) E_spec_ViolatedRules).mp (fnOf_ok rfl tysOk ⟨K_spec_ScheduleForm, K_spec_l10Fails, K_spec_l10Rules, trivial⟩ Tryz.func126 (by decide) rfl (fun _ h => by cases h) (nilEq_of (by kernel_rfl)))
def spec_ScheduleOk (x : (D_Project × (D_Schedule × Unit))) (c : Unit) : (Option (Bool × Unit)) :=
  (Option.bind ((Option.bind (spec_ScheduleForm (x.1, (x.2.1, ())) ()) fun v0 => (some v0.1)) : (Option Bool)) fun v1 => (Option.bind ((if v1 = true then (Option.bind ((Option.bind (spec_ViolatedRules (x.1, (x.2.1, ())) ()) fun v2 => (some v2.1)) : (Option (List D_Rule))) fun v3 => (some ((eqZ (lenI v3) 0), ()))) else (some (false, ()))) : (Option (Bool × Unit))) fun v4 => (some (v4.1, ()))))
def H_spec_ScheduleOk : Hd := ⟨[.st [.int .i64, .sl 118 (.st [.str, .int .i64, .sl 159 (.st [.int .i64, .sl 3 (.int .i64), .sl 3 (.int .i64)])]), .sl 121 (.st [.int .i64, .int .i64, .bool, .int .i64]), .sl 126 (.st [.sl 170 (.st [.int .i64, .int .i64]), .sl 25 (.sl 3 (.int .i64))]), .sl 3 (.int .i64)], .st [.sl 3 (.int .i64), .sl 3 (.int .i64)]], [], none, .p, .bool, .p, []⟩
def T_spec_ScheduleOk : FSig := ⟨H_spec_ScheduleOk.ps, H_spec_ScheduleOk.cs, H_spec_ScheduleOk.io, H_spec_ScheduleOk.im, H_spec_ScheduleOk.R, H_spec_ScheduleOk.m, spec_ScheduleOk⟩
theorem E_spec_ScheduleOk : fnOf tys [(76, T_spec_ScheduleForm), (126, T_spec_ViolatedRules)] Tryz.f74 H_spec_ScheduleOk = T_spec_ScheduleOk := by kernel_rfl
theorem K_spec_ScheduleOk : SigOk Tryz.prog 74 T_spec_ScheduleOk := (congrArg (SigOk Tryz.prog 74) E_spec_ScheduleOk).mp (fnOf_ok rfl tysOk ⟨K_spec_ScheduleForm, K_spec_ViolatedRules, trivial⟩ Tryz.func74 (by decide) rfl (fun _ h => by cases h) (nilEq_of (by kernel_rfl)))
def spec_l09Copy (x : (D_Schedule × Unit)) (c : Unit) : (Option (D_Schedule × Unit)) :=
  (Option.bind (addI [] x.1.1) fun v0 => (Option.bind (addI [] x.1.2.1) fun v1 => (some ((v0, (v1, ())), ()))))
def H_spec_l09Copy : Hd := ⟨[.st [.sl 3 (.int .i64), .sl 3 (.int .i64)]], [], none, .p, .st [.sl 3 (.int .i64), .sl 3 (.int .i64)], (Ty.all (.st [.sl 3 (.int .i64), .sl 3 (.int .i64)])), []⟩
def T_spec_l09Copy : FSig := ⟨H_spec_l09Copy.ps, H_spec_l09Copy.cs, H_spec_l09Copy.io, H_spec_l09Copy.im, H_spec_l09Copy.R, H_spec_l09Copy.m, spec_l09Copy⟩
theorem E_spec_l09Copy : fnOf tys [] Tryz.f75 H_spec_l09Copy = T_spec_l09Copy := by kernel_rfl
theorem K_spec_l09Copy : SigOk Tryz.prog 75 T_spec_l09Copy := (congrArg (SigOk Tryz.prog 75) E_spec_l09Copy).mp (fnOf_ok rfl tysOk trivial Tryz.func75 (by decide) rfl (fun _ h => by cases h) (nilEq_of (by kernel_rfl)))
def spec_AllSchedules_L0 : (Int × (Int × ((List (List Int)) × ((List Int) × (Int × (Int × ((List (List Int)) × ((List (List Int)) × (D_Project × ((List D_Schedule) × Unit)))))))))) → Option (Out (Int × (Int × ((List (List Int)) × ((List Int) × (Int × (Int × ((List (List Int)) × ((List (List Int)) × (D_Project × ((List D_Schedule) × Unit)))))))))) ((Bool × (Int × (Int × ((List (List Int)) × ((List Int) × (Int × (Int × ((List (List Int)) × ((List (List Int)) × (D_Project × ((List D_Schedule) × Unit))))))))))) ⊕ Empty) ((List D_Schedule) × Unit)) :=
  (fun v12 => (if (ltZ v12.1 v12.2.1) = true then (Option.bind (getI v12.2.2.1 v12.1) fun v13 => (Option.bind ((Option.bind (spec_l32Quick (v12.2.2.2.2.2.2.2.2.1, ((v13, (v12.2.2.2.1, ())), ())) ()) fun v14 => (some v14.1)) : (Option Bool)) fun v15 => (Option.bind ((if v15 = true then (Option.bind ((Option.bind (spec_ScheduleOk (v12.2.2.2.2.2.2.2.2.1, ((v13, (v12.2.2.2.1, ())), ())) ()) fun v16 => (some v16.1)) : (Option Bool)) fun v17 => (some (v17, ((v13, (v12.2.2.2.1, ())), (v12.1, (v12.2.1, (v12.2.2.1, (v12.2.2.2.1, (v12.2.2.2.2.1, (v12.2.2.2.2.2.1, (v12.2.2.2.2.2.2.1, (v12.2.2.2.2.2.2.2.1, (v12.2.2.2.2.2.2.2.2.1, (v12.2.2.2.2.2.2.2.2.2.1, ())))))))))))))) else (some (false, ((v13, (v12.2.2.2.1, ())), (v12.1, (v12.2.1, (v12.2.2.1, (v12.2.2.2.1, (v12.2.2.2.2.1, (v12.2.2.2.2.2.1, (v12.2.2.2.2.2.2.1, (v12.2.2.2.2.2.2.2.1, (v12.2.2.2.2.2.2.2.2.1, (v12.2.2.2.2.2.2.2.2.2.1, ())))))))))))))) : (Option (Bool × (D_Schedule × (Int × (Int × ((List (List Int)) × ((List Int) × (Int × (Int × ((List (List Int)) × ((List (List Int)) × (D_Project × ((List D_Schedule) × Unit)))))))))))))) fun v18 => (Option.bind ((if v18.1 = true then (Option.bind ((Option.bind (spec_l09Copy (v18.2.1, ()) ()) fun v19 => (some v19.1)) : (Option D_Schedule)) fun v20 => (Option.bind (addI v18.2.2.2.2.2.2.2.2.2.2.2.1 (v20 :: [])) fun v21 => (some (Out.norm (v18.2.2.1, (v18.2.2.2.1, (v18.2.2.2.2.1, (v18.2.2.2.2.2.1, (v18.2.2.2.2.2.2.1, (v18.2.2.2.2.2.2.2.1, (v18.2.2.2.2.2.2.2.2.1, (v18.2.2.2.2.2.2.2.2.2.1, (v18.2.2.2.2.2.2.2.2.2.2.1, (v21, ())))))))))))))) else (some (Out.norm (v18.2.2.1, (v18.2.2.2.1, (v18.2.2.2.2.1, (v18.2.2.2.2.2.1, (v18.2.2.2.2.2.2.1, (v18.2.2.2.2.2.2.2.1, (v18.2.2.2.2.2.2.2.2.1, (v18.2.2.2.2.2.2.2.2.2.1, (v18.2.2.2.2.2.2.2.2.2.2.1, (v18.2.2.2.2.2.2.2.2.2.2.2.1, ()))))))))))))) : (Option (Out (Int × (Int × ((List (List Int)) × ((List Int) × (Int × (Int × ((List (List Int)) × ((List (List Int)) × (D_Project × ((List D_Schedule) × Unit)))))))))) Empty ((List D_Schedule) × Unit)))) fun v22 => (match ((match ((match ((match v22 with | Out.norm v34 => (Out.norm v34) | Out.exit v35 => (Out.exit v35) | Out.ret v36 => (Out.ret v36)) : (Out (Int × (Int × ((List (List Int)) × ((List Int) × (Int × (Int × ((List (List Int)) × ((List (List Int)) × (D_Project × ((List D_Schedule) × Unit)))))))))) Empty ((List D_Schedule) × Unit))) with | Out.norm v31 => (Out.norm v31) | Out.exit v32 => (Out.exit v32) | Out.ret v33 => (Out.ret v33)) : (Out (Int × (Int × ((List (List Int)) × ((List Int) × (Int × (Int × ((List (List Int)) × ((List (List Int)) × (D_Project × ((List D_Schedule) × Unit)))))))))) Empty ((List D_Schedule) × Unit))) with | Out.norm v28 => (Out.norm v28) | Out.exit v29 => (Out.exit v29) | Out.ret v30 => (Out.ret v30)) : (Out (Int × (Int × ((List (List Int)) × ((List Int) × (Int × (Int × ((List (List Int)) × ((List (List Int)) × (D_Project × ((List D_Schedule) × Unit)))))))))) Empty ((List D_Schedule) × Unit))) with | Out.norm v23 => (some (Out.norm ((addZ .i64 v23.1 1), (v23.2.1, (v23.2.2.1, (v23.2.2.2.1, (v23.2.2.2.2.1, (v23.2.2.2.2.2.1, (v23.2.2.2.2.2.2.1, (v23.2.2.2.2.2.2.2.1, (v23.2.2.2.2.2.2.2.2.1, (v23.2.2.2.2.2.2.2.2.2.1, ())))))))))))) | Out.exit v24 => (match ((Empty.elim v24) : ((Int × (Int × ((List (List Int)) × ((List Int) × (Int × (Int × ((List (List Int)) × ((List (List Int)) × (D_Project × ((List D_Schedule) × Unit)))))))))) ⊕ Empty)) with | Sum.inl v25 => (some (Out.norm ((addZ .i64 v25.1 1), (v25.2.1, (v25.2.2.1, (v25.2.2.2.1, (v25.2.2.2.2.1, (v25.2.2.2.2.2.1, (v25.2.2.2.2.2.2.1, (v25.2.2.2.2.2.2.2.1, (v25.2.2.2.2.2.2.2.2.1, (v25.2.2.2.2.2.2.2.2.2.1, ())))))))))))) | Sum.inr v26 => (some (Out.exit (Sum.inr (Empty.elim v26))))) | Out.ret v27 => (some (Out.ret v27))))))) else (some (Out.exit (Sum.inl ((ltZ v12.1 v12.2.1), (v12.1, (v12.2.1, (v12.2.2.1, (v12.2.2.2.1, (v12.2.2.2.2.1, (v12.2.2.2.2.2.1, (v12.2.2.2.2.2.2.1, (v12.2.2.2.2.2.2.2.1, (v12.2.2.2.2.2.2.2.2.1, (v12.2.2.2.2.2.2.2.2.2.1, ()))))))))))))))))
def spec_AllSchedules_L1 : (Int × (Int × ((List (List Int)) × ((List (List Int)) × (D_Project × ((List D_Schedule) × Unit)))))) → Option (Out (Int × (Int × ((List (List Int)) × ((List (List Int)) × (D_Project × ((List D_Schedule) × Unit)))))) ((Bool × (Int × (Int × ((List (List Int)) × ((List (List Int)) × (D_Project × ((List D_Schedule) × Unit))))))) ⊕ Empty) ((List D_Schedule) × Unit)) :=
  (fun v10 => (if (ltZ v10.1 v10.2.1) = true then (Option.bind (getI v10.2.2.1 v10.1) fun v11 => (Option.bind (loopN (A := (Int × (Int × ((List (List Int)) × ((List Int) × (Int × (Int × ((List (List Int)) × ((List (List Int)) × (D_Project × ((List D_Schedule) × Unit))))))))))) big spec_AllSchedules_L0 (0, ((lenI v10.2.2.2.1), (v10.2.2.2.1, (v11, (v10.1, (v10.2.1, (v10.2.2.1, (v10.2.2.2.1, (v10.2.2.2.2.1, (v10.2.2.2.2.2.1, ()))))))))))) fun v37 => (match v37 with | Out.norm v38 => none | Out.exit v39 => (match ((match v39 with | Sum.inl v44 => (Sum.inl (v44.2.2.2.2.2.1, (v44.2.2.2.2.2.2.1, (v44.2.2.2.2.2.2.2.1, (v44.2.2.2.2.2.2.2.2.1, (v44.2.2.2.2.2.2.2.2.2.1, (v44.2.2.2.2.2.2.2.2.2.2.1, ()))))))) | Sum.inr v45 => (Empty.elim v45)) : ((Int × (Int × ((List (List Int)) × ((List (List Int)) × (D_Project × ((List D_Schedule) × Unit)))))) ⊕ Empty)) with | Sum.inl v40 => (some (Out.norm ((addZ .i64 v40.1 1), (v40.2.1, (v40.2.2.1, (v40.2.2.2.1, (v40.2.2.2.2.1, (v40.2.2.2.2.2.1, ())))))))) | Sum.inr v41 => (match ((Empty.elim v41) : ((Int × (Int × ((List (List Int)) × ((List (List Int)) × (D_Project × ((List D_Schedule) × Unit)))))) ⊕ Empty)) with | Sum.inl v42 => (some (Out.norm ((addZ .i64 v42.1 1), (v42.2.1, (v42.2.2.1, (v42.2.2.2.1, (v42.2.2.2.2.1, (v42.2.2.2.2.2.1, ())))))))) | Sum.inr v43 => (some (Out.exit (Sum.inr (Empty.elim v43)))))) | Out.ret v46 => (some (Out.ret v46))))) else (some (Out.exit (Sum.inl ((ltZ v10.1 v10.2.1), (v10.1, (v10.2.1, (v10.2.2.1, (v10.2.2.2.1, (v10.2.2.2.2.1, (v10.2.2.2.2.2.1, ()))))))))))))
def spec_AllSchedules (x : (D_Project × (Int × Unit))) (c : Unit) : (Option ((List D_Schedule) × Unit)) :=
  (Option.bind ((Option.bind (spec_ProjectOk (x.1, ()) ()) fun v0 => (some v0.1)) : (Option Bool)) fun v1 => (Option.bind ((if (notB v1) = true then (some (true, (x.2.1, (x.1, ([], ()))))) else (Option.bind ((if (ltZ 3 (lenI x.1.2.1)) = true then (some (true, (x.2.1, (x.1, ([], ()))))) else (Option.bind ((Option.bind (spec_l01In (x.2.1, (0, (12, ()))) ()) fun v2 => (some v2.1)) : (Option Bool)) fun v3 => (some ((notB v3), (x.2.1, (x.1, ([], ()))))))) : (Option (Bool × (Int × (D_Project × ((List D_Schedule) × Unit)))))) fun v4 => (some (v4.1, (v4.2.1, (v4.2.2.1, (v4.2.2.2.1, ()))))))) : (Option (Bool × (Int × (D_Project × ((List D_Schedule) × Unit)))))) fun v5 => (if v5.1 = true then (some ([], ())) else (Option.bind ((Option.bind (spec_l32Starts ((lenI v5.2.2.1.2.1), (v5.2.1, ())) ()) fun v6 => (some v6.1)) : (Option (List (List Int)))) fun v7 => (Option.bind ((Option.bind (spec_AllModeLists (v5.2.2.1, ()) ()) fun v8 => (some v8.1)) : (Option (List (List Int)))) fun v9 => (Option.bind (loopN (A := (Int × (Int × ((List (List Int)) × ((List (List Int)) × (D_Project × ((List D_Schedule) × Unit))))))) big spec_AllSchedules_L1 (0, ((lenI v9), (v9, (v7, (v5.2.2.1, (v5.2.2.2.1, ()))))))) fun v47 => (match v47 with | Out.norm v48 => none | Out.exit v49 => (match ((match v49 with | Sum.inl v52 => (Sum.inl (v52.2.2.2.2.2.2.1, ())) | Sum.inr v53 => (Empty.elim v53)) : (((List D_Schedule) × Unit) ⊕ Empty)) with | Sum.inl v50 => (some (v50.1, ())) | Sum.inr v51 => none) | Out.ret v54 => (some v54))))))))
def H_spec_AllSchedules : Hd := ⟨[.st [.int .i64, .sl 118 (.st [.str, .int .i64, .sl 159 (.st [.int .i64, .sl 3 (.int .i64), .sl 3 (.int .i64)])]), .sl 121 (.st [.int .i64, .int .i64, .bool, .int .i64]), .sl 126 (.st [.sl 170 (.st [.int .i64, .int .i64]), .sl 25 (.sl 3 (.int .i64))]), .sl 3 (.int .i64)], .int .i64], [], none, .p, .sl 30 (.st [.sl 3 (.int .i64), .sl 3 (.int .i64)]), (Ty.all (.sl 30 (.st [.sl 3 (.int .i64), .sl 3 (.int .i64)]))), []⟩
def T_spec_AllSchedules : FSig := ⟨H_spec_AllSchedules.ps, H_spec_AllSchedules.cs, H_spec_AllSchedules.io, H_spec_AllSchedules.im, H_spec_AllSchedules.R, H_spec_AllSchedules.m, spec_AllSchedules⟩
theorem E_spec_AllSchedules : fnOf tys [(69, T_spec_ProjectOk), (70, T_spec_l01In), (71, T_spec_l32Starts), (72, T_spec_AllModeLists), (73, T_spec_l32Quick), (74, T_spec_ScheduleOk), (75, T_spec_l09Copy)] Tryz.f29 H_spec_AllSchedules = T_spec_AllSchedules := by kernel_rfl
theorem K_spec_AllSchedules : SigOk Tryz.prog 29 T_spec_AllSchedules := (congrArg (SigOk Tryz.prog 29) E_spec_AllSchedules).mp (fnOf_ok rfl tysOk ⟨K_spec_ProjectOk, K_spec_l01In, K_spec_l32Starts, K_spec_AllModeLists, K_spec_l32Quick, K_spec_ScheduleOk, K_spec_l09Copy, trivial⟩ Tryz.func29 (by decide) rfl (fun _ h => by cases h) (nilEq_of (by kernel_rfl)))
def spec_l02Max (x : D_Step) (c : Unit) : (Option (Int × Unit)) :=
  (if (ltZ x.2.1 x.1) = true then (some (x.1, ())) else (some (x.2.1, ())))
def H_spec_l02Max : Hd := ⟨[.int .i64, .int .i64], [], none, .p, .int .i64, .p, []⟩
def T_spec_l02Max : FSig := ⟨H_spec_l02Max.ps, H_spec_l02Max.cs, H_spec_l02Max.io, H_spec_l02Max.im, H_spec_l02Max.R, H_spec_l02Max.m, spec_l02Max⟩
theorem E_spec_l02Max : fnOf tys [] Tryz.f77 H_spec_l02Max = T_spec_l02Max := by kernel_rfl
theorem K_spec_l02Max : SigOk Tryz.prog 77 T_spec_l02Max := (congrArg (SigOk Tryz.prog 77) E_spec_l02Max).mp (fnOf_ok rfl tysOk trivial Tryz.func77 (by decide) rfl (fun _ h => by cases h) (nilEq_of (by kernel_rfl)))
def spec_Makespan_L0 : (Int × (Int × (D_Project × (D_Schedule × (Int × Unit))))) → Option (Out (Int × (Int × (D_Project × (D_Schedule × (Int × Unit))))) ((Bool × (Int × (Int × (D_Project × (D_Schedule × (Int × Unit)))))) ⊕ Empty) (Int × Unit)) :=
  (fun v2 => (if (ltZ v2.1 v2.2.1) = true then (Option.bind ((Option.bind (spec_l09End (v2.2.2.1, (v2.2.2.2.1, (v2.1, ()))) ()) fun v3 => (some v3.1)) : (Option Int)) fun v4 => (Option.bind ((Option.bind (spec_l02Max (v2.2.2.2.2.1, (v4, ())) ()) fun v5 => (some v5.1)) : (Option Int)) fun v6 => (some (Out.norm ((addZ .i64 v2.1 1), (v2.2.1, (v2.2.2.1, (v2.2.2.2.1, (v6, ()))))))))) else (some (Out.exit (Sum.inl ((ltZ v2.1 v2.2.1), (v2.1, (v2.2.1, (v2.2.2.1, (v2.2.2.2.1, (v2.2.2.2.2.1, ())))))))))))
def spec_Makespan (x : (D_Project × (D_Schedule × Unit))) (c : Unit) : (Option (Int × Unit)) :=
  (Option.bind ((Option.bind (spec_ScheduleForm (x.1, (x.2.1, ())) ()) fun v0 => (some v0.1)) : (Option Bool)) fun v1 => (if (notB v1) = true then (some ((-1), ())) else (Option.bind (loopN (A := (Int × (Int × (D_Project × (D_Schedule × (Int × Unit)))))) big spec_Makespan_L0 (0, ((lenI x.1.2.1), (x.1, (x.2.1, ((-1), ())))))) fun v7 => (match v7 with | Out.norm v8 => none | Out.exit v9 => (match ((match v9 with | Sum.inl v12 => (Sum.inl (v12.2.2.2.2.2.1, ())) | Sum.inr v13 => (Empty.elim v13)) : ((Int × Unit) ⊕ Empty)) with | Sum.inl v10 => (some (v10.1, ())) | Sum.inr v11 => none) | Out.ret v14 => (some v14)))))
def H_spec_Makespan : Hd := ⟨[.st [.int .i64, .sl 118 (.st [.str, .int .i64, .sl 159 (.st [.int .i64, .sl 3 (.int .i64), .sl 3 (.int .i64)])]), .sl 121 (.st [.int .i64, .int .i64, .bool, .int .i64]), .sl 126 (.st [.sl 170 (.st [.int .i64, .int .i64]), .sl 25 (.sl 3 (.int .i64))]), .sl 3 (.int .i64)], .st [.sl 3 (.int .i64), .sl 3 (.int .i64)]], [], none, .p, .int .i64, .p, []⟩
def T_spec_Makespan : FSig := ⟨H_spec_Makespan.ps, H_spec_Makespan.cs, H_spec_Makespan.io, H_spec_Makespan.im, H_spec_Makespan.R, H_spec_Makespan.m, spec_Makespan⟩
theorem E_spec_Makespan : fnOf tys [(76, T_spec_ScheduleForm), (77, T_spec_l02Max), (78, T_spec_l09End)] Tryz.f30 H_spec_Makespan = T_spec_Makespan := by kernel_rfl
theorem K_spec_Makespan : SigOk Tryz.prog 30 T_spec_Makespan := (congrArg (SigOk Tryz.prog 30) E_spec_Makespan).mp (fnOf_ok rfl tysOk ⟨K_spec_ScheduleForm, K_spec_l02Max, K_spec_l09End, trivial⟩ Tryz.func30 (by decide) rfl (fun _ h => by cases h) (nilEq_of (by kernel_rfl)))
def spec_BestSchedule_L0 : (Int × (Int × ((List D_Schedule) × (D_Project × (D_Schedule × (D_Schedule × Unit)))))) → Option (Out (Int × (Int × ((List D_Schedule) × (D_Project × (D_Schedule × (D_Schedule × Unit)))))) ((Bool × (Int × (Int × ((List D_Schedule) × (D_Project × (D_Schedule × (D_Schedule × Unit))))))) ⊕ Empty) ((D_Schedule × (Bool × Unit)) × Unit)) :=
  (fun v3 => (if (ltZ v3.1 v3.2.1) = true then (Option.bind (getI v3.2.2.1 v3.1) fun v4 => (Option.bind ((Option.bind (spec_Makespan (v3.2.2.2.1, (v4, ())) ()) fun v5 => (some v5.1)) : (Option Int)) fun v6 => (Option.bind ((Option.bind (spec_Makespan (v3.2.2.2.1, (v3.2.2.2.2.1, ())) ()) fun v7 => (some v7.1)) : (Option Int)) fun v8 => (Option.bind ((if (ltZ v6 v8) = true then (some (Out.norm (v3.1, (v3.2.1, (v3.2.2.1, (v3.2.2.2.1, (v4, (v3.2.2.2.2.2.1, ())))))))) else (some (Out.norm (v3.1, (v3.2.1, (v3.2.2.1, (v3.2.2.2.1, (v3.2.2.2.2.1, (v3.2.2.2.2.2.1, ()))))))))) : (Option (Out (Int × (Int × ((List D_Schedule) × (D_Project × (D_Schedule × (D_Schedule × Unit)))))) Empty ((D_Schedule × (Bool × Unit)) × Unit)))) fun v9 => (match ((match ((match v9 with | Out.norm v18 => (Out.norm v18) | Out.exit v19 => (Out.exit v19) | Out.ret v20 => (Out.ret v20)) : (Out (Int × (Int × ((List D_Schedule) × (D_Project × (D_Schedule × (D_Schedule × Unit)))))) Empty ((D_Schedule × (Bool × Unit)) × Unit))) with | Out.norm v15 => (Out.norm v15) | Out.exit v16 => (Out.exit v16) | Out.ret v17 => (Out.ret v17)) : (Out (Int × (Int × ((List D_Schedule) × (D_Project × (D_Schedule × (D_Schedule × Unit)))))) Empty ((D_Schedule × (Bool × Unit)) × Unit))) with | Out.norm v10 => (some (Out.norm ((addZ .i64 v10.1 1), (v10.2.1, (v10.2.2.1, (v10.2.2.2.1, (v10.2.2.2.2.1, (v10.2.2.2.2.2.1, ())))))))) | Out.exit v11 => (match ((Empty.elim v11) : ((Int × (Int × ((List D_Schedule) × (D_Project × (D_Schedule × (D_Schedule × Unit)))))) ⊕ Empty)) with | Sum.inl v12 => (some (Out.norm ((addZ .i64 v12.1 1), (v12.2.1, (v12.2.2.1, (v12.2.2.2.1, (v12.2.2.2.2.1, (v12.2.2.2.2.2.1, ())))))))) | Sum.inr v13 => (some (Out.exit (Sum.inr (Empty.elim v13))))) | Out.ret v14 => (some (Out.ret v14))))))) else (some (Out.exit (Sum.inl ((ltZ v3.1 v3.2.1), (v3.1, (v3.2.1, (v3.2.2.1, (v3.2.2.2.1, (v3.2.2.2.2.1, (v3.2.2.2.2.2.1, ()))))))))))))
def spec_BestSchedule (x : (D_Project × (Int × Unit))) (c : Unit) : (Option ((D_Schedule × (Bool × Unit)) × Unit)) :=
  (Option.bind ((Option.bind (spec_AllSchedules (x.1, (x.2.1, ())) ()) fun v0 => (some v0.1)) : (Option (List D_Schedule))) fun v1 => (if (eqZ (lenI v1) 0) = true then (some ((([], ([], ())), (false, ())), ())) else (Option.bind (getI v1 0) fun v2 => (Option.bind (loopN (A := (Int × (Int × ((List D_Schedule) × (D_Project × (D_Schedule × (D_Schedule × Unit))))))) big spec_BestSchedule_L0 (0, ((lenI v1), (v1, (x.1, (v2, (([], ([], ())), ()))))))) fun v21 => (match v21 with | Out.norm v22 => none | Out.exit v23 => (match ((match v23 with | Sum.inl v26 => (Sum.inl (v26.2.2.2.2.2.1, (v26.2.2.2.2.2.2.1, ()))) | Sum.inr v27 => (Empty.elim v27)) : ((D_Schedule × (D_Schedule × Unit)) ⊕ Empty)) with | Sum.inl v24 => (some ((v24.1, (true, ())), ())) | Sum.inr v25 => none) | Out.ret v28 => (some v28))))))
def H_spec_BestSchedule : Hd := ⟨[.st [.int .i64, .sl 118 (.st [.str, .int .i64, .sl 159 (.st [.int .i64, .sl 3 (.int .i64), .sl 3 (.int .i64)])]), .sl 121 (.st [.int .i64, .int .i64, .bool, .int .i64]), .sl 126 (.st [.sl 170 (.st [.int .i64, .int .i64]), .sl 25 (.sl 3 (.int .i64))]), .sl 3 (.int .i64)], .int .i64], [], none, .p, .tup [.st [.sl 3 (.int .i64), .sl 3 (.int .i64)], .bool], .p, [(1000000006, .p)]⟩
def T_spec_BestSchedule : FSig := ⟨H_spec_BestSchedule.ps, H_spec_BestSchedule.cs, H_spec_BestSchedule.io, H_spec_BestSchedule.im, H_spec_BestSchedule.R, H_spec_BestSchedule.m, spec_BestSchedule⟩
theorem E_spec_BestSchedule : fnOf tys [(29, T_spec_AllSchedules), (30, T_spec_Makespan)] Tryz.f6 H_spec_BestSchedule = T_spec_BestSchedule := by kernel_rfl
theorem K_spec_BestSchedule : SigOk Tryz.prog 6 T_spec_BestSchedule := (congrArg (SigOk Tryz.prog 6) E_spec_BestSchedule).mp (fnOf_ok rfl tysOk ⟨K_spec_AllSchedules, K_spec_Makespan, trivial⟩ Tryz.func6 (by decide) rfl (fun _ h => by cases h) (nilEq_of (by kernel_rfl)))
end Go.Proofs.YtjgmjljdhgfdhaaGreat