/-
  The functions of this seat as plain Lean functions, and that the program computes them. No condition.
-/
import Derived.Test.YtdjajoebpdnhnaaGreatN36
import Derived.Test.YtdjajoebpdnhnaaGreatProg
import Derived.KernelRfl
namespace Go.Proofs.YtdjajoebpdnhnaaGreat
open Go.Abs
set_option linter.unusedVariables false
set_option maxRecDepth 100000
abbrev D_Mode : Type := (Int × ((List Int) × ((List Int) × Unit)))
abbrev D_Activity : Type := ((List UInt8) × (Int × ((List D_Mode) × Unit)))
abbrev D_Link : Type := (Int × (Int × (Bool × (Int × Unit))))
abbrev D_Step : Type := (Int × (Int × Unit))
abbrev D_Resource : Type := ((List D_Step) × ((List (List Int)) × Unit))
abbrev D_Project : Type := (Int × ((List D_Activity) × ((List D_Link) × ((List D_Resource) × ((List Int) × Unit)))))
abbrev D_Domain : Type := ((List Int) × ((List Int) × ((List (List Int)) × Unit)))
theorem tn3 : TnOk Tryz.prog 3 (.int .i64) := ⟨Tryz.underlying3, fun _ h => (by cases h), Tryz.t3, rfl, rfl, fun _ _ => rfl⟩
theorem tn4 : TnOk Tryz.prog 4 (.bool) := ⟨Tryz.underlying4, fun _ h => (by cases h), Tryz.t4, rfl, rfl, fun _ _ => rfl⟩
theorem tn5 : TnOk Tryz.prog 5 (.int .u8) := ⟨Tryz.underlying5, fun _ h => (by cases h), Tryz.t5, rfl, rfl, fun _ _ => rfl⟩
theorem tn9 : TnOk Tryz.prog 9 (.str) := ⟨Tryz.underlying9, fun _ h => (by cases h), Tryz.t9, rfl, rfl, fun _ _ => rfl⟩
theorem tn22 : TnOk Tryz.prog 22 (.sl 97 (.st [.str, .int .i64, .sl 153 (.st [.int .i64, .sl 3 (.int .i64), .sl 3 (.int .i64)])])) := ⟨⟨Tryz.underlying22, Tryz.t97, _, rfl, rfl, rfl, rfl, by decide, by decide, fun _ _ => rfl, fun k h => by cases h⟩, fun _ h => (by cases h), Tryz.t22, rfl, rfl, fun _ _ => rfl⟩
theorem tn23 : TnOk Tryz.prog 23 (.sl 111 (.st [.int .i64, .int .i64, .bool, .int .i64])) := ⟨⟨Tryz.underlying23, Tryz.t111, _, rfl, rfl, rfl, rfl, by decide, by decide, fun _ _ => rfl, fun k h => by cases h⟩, fun _ h => (by cases h), Tryz.t23, rfl, rfl, fun _ _ => rfl⟩
theorem tn24 : TnOk Tryz.prog 24 (.sl 101 (.st [.sl 160 (.st [.int .i64, .int .i64]), .sl 25 (.sl 3 (.int .i64))])) := ⟨⟨Tryz.underlying24, Tryz.t101, _, rfl, rfl, rfl, rfl, by decide, by decide, fun _ _ => rfl, fun k h => by cases h⟩, fun _ h => (by cases h), Tryz.t24, rfl, rfl, fun _ _ => rfl⟩
theorem tn25 : TnOk Tryz.prog 25 (.sl 3 (.int .i64)) := ⟨⟨Tryz.underlying25, Tryz.t3, _, rfl, rfl, rfl, rfl, by decide, by decide, fun _ _ => rfl, fun k h => by cases h; exact Tryz.underlying3⟩, fun _ h => (by cases h), Tryz.t25, rfl, rfl, fun _ _ => rfl⟩
theorem tn26 : TnOk Tryz.prog 26 (.st [.int .i64, .sl 97 (.st [.str, .int .i64, .sl 153 (.st [.int .i64, .sl 3 (.int .i64), .sl 3 (.int .i64)])]), .sl 111 (.st [.int .i64, .int .i64, .bool, .int .i64]), .sl 101 (.st [.sl 160 (.st [.int .i64, .int .i64]), .sl 25 (.sl 3 (.int .i64))]), .sl 3 (.int .i64)]) := ⟨⟨_, Tryz.underlying26, Tryz.eqGuardType26, Tryz.stoodInHeld26, rfl, fun j τ h => by
    cases j with
    | zero => cases h; exact ⟨_, _, rfl, rfl, by decide, by decide, Tryz.underlying3, rfl, fun us h => by cases h⟩
    | succ j =>
     cases j with
     | zero => cases h; exact ⟨_, _, rfl, rfl, by decide, by decide, Tryz.underlying22, rfl, fun us h => by cases h⟩
     | succ j =>
      cases j with
      | zero => cases h; exact ⟨_, _, rfl, rfl, by decide, by decide, Tryz.underlying23, rfl, fun us h => by cases h⟩
      | succ j =>
       cases j with
       | zero => cases h; exact ⟨_, _, rfl, rfl, by decide, by decide, Tryz.underlying24, rfl, fun us h => by cases h⟩
       | succ j =>
        cases j with
        | zero => cases h; exact ⟨_, _, rfl, rfl, by decide, by decide, Tryz.underlying25, rfl, fun us h => by cases h⟩
        | succ j =>
         cases h⟩, (fun us hus fs hfs j τ h f hf => by
    cases hus
    rw [Tryz.underlying26] at hfs
    cases hfs
    cases j with
    | zero => cases h; cases hf; exact ⟨fun k e => by cases e; exact Tryz.underlying3, fun e => (by cases e), fun e => (by cases e)⟩
    | succ j =>
     cases j with
     | zero => cases h; cases hf; exact ⟨fun k e => (by cases e), fun e => (by cases e), fun e => (by cases e)⟩
     | succ j =>
      cases j with
      | zero => cases h; cases hf; exact ⟨fun k e => (by cases e), fun e => (by cases e), fun e => (by cases e)⟩
      | succ j =>
       cases j with
       | zero => cases h; cases hf; exact ⟨fun k e => (by cases e), fun e => (by cases e), fun e => (by cases e)⟩
       | succ j =>
        cases j with
        | zero => cases h; cases hf; exact ⟨fun k e => (by cases e), fun e => (by cases e), fun e => (by cases e)⟩
        | succ j =>
         cases h), Tryz.t26, rfl, rfl, fun _ _ => rfl⟩
theorem tn27 : TnOk Tryz.prog 27 (.st [.int .i64, .sl 97 (.st [.str, .int .i64, .sl 153 (.st [.int .i64, .sl 3 (.int .i64), .sl 3 (.int .i64)])]), .sl 111 (.st [.int .i64, .int .i64, .bool, .int .i64]), .sl 101 (.st [.sl 160 (.st [.int .i64, .int .i64]), .sl 25 (.sl 3 (.int .i64))]), .sl 3 (.int .i64)]) := ⟨⟨_, Tryz.underlying27, Tryz.eqGuardType27, Tryz.stoodInHeld27, rfl, fun j τ h => by
    cases j with
    | zero => cases h; exact ⟨_, _, rfl, rfl, by decide, by decide, Tryz.underlying3, rfl, fun us h => by cases h⟩
    | succ j =>
     cases j with
     | zero => cases h; exact ⟨_, _, rfl, rfl, by decide, by decide, Tryz.underlying22, rfl, fun us h => by cases h⟩
     | succ j =>
      cases j with
      | zero => cases h; exact ⟨_, _, rfl, rfl, by decide, by decide, Tryz.underlying23, rfl, fun us h => by cases h⟩
      | succ j =>
       cases j with
       | zero => cases h; exact ⟨_, _, rfl, rfl, by decide, by decide, Tryz.underlying24, rfl, fun us h => by cases h⟩
       | succ j =>
        cases j with
        | zero => cases h; exact ⟨_, _, rfl, rfl, by decide, by decide, Tryz.underlying25, rfl, fun us h => by cases h⟩
        | succ j =>
         cases h⟩, (fun us hus fs hfs j τ h f hf => by
    cases hus
    rw [Tryz.underlying27] at hfs
    cases hfs
    cases j with
    | zero => cases h; cases hf; exact ⟨fun k e => by cases e; exact Tryz.underlying3, fun e => (by cases e), fun e => (by cases e)⟩
    | succ j =>
     cases j with
     | zero => cases h; cases hf; exact ⟨fun k e => (by cases e), fun e => (by cases e), fun e => (by cases e)⟩
     | succ j =>
      cases j with
      | zero => cases h; cases hf; exact ⟨fun k e => (by cases e), fun e => (by cases e), fun e => (by cases e)⟩
      | succ j =>
       cases j with
       | zero => cases h; cases hf; exact ⟨fun k e => (by cases e), fun e => (by cases e), fun e => (by cases e)⟩
       | succ j =>
        cases j with
        | zero => cases h; cases hf; exact ⟨fun k e => (by cases e), fun e => (by cases e), fun e => (by cases e)⟩
        | succ j =>
         cases h), Tryz.t27, rfl, rfl, fun _ _ => rfl⟩
theorem tn28 : TnOk Tryz.prog 28 (.sl 25 (.sl 3 (.int .i64))) := ⟨⟨Tryz.underlying28, Tryz.t25, _, rfl, rfl, rfl, rfl, by decide, by decide, fun _ _ => rfl, fun k h => by cases h⟩, fun _ h => (by cases h), Tryz.t28, rfl, rfl, fun _ _ => rfl⟩
theorem tn29 : TnOk Tryz.prog 29 (.st [.sl 3 (.int .i64), .sl 3 (.int .i64), .sl 25 (.sl 3 (.int .i64))]) := ⟨⟨_, Tryz.underlying29, Tryz.eqGuardType29, Tryz.stoodInHeld29, rfl, fun j τ h => by
    cases j with
    | zero => cases h; exact ⟨_, _, rfl, rfl, by decide, by decide, Tryz.underlying25, rfl, fun us h => by cases h⟩
    | succ j =>
     cases j with
     | zero => cases h; exact ⟨_, _, rfl, rfl, by decide, by decide, Tryz.underlying25, rfl, fun us h => by cases h⟩
     | succ j =>
      cases j with
      | zero => cases h; exact ⟨_, _, rfl, rfl, by decide, by decide, Tryz.underlying28, rfl, fun us h => by cases h⟩
      | succ j =>
       cases h⟩, (fun us hus fs hfs j τ h f hf => by
    cases hus
    rw [Tryz.underlying29] at hfs
    cases hfs
    cases j with
    | zero => cases h; cases hf; exact ⟨fun k e => (by cases e), fun e => (by cases e), fun e => (by cases e)⟩
    | succ j =>
     cases j with
     | zero => cases h; cases hf; exact ⟨fun k e => (by cases e), fun e => (by cases e), fun e => (by cases e)⟩
     | succ j =>
      cases j with
      | zero => cases h; cases hf; exact ⟨fun k e => (by cases e), fun e => (by cases e), fun e => (by cases e)⟩
      | succ j =>
       cases h), Tryz.t29, rfl, rfl, fun _ _ => rfl⟩
theorem tn30 : TnOk Tryz.prog 30 (.st [.sl 3 (.int .i64), .sl 3 (.int .i64), .sl 25 (.sl 3 (.int .i64))]) := ⟨⟨_, Tryz.underlying30, Tryz.eqGuardType30, Tryz.stoodInHeld30, rfl, fun j τ h => by
    cases j with
    | zero => cases h; exact ⟨_, _, rfl, rfl, by decide, by decide, Tryz.underlying25, rfl, fun us h => by cases h⟩
    | succ j =>
     cases j with
     | zero => cases h; exact ⟨_, _, rfl, rfl, by decide, by decide, Tryz.underlying25, rfl, fun us h => by cases h⟩
     | succ j =>
      cases j with
      | zero => cases h; exact ⟨_, _, rfl, rfl, by decide, by decide, Tryz.underlying28, rfl, fun us h => by cases h⟩
      | succ j =>
       cases h⟩, (fun us hus fs hfs j τ h f hf => by
    cases hus
    rw [Tryz.underlying30] at hfs
    cases hfs
    cases j with
    | zero => cases h; cases hf; exact ⟨fun k e => (by cases e), fun e => (by cases e), fun e => (by cases e)⟩
    | succ j =>
     cases j with
     | zero => cases h; cases hf; exact ⟨fun k e => (by cases e), fun e => (by cases e), fun e => (by cases e)⟩
     | succ j =>
      cases j with
      | zero => cases h; cases hf; exact ⟨fun k e => (by cases e), fun e => (by cases e), fun e => (by cases e)⟩
      | succ j =>
       cases h), Tryz.t30, rfl, rfl, fun _ _ => rfl⟩
theorem tn31 : TnOk Tryz.prog 31 (.fn [.st [.int .i64, .sl 97 (.st [.str, .int .i64, .sl 153 (.st [.int .i64, .sl 3 (.int .i64), .sl 3 (.int .i64)])]), .sl 111 (.st [.int .i64, .int .i64, .bool, .int .i64]), .sl 101 (.st [.sl 160 (.st [.int .i64, .int .i64]), .sl 25 (.sl 3 (.int .i64))]), .sl 3 (.int .i64)], .int .i64] (.int .i64)) := ⟨⟨_, _, _, Tryz.underlying31⟩, fun _ h => (by cases h), Tryz.t31, rfl, rfl, fun _ h => by cases h⟩
theorem tn32 : TnOk Tryz.prog 32 (.fn [.st [.sl 3 (.int .i64), .sl 3 (.int .i64), .sl 25 (.sl 3 (.int .i64))], .int .i64] (.int .i64)) := ⟨⟨_, _, _, Tryz.underlying32⟩, fun _ h => (by cases h), Tryz.t32, rfl, rfl, fun _ h => by cases h⟩
theorem tn33 : TnOk Tryz.prog 33 (.fn [.st [.int .i64, .sl 74 (.st [.str, .int .i64, .sl 105 (.st [.int .i64, .sl 3 (.int .i64), .sl 3 (.int .i64)])]), .sl 109 (.st [.int .i64, .int .i64, .bool, .int .i64]), .sl 114 (.st [.sl 149 (.st [.int .i64, .int .i64]), .sl 25 (.sl 3 (.int .i64))]), .sl 3 (.int .i64)], .st [.sl 3 (.int .i64), .sl 3 (.int .i64), .sl 25 (.sl 3 (.int .i64))], .int .i64] (.str)) := ⟨⟨_, _, _, Tryz.underlying33⟩, fun _ h => (by cases h), Tryz.t33, rfl, rfl, fun _ h => by cases h⟩
theorem tn34 : TnOk Tryz.prog 34 (.sl 74 (.st [.str, .int .i64, .sl 105 (.st [.int .i64, .sl 3 (.int .i64), .sl 3 (.int .i64)])])) := ⟨⟨Tryz.underlying34, Tryz.t74, _, rfl, rfl, rfl, rfl, by decide, by decide, fun _ _ => rfl, fun k h => by cases h⟩, fun _ h => (by cases h), Tryz.t34, rfl, rfl, fun _ _ => rfl⟩
theorem tn35 : TnOk Tryz.prog 35 (.sl 109 (.st [.int .i64, .int .i64, .bool, .int .i64])) := ⟨⟨Tryz.underlying35, Tryz.t109, _, rfl, rfl, rfl, rfl, by decide, by decide, fun _ _ => rfl, fun k h => by cases h⟩, fun _ h => (by cases h), Tryz.t35, rfl, rfl, fun _ _ => rfl⟩
theorem tn36 : TnOk Tryz.prog 36 (.sl 114 (.st [.sl 149 (.st [.int .i64, .int .i64]), .sl 25 (.sl 3 (.int .i64))])) := ⟨⟨Tryz.underlying36, Tryz.t114, _, rfl, rfl, rfl, rfl, by decide, by decide, fun _ _ => rfl, fun k h => by cases h⟩, fun _ h => (by cases h), Tryz.t36, rfl, rfl, fun _ _ => rfl⟩
theorem tn37 : TnOk Tryz.prog 37 (.st [.int .i64, .sl 74 (.st [.str, .int .i64, .sl 105 (.st [.int .i64, .sl 3 (.int .i64), .sl 3 (.int .i64)])]), .sl 109 (.st [.int .i64, .int .i64, .bool, .int .i64]), .sl 114 (.st [.sl 149 (.st [.int .i64, .int .i64]), .sl 25 (.sl 3 (.int .i64))]), .sl 3 (.int .i64)]) := ⟨⟨_, Tryz.underlying37, Tryz.eqGuardType37, Tryz.stoodInHeld37, rfl, fun j τ h => by
    cases j with
    | zero => cases h; exact ⟨_, _, rfl, rfl, by decide, by decide, Tryz.underlying3, rfl, fun us h => by cases h⟩
    | succ j =>
     cases j with
     | zero => cases h; exact ⟨_, _, rfl, rfl, by decide, by decide, Tryz.underlying34, rfl, fun us h => by cases h⟩
     | succ j =>
      cases j with
      | zero => cases h; exact ⟨_, _, rfl, rfl, by decide, by decide, Tryz.underlying35, rfl, fun us h => by cases h⟩
      | succ j =>
       cases j with
       | zero => cases h; exact ⟨_, _, rfl, rfl, by decide, by decide, Tryz.underlying36, rfl, fun us h => by cases h⟩
       | succ j =>
        cases j with
        | zero => cases h; exact ⟨_, _, rfl, rfl, by decide, by decide, Tryz.underlying25, rfl, fun us h => by cases h⟩
        | succ j =>
         cases h⟩, (fun us hus fs hfs j τ h f hf => by
    cases hus
    rw [Tryz.underlying37] at hfs
    cases hfs
    cases j with
    | zero => cases h; cases hf; exact ⟨fun k e => by cases e; exact Tryz.underlying3, fun e => (by cases e), fun e => (by cases e)⟩
    | succ j =>
     cases j with
     | zero => cases h; cases hf; exact ⟨fun k e => (by cases e), fun e => (by cases e), fun e => (by cases e)⟩
     | succ j =>
      cases j with
      | zero => cases h; cases hf; exact ⟨fun k e => (by cases e), fun e => (by cases e), fun e => (by cases e)⟩
      | succ j =>
       cases j with
       | zero => cases h; cases hf; exact ⟨fun k e => (by cases e), fun e => (by cases e), fun e => (by cases e)⟩
       | succ j =>
        cases j with
        | zero => cases h; cases hf; exact ⟨fun k e => (by cases e), fun e => (by cases e), fun e => (by cases e)⟩
        | succ j =>
         cases h), Tryz.t37, rfl, rfl, fun _ _ => rfl⟩
theorem tn38 : TnOk Tryz.prog 38 (.st [.int .i64, .sl 74 (.st [.str, .int .i64, .sl 105 (.st [.int .i64, .sl 3 (.int .i64), .sl 3 (.int .i64)])]), .sl 109 (.st [.int .i64, .int .i64, .bool, .int .i64]), .sl 114 (.st [.sl 149 (.st [.int .i64, .int .i64]), .sl 25 (.sl 3 (.int .i64))]), .sl 3 (.int .i64)]) := ⟨⟨_, Tryz.underlying38, Tryz.eqGuardType38, Tryz.stoodInHeld38, rfl, fun j τ h => by
    cases j with
    | zero => cases h; exact ⟨_, _, rfl, rfl, by decide, by decide, Tryz.underlying3, rfl, fun us h => by cases h⟩
    | succ j =>
     cases j with
     | zero => cases h; exact ⟨_, _, rfl, rfl, by decide, by decide, Tryz.underlying34, rfl, fun us h => by cases h⟩
     | succ j =>
      cases j with
      | zero => cases h; exact ⟨_, _, rfl, rfl, by decide, by decide, Tryz.underlying35, rfl, fun us h => by cases h⟩
      | succ j =>
       cases j with
       | zero => cases h; exact ⟨_, _, rfl, rfl, by decide, by decide, Tryz.underlying36, rfl, fun us h => by cases h⟩
       | succ j =>
        cases j with
        | zero => cases h; exact ⟨_, _, rfl, rfl, by decide, by decide, Tryz.underlying25, rfl, fun us h => by cases h⟩
        | succ j =>
         cases h⟩, (fun us hus fs hfs j τ h f hf => by
    cases hus
    rw [Tryz.underlying38] at hfs
    cases hfs
    cases j with
    | zero => cases h; cases hf; exact ⟨fun k e => by cases e; exact Tryz.underlying3, fun e => (by cases e), fun e => (by cases e)⟩
    | succ j =>
     cases j with
     | zero => cases h; cases hf; exact ⟨fun k e => (by cases e), fun e => (by cases e), fun e => (by cases e)⟩
     | succ j =>
      cases j with
      | zero => cases h; cases hf; exact ⟨fun k e => (by cases e), fun e => (by cases e), fun e => (by cases e)⟩
      | succ j =>
       cases j with
       | zero => cases h; cases hf; exact ⟨fun k e => (by cases e), fun e => (by cases e), fun e => (by cases e)⟩
       | succ j =>
        cases j with
        | zero => cases h; cases hf; exact ⟨fun k e => (by cases e), fun e => (by cases e), fun e => (by cases e)⟩
        | succ j =>
         cases h), Tryz.t38, rfl, rfl, fun _ _ => rfl⟩
theorem tn39 : TnOk Tryz.prog 39 (.fn [.st [.int .i64, .sl 97 (.st [.str, .int .i64, .sl 153 (.st [.int .i64, .sl 3 (.int .i64), .sl 3 (.int .i64)])]), .sl 111 (.st [.int .i64, .int .i64, .bool, .int .i64]), .sl 101 (.st [.sl 160 (.st [.int .i64, .int .i64]), .sl 25 (.sl 3 (.int .i64))]), .sl 3 (.int .i64)]] (.st [.int .i64, .sl 74 (.st [.str, .int .i64, .sl 105 (.st [.int .i64, .sl 3 (.int .i64), .sl 3 (.int .i64)])]), .sl 109 (.st [.int .i64, .int .i64, .bool, .int .i64]), .sl 114 (.st [.sl 149 (.st [.int .i64, .int .i64]), .sl 25 (.sl 3 (.int .i64))]), .sl 3 (.int .i64)])) := ⟨⟨_, _, _, Tryz.underlying39⟩, fun _ h => (by cases h), Tryz.t39, rfl, rfl, fun _ h => by cases h⟩
theorem tn40 : TnOk Tryz.prog 40 (.st [.sl 3 (.int .i64), .sl 3 (.int .i64), .sl 25 (.sl 3 (.int .i64))]) := ⟨⟨_, Tryz.underlying40, Tryz.eqGuardType40, Tryz.stoodInHeld40, rfl, fun j τ h => by
    cases j with
    | zero => cases h; exact ⟨_, _, rfl, rfl, by decide, by decide, Tryz.underlying25, rfl, fun us h => by cases h⟩
    | succ j =>
     cases j with
     | zero => cases h; exact ⟨_, _, rfl, rfl, by decide, by decide, Tryz.underlying25, rfl, fun us h => by cases h⟩
     | succ j =>
      cases j with
      | zero => cases h; exact ⟨_, _, rfl, rfl, by decide, by decide, Tryz.underlying28, rfl, fun us h => by cases h⟩
      | succ j =>
       cases h⟩, (fun us hus fs hfs j τ h f hf => by
    cases hus
    rw [Tryz.underlying40] at hfs
    cases hfs
    cases j with
    | zero => cases h; cases hf; exact ⟨fun k e => (by cases e), fun e => (by cases e), fun e => (by cases e)⟩
    | succ j =>
     cases j with
     | zero => cases h; cases hf; exact ⟨fun k e => (by cases e), fun e => (by cases e), fun e => (by cases e)⟩
     | succ j =>
      cases j with
      | zero => cases h; cases hf; exact ⟨fun k e => (by cases e), fun e => (by cases e), fun e => (by cases e)⟩
      | succ j =>
       cases h), Tryz.t40, rfl, rfl, fun _ _ => rfl⟩
theorem tn41 : TnOk Tryz.prog 41 (.fn [.st [.sl 3 (.int .i64), .sl 3 (.int .i64), .sl 25 (.sl 3 (.int .i64))]] (.st [.sl 3 (.int .i64), .sl 3 (.int .i64), .sl 25 (.sl 3 (.int .i64))])) := ⟨⟨_, _, _, Tryz.underlying41⟩, fun _ h => (by cases h), Tryz.t41, rfl, rfl, fun _ h => by cases h⟩
theorem tn42 : TnOk Tryz.prog 42 (.fn [.st [.int .i64, .sl 74 (.st [.str, .int .i64, .sl 105 (.st [.int .i64, .sl 3 (.int .i64), .sl 3 (.int .i64)])]), .sl 109 (.st [.int .i64, .int .i64, .bool, .int .i64]), .sl 114 (.st [.sl 149 (.st [.int .i64, .int .i64]), .sl 25 (.sl 3 (.int .i64))]), .sl 3 (.int .i64)], .st [.int .i64, .sl 74 (.st [.str, .int .i64, .sl 105 (.st [.int .i64, .sl 3 (.int .i64), .sl 3 (.int .i64)])]), .sl 109 (.st [.int .i64, .int .i64, .bool, .int .i64]), .sl 114 (.st [.sl 149 (.st [.int .i64, .int .i64]), .sl 25 (.sl 3 (.int .i64))]), .sl 3 (.int .i64)]] (.bool)) := ⟨⟨_, _, _, Tryz.underlying42⟩, fun _ h => (by cases h), Tryz.t42, rfl, rfl, fun _ h => by cases h⟩
theorem tn43 : TnOk Tryz.prog 43 (.fn [.st [.sl 3 (.int .i64), .sl 3 (.int .i64), .sl 25 (.sl 3 (.int .i64))], .st [.sl 3 (.int .i64), .sl 3 (.int .i64), .sl 25 (.sl 3 (.int .i64))]] (.bool)) := ⟨⟨_, _, _, Tryz.underlying43⟩, fun _ h => (by cases h), Tryz.t43, rfl, rfl, fun _ h => by cases h⟩
theorem tn44 : TnOk Tryz.prog 44 (.fn [.st [.int .i64, .sl 97 (.st [.str, .int .i64, .sl 153 (.st [.int .i64, .sl 3 (.int .i64), .sl 3 (.int .i64)])]), .sl 111 (.st [.int .i64, .int .i64, .bool, .int .i64]), .sl 101 (.st [.sl 160 (.st [.int .i64, .int .i64]), .sl 25 (.sl 3 (.int .i64))]), .sl 3 (.int .i64)], .st [.sl 3 (.int .i64), .sl 3 (.int .i64), .sl 25 (.sl 3 (.int .i64))], .int .i64] (.bool)) := ⟨⟨_, _, _, Tryz.underlying44⟩, fun _ h => (by cases h), Tryz.t44, rfl, rfl, fun _ h => by cases h⟩
theorem tn56 : TnOk Tryz.prog 56 (.fn [.sl 3 (.int .i64), .sl 3 (.int .i64)] (.bool)) := ⟨⟨_, _, _, Tryz.underlying56⟩, fun _ h => (by cases h), Tryz.t56, rfl, rfl, fun _ h => by cases h⟩
theorem tn59 : TnOk Tryz.prog 59 (.fn [.sl 3 (.int .i64), .int .i64] (.int .i64)) := ⟨⟨_, _, _, Tryz.underlying59⟩, fun _ h => (by cases h), Tryz.t59, rfl, rfl, fun _ h => by cases h⟩
theorem tn63 : TnOk Tryz.prog 63 (.fn [.sl 97 (.st [.str, .int .i64, .sl 153 (.st [.int .i64, .sl 3 (.int .i64), .sl 3 (.int .i64)])]), .int .i64] (.int .i64)) := ⟨⟨_, _, _, Tryz.underlying63⟩, fun _ h => (by cases h), Tryz.t63, rfl, rfl, fun _ h => by cases h⟩
theorem tn64 : TnOk Tryz.prog 64 (.fn [.sl 111 (.st [.int .i64, .int .i64, .bool, .int .i64]), .int .i64] (.int .i64)) := ⟨⟨_, _, _, Tryz.underlying64⟩, fun _ h => (by cases h), Tryz.t64, rfl, rfl, fun _ h => by cases h⟩
theorem tn65 : TnOk Tryz.prog 65 (.fn [.sl 101 (.st [.sl 160 (.st [.int .i64, .int .i64]), .sl 25 (.sl 3 (.int .i64))]), .int .i64] (.int .i64)) := ⟨⟨_, _, _, Tryz.underlying65⟩, fun _ h => (by cases h), Tryz.t65, rfl, rfl, fun _ h => by cases h⟩
theorem tn66 : TnOk Tryz.prog 66 (.fn [.sl 25 (.sl 3 (.int .i64)), .int .i64] (.int .i64)) := ⟨⟨_, _, _, Tryz.underlying66⟩, fun _ h => (by cases h), Tryz.t66, rfl, rfl, fun _ h => by cases h⟩
theorem tn67 : TnOk Tryz.prog 67 (.fn [.st [.int .i64, .sl 74 (.st [.str, .int .i64, .sl 105 (.st [.int .i64, .sl 3 (.int .i64), .sl 3 (.int .i64)])]), .sl 109 (.st [.int .i64, .int .i64, .bool, .int .i64]), .sl 114 (.st [.sl 149 (.st [.int .i64, .int .i64]), .sl 25 (.sl 3 (.int .i64))]), .sl 3 (.int .i64)], .st [.sl 3 (.int .i64), .sl 3 (.int .i64), .sl 25 (.sl 3 (.int .i64))]] (.bool)) := ⟨⟨_, _, _, Tryz.underlying67⟩, fun _ h => (by cases h), Tryz.t67, rfl, rfl, fun _ h => by cases h⟩
theorem tn68 : TnOk Tryz.prog 68 (.fn [.int .i64, .int .i64, .int .i64] (.bool)) := ⟨⟨_, _, _, Tryz.underlying68⟩, fun _ h => (by cases h), Tryz.t68, rfl, rfl, fun _ h => by cases h⟩
theorem tn70 : TnOk Tryz.prog 70 (.fn [.st [.int .i64, .sl 74 (.st [.str, .int .i64, .sl 105 (.st [.int .i64, .sl 3 (.int .i64), .sl 3 (.int .i64)])]), .sl 109 (.st [.int .i64, .int .i64, .bool, .int .i64]), .sl 114 (.st [.sl 149 (.st [.int .i64, .int .i64]), .sl 25 (.sl 3 (.int .i64))]), .sl 3 (.int .i64)], .st [.sl 3 (.int .i64), .sl 3 (.int .i64), .sl 25 (.sl 3 (.int .i64))], .int .i64] (.tup [.int .i64, .int .i64, .bool])) := ⟨⟨_, _, _, Tryz.underlying70⟩, fun _ h => (by cases h), Tryz.t70, rfl, rfl, fun _ h => by cases h⟩
theorem tn71 : TnOk Tryz.prog 71 (.fn [.st [.str, .int .i64, .sl 105 (.st [.int .i64, .sl 3 (.int .i64), .sl 3 (.int .i64)])], .sl 3 (.int .i64)] (.int .i64)) := ⟨⟨_, _, _, Tryz.underlying71⟩, fun _ h => (by cases h), Tryz.t71, rfl, rfl, fun _ h => by cases h⟩
theorem tn72 : TnOk Tryz.prog 72 (.sl 105 (.st [.int .i64, .sl 3 (.int .i64), .sl 3 (.int .i64)])) := ⟨⟨Tryz.underlying72, Tryz.t105, _, rfl, rfl, rfl, rfl, by decide, by decide, fun _ _ => rfl, fun k h => by cases h⟩, fun _ h => (by cases h), Tryz.t72, rfl, rfl, fun _ _ => rfl⟩
theorem tn73 : TnOk Tryz.prog 73 (.st [.str, .int .i64, .sl 105 (.st [.int .i64, .sl 3 (.int .i64), .sl 3 (.int .i64)])]) := ⟨⟨_, Tryz.underlying73, Tryz.eqGuardType73, Tryz.stoodInHeld73, rfl, fun j τ h => by
    cases j with
    | zero => cases h; exact ⟨_, _, rfl, rfl, by decide, by decide, Tryz.underlying9, rfl, fun us h => by cases h⟩
    | succ j =>
     cases j with
     | zero => cases h; exact ⟨_, _, rfl, rfl, by decide, by decide, Tryz.underlying3, rfl, fun us h => by cases h⟩
     | succ j =>
      cases j with
      | zero => cases h; exact ⟨_, _, rfl, rfl, by decide, by decide, Tryz.underlying72, rfl, fun us h => by cases h⟩
      | succ j =>
       cases h⟩, (fun us hus fs hfs j τ h f hf => by
    cases hus
    rw [Tryz.underlying73] at hfs
    cases hfs
    cases j with
    | zero => cases h; cases hf; exact ⟨fun k e => (by cases e), fun e => (by cases e), fun _ => Tryz.underlying9⟩
    | succ j =>
     cases j with
     | zero => cases h; cases hf; exact ⟨fun k e => by cases e; exact Tryz.underlying3, fun e => (by cases e), fun e => (by cases e)⟩
     | succ j =>
      cases j with
      | zero => cases h; cases hf; exact ⟨fun k e => (by cases e), fun e => (by cases e), fun e => (by cases e)⟩
      | succ j =>
       cases h), Tryz.t73, rfl, rfl, fun _ _ => rfl⟩
theorem tn74 : TnOk Tryz.prog 74 (.st [.str, .int .i64, .sl 105 (.st [.int .i64, .sl 3 (.int .i64), .sl 3 (.int .i64)])]) := ⟨⟨_, Tryz.underlying74, Tryz.eqGuardType74, Tryz.stoodInHeld74, rfl, fun j τ h => by
    cases j with
    | zero => cases h; exact ⟨_, _, rfl, rfl, by decide, by decide, Tryz.underlying9, rfl, fun us h => by cases h⟩
    | succ j =>
     cases j with
     | zero => cases h; exact ⟨_, _, rfl, rfl, by decide, by decide, Tryz.underlying3, rfl, fun us h => by cases h⟩
     | succ j =>
      cases j with
      | zero => cases h; exact ⟨_, _, rfl, rfl, by decide, by decide, Tryz.underlying72, rfl, fun us h => by cases h⟩
      | succ j =>
       cases h⟩, (fun us hus fs hfs j τ h f hf => by
    cases hus
    rw [Tryz.underlying74] at hfs
    cases hfs
    cases j with
    | zero => cases h; cases hf; exact ⟨fun k e => (by cases e), fun e => (by cases e), fun _ => Tryz.underlying9⟩
    | succ j =>
     cases j with
     | zero => cases h; cases hf; exact ⟨fun k e => by cases e; exact Tryz.underlying3, fun e => (by cases e), fun e => (by cases e)⟩
     | succ j =>
      cases j with
      | zero => cases h; cases hf; exact ⟨fun k e => (by cases e), fun e => (by cases e), fun e => (by cases e)⟩
      | succ j =>
       cases h), Tryz.t74, rfl, rfl, fun _ _ => rfl⟩
theorem tn75 : TnOk Tryz.prog 75 (.fn [.sl 97 (.st [.str, .int .i64, .sl 153 (.st [.int .i64, .sl 3 (.int .i64), .sl 3 (.int .i64)])])] (.sl 74 (.st [.str, .int .i64, .sl 105 (.st [.int .i64, .sl 3 (.int .i64), .sl 3 (.int .i64)])]))) := ⟨⟨_, _, _, Tryz.underlying75⟩, fun _ h => (by cases h), Tryz.t75, rfl, rfl, fun _ h => by cases h⟩
theorem tn76 : TnOk Tryz.prog 76 (.fn [.sl 111 (.st [.int .i64, .int .i64, .bool, .int .i64])] (.sl 109 (.st [.int .i64, .int .i64, .bool, .int .i64]))) := ⟨⟨_, _, _, Tryz.underlying76⟩, fun _ h => (by cases h), Tryz.t76, rfl, rfl, fun _ h => by cases h⟩
theorem tn77 : TnOk Tryz.prog 77 (.fn [.sl 101 (.st [.sl 160 (.st [.int .i64, .int .i64]), .sl 25 (.sl 3 (.int .i64))])] (.sl 114 (.st [.sl 149 (.st [.int .i64, .int .i64]), .sl 25 (.sl 3 (.int .i64))]))) := ⟨⟨_, _, _, Tryz.underlying77⟩, fun _ h => (by cases h), Tryz.t77, rfl, rfl, fun _ h => by cases h⟩
theorem tn78 : TnOk Tryz.prog 78 (.fn [.sl 3 (.int .i64)] (.sl 3 (.int .i64))) := ⟨⟨_, _, _, Tryz.underlying78⟩, fun _ h => (by cases h), Tryz.t78, rfl, rfl, fun _ h => by cases h⟩
theorem tn79 : TnOk Tryz.prog 79 (.fn [.sl 25 (.sl 3 (.int .i64))] (.sl 25 (.sl 3 (.int .i64)))) := ⟨⟨_, _, _, Tryz.underlying79⟩, fun _ h => (by cases h), Tryz.t79, rfl, rfl, fun _ h => by cases h⟩
theorem tn80 : TnOk Tryz.prog 80 (.fn [.int .i64] (.bool)) := ⟨⟨_, _, _, Tryz.underlying80⟩, fun _ h => (by cases h), Tryz.t80, rfl, rfl, fun _ h => by cases h⟩
theorem tn82 : TnOk Tryz.prog 82 (.fn [.st [.sl 3 (.int .i64), .sl 3 (.int .i64), .sl 25 (.sl 3 (.int .i64))], .int .i64] (.tup [.int .i64, .int .i64])) := ⟨⟨_, _, _, Tryz.underlying82⟩, fun _ h => (by cases h), Tryz.t82, rfl, rfl, fun _ h => by cases h⟩
theorem tn83 : TnOk Tryz.prog 83 (.fn [.sl 74 (.st [.str, .int .i64, .sl 105 (.st [.int .i64, .sl 3 (.int .i64), .sl 3 (.int .i64)])]), .sl 74 (.st [.str, .int .i64, .sl 105 (.st [.int .i64, .sl 3 (.int .i64), .sl 3 (.int .i64)])])] (.bool)) := ⟨⟨_, _, _, Tryz.underlying83⟩, fun _ h => (by cases h), Tryz.t83, rfl, rfl, fun _ h => by cases h⟩
theorem tn84 : TnOk Tryz.prog 84 (.fn [.sl 109 (.st [.int .i64, .int .i64, .bool, .int .i64]), .sl 109 (.st [.int .i64, .int .i64, .bool, .int .i64])] (.bool)) := ⟨⟨_, _, _, Tryz.underlying84⟩, fun _ h => (by cases h), Tryz.t84, rfl, rfl, fun _ h => by cases h⟩
theorem tn85 : TnOk Tryz.prog 85 (.fn [.sl 114 (.st [.sl 149 (.st [.int .i64, .int .i64]), .sl 25 (.sl 3 (.int .i64))]), .sl 114 (.st [.sl 149 (.st [.int .i64, .int .i64]), .sl 25 (.sl 3 (.int .i64))])] (.bool)) := ⟨⟨_, _, _, Tryz.underlying85⟩, fun _ h => (by cases h), Tryz.t85, rfl, rfl, fun _ h => by cases h⟩
theorem tn86 : TnOk Tryz.prog 86 (.fn [.sl 25 (.sl 3 (.int .i64)), .sl 25 (.sl 3 (.int .i64))] (.bool)) := ⟨⟨_, _, _, Tryz.underlying86⟩, fun _ h => (by cases h), Tryz.t86, rfl, rfl, fun _ h => by cases h⟩
theorem tn94 : TnOk Tryz.prog 94 (.fn [.st [.str, .int .i64, .sl 153 (.st [.int .i64, .sl 3 (.int .i64), .sl 3 (.int .i64)])], .int .i64] (.int .i64)) := ⟨⟨_, _, _, Tryz.underlying94⟩, fun _ h => (by cases h), Tryz.t94, rfl, rfl, fun _ h => by cases h⟩
theorem tn95 : TnOk Tryz.prog 95 (.sl 153 (.st [.int .i64, .sl 3 (.int .i64), .sl 3 (.int .i64)])) := ⟨⟨Tryz.underlying95, Tryz.t153, _, rfl, rfl, rfl, rfl, by decide, by decide, fun _ _ => rfl, fun k h => by cases h⟩, fun _ h => (by cases h), Tryz.t95, rfl, rfl, fun _ _ => rfl⟩
theorem tn96 : TnOk Tryz.prog 96 (.st [.str, .int .i64, .sl 153 (.st [.int .i64, .sl 3 (.int .i64), .sl 3 (.int .i64)])]) := ⟨⟨_, Tryz.underlying96, Tryz.eqGuardType96, Tryz.stoodInHeld96, rfl, fun j τ h => by
    cases j with
    | zero => cases h; exact ⟨_, _, rfl, rfl, by decide, by decide, Tryz.underlying9, rfl, fun us h => by cases h⟩
    | succ j =>
     cases j with
     | zero => cases h; exact ⟨_, _, rfl, rfl, by decide, by decide, Tryz.underlying3, rfl, fun us h => by cases h⟩
     | succ j =>
      cases j with
      | zero => cases h; exact ⟨_, _, rfl, rfl, by decide, by decide, Tryz.underlying95, rfl, fun us h => by cases h⟩
      | succ j =>
       cases h⟩, (fun us hus fs hfs j τ h f hf => by
    cases hus
    rw [Tryz.underlying96] at hfs
    cases hfs
    cases j with
    | zero => cases h; cases hf; exact ⟨fun k e => (by cases e), fun e => (by cases e), fun _ => Tryz.underlying9⟩
    | succ j =>
     cases j with
     | zero => cases h; cases hf; exact ⟨fun k e => by cases e; exact Tryz.underlying3, fun e => (by cases e), fun e => (by cases e)⟩
     | succ j =>
      cases j with
      | zero => cases h; cases hf; exact ⟨fun k e => (by cases e), fun e => (by cases e), fun e => (by cases e)⟩
      | succ j =>
       cases h), Tryz.t96, rfl, rfl, fun _ _ => rfl⟩
theorem tn97 : TnOk Tryz.prog 97 (.st [.str, .int .i64, .sl 153 (.st [.int .i64, .sl 3 (.int .i64), .sl 3 (.int .i64)])]) := ⟨⟨_, Tryz.underlying97, Tryz.eqGuardType97, Tryz.stoodInHeld97, rfl, fun j τ h => by
    cases j with
    | zero => cases h; exact ⟨_, _, rfl, rfl, by decide, by decide, Tryz.underlying9, rfl, fun us h => by cases h⟩
    | succ j =>
     cases j with
     | zero => cases h; exact ⟨_, _, rfl, rfl, by decide, by decide, Tryz.underlying3, rfl, fun us h => by cases h⟩
     | succ j =>
      cases j with
      | zero => cases h; exact ⟨_, _, rfl, rfl, by decide, by decide, Tryz.underlying95, rfl, fun us h => by cases h⟩
      | succ j =>
       cases h⟩, (fun us hus fs hfs j τ h f hf => by
    cases hus
    rw [Tryz.underlying97] at hfs
    cases hfs
    cases j with
    | zero => cases h; cases hf; exact ⟨fun k e => (by cases e), fun e => (by cases e), fun _ => Tryz.underlying9⟩
    | succ j =>
     cases j with
     | zero => cases h; cases hf; exact ⟨fun k e => by cases e; exact Tryz.underlying3, fun e => (by cases e), fun e => (by cases e)⟩
     | succ j =>
      cases j with
      | zero => cases h; cases hf; exact ⟨fun k e => (by cases e), fun e => (by cases e), fun e => (by cases e)⟩
      | succ j =>
       cases h), Tryz.t97, rfl, rfl, fun _ _ => rfl⟩
theorem tn98 : TnOk Tryz.prog 98 (.fn [.st [.sl 160 (.st [.int .i64, .int .i64]), .sl 25 (.sl 3 (.int .i64))], .int .i64] (.int .i64)) := ⟨⟨_, _, _, Tryz.underlying98⟩, fun _ h => (by cases h), Tryz.t98, rfl, rfl, fun _ h => by cases h⟩
theorem tn99 : TnOk Tryz.prog 99 (.sl 160 (.st [.int .i64, .int .i64])) := ⟨⟨Tryz.underlying99, Tryz.t160, _, rfl, rfl, rfl, rfl, by decide, by decide, fun _ _ => rfl, fun k h => by cases h⟩, fun _ h => (by cases h), Tryz.t99, rfl, rfl, fun _ _ => rfl⟩
theorem tn100 : TnOk Tryz.prog 100 (.st [.sl 160 (.st [.int .i64, .int .i64]), .sl 25 (.sl 3 (.int .i64))]) := ⟨⟨_, Tryz.underlying100, Tryz.eqGuardType100, Tryz.stoodInHeld100, rfl, fun j τ h => by
    cases j with
    | zero => cases h; exact ⟨_, _, rfl, rfl, by decide, by decide, Tryz.underlying99, rfl, fun us h => by cases h⟩
    | succ j =>
     cases j with
     | zero => cases h; exact ⟨_, _, rfl, rfl, by decide, by decide, Tryz.underlying28, rfl, fun us h => by cases h⟩
     | succ j =>
      cases h⟩, (fun us hus fs hfs j τ h f hf => by
    cases hus
    rw [Tryz.underlying100] at hfs
    cases hfs
    cases j with
    | zero => cases h; cases hf; exact ⟨fun k e => (by cases e), fun e => (by cases e), fun e => (by cases e)⟩
    | succ j =>
     cases j with
     | zero => cases h; cases hf; exact ⟨fun k e => (by cases e), fun e => (by cases e), fun e => (by cases e)⟩
     | succ j =>
      cases h), Tryz.t100, rfl, rfl, fun _ _ => rfl⟩
theorem tn101 : TnOk Tryz.prog 101 (.st [.sl 160 (.st [.int .i64, .int .i64]), .sl 25 (.sl 3 (.int .i64))]) := ⟨⟨_, Tryz.underlying101, Tryz.eqGuardType101, Tryz.stoodInHeld101, rfl, fun j τ h => by
    cases j with
    | zero => cases h; exact ⟨_, _, rfl, rfl, by decide, by decide, Tryz.underlying99, rfl, fun us h => by cases h⟩
    | succ j =>
     cases j with
     | zero => cases h; exact ⟨_, _, rfl, rfl, by decide, by decide, Tryz.underlying28, rfl, fun us h => by cases h⟩
     | succ j =>
      cases h⟩, (fun us hus fs hfs j τ h f hf => by
    cases hus
    rw [Tryz.underlying101] at hfs
    cases hfs
    cases j with
    | zero => cases h; cases hf; exact ⟨fun k e => (by cases e), fun e => (by cases e), fun e => (by cases e)⟩
    | succ j =>
     cases j with
     | zero => cases h; cases hf; exact ⟨fun k e => (by cases e), fun e => (by cases e), fun e => (by cases e)⟩
     | succ j =>
      cases h), Tryz.t101, rfl, rfl, fun _ _ => rfl⟩
theorem tn102 : TnOk Tryz.prog 102 (.fn [.st [.sl 3 (.int .i64), .sl 3 (.int .i64), .sl 25 (.sl 3 (.int .i64))]] (.bool)) := ⟨⟨_, _, _, Tryz.underlying102⟩, fun _ h => (by cases h), Tryz.t102, rfl, rfl, fun _ h => by cases h⟩
theorem tn103 : TnOk Tryz.prog 103 (.fn [.st [.int .i64, .sl 74 (.st [.str, .int .i64, .sl 105 (.st [.int .i64, .sl 3 (.int .i64), .sl 3 (.int .i64)])]), .sl 109 (.st [.int .i64, .int .i64, .bool, .int .i64]), .sl 114 (.st [.sl 149 (.st [.int .i64, .int .i64]), .sl 25 (.sl 3 (.int .i64))]), .sl 3 (.int .i64)], .st [.sl 3 (.int .i64), .sl 3 (.int .i64), .sl 25 (.sl 3 (.int .i64))], .int .i64] (.int .i64)) := ⟨⟨_, _, _, Tryz.underlying103⟩, fun _ h => (by cases h), Tryz.t103, rfl, rfl, fun _ h => by cases h⟩
theorem tn104 : TnOk Tryz.prog 104 (.st [.int .i64, .sl 3 (.int .i64), .sl 3 (.int .i64)]) := ⟨⟨_, Tryz.underlying104, Tryz.eqGuardType104, Tryz.stoodInHeld104, rfl, fun j τ h => by
    cases j with
    | zero => cases h; exact ⟨_, _, rfl, rfl, by decide, by decide, Tryz.underlying3, rfl, fun us h => by cases h⟩
    | succ j =>
     cases j with
     | zero => cases h; exact ⟨_, _, rfl, rfl, by decide, by decide, Tryz.underlying25, rfl, fun us h => by cases h⟩
     | succ j =>
      cases j with
      | zero => cases h; exact ⟨_, _, rfl, rfl, by decide, by decide, Tryz.underlying25, rfl, fun us h => by cases h⟩
      | succ j =>
       cases h⟩, (fun us hus fs hfs j τ h f hf => by
    cases hus
    rw [Tryz.underlying104] at hfs
    cases hfs
    cases j with
    | zero => cases h; cases hf; exact ⟨fun k e => by cases e; exact Tryz.underlying3, fun e => (by cases e), fun e => (by cases e)⟩
    | succ j =>
     cases j with
     | zero => cases h; cases hf; exact ⟨fun k e => (by cases e), fun e => (by cases e), fun e => (by cases e)⟩
     | succ j =>
      cases j with
      | zero => cases h; cases hf; exact ⟨fun k e => (by cases e), fun e => (by cases e), fun e => (by cases e)⟩
      | succ j =>
       cases h), Tryz.t104, rfl, rfl, fun _ _ => rfl⟩
theorem tn105 : TnOk Tryz.prog 105 (.st [.int .i64, .sl 3 (.int .i64), .sl 3 (.int .i64)]) := ⟨⟨_, Tryz.underlying105, Tryz.eqGuardType105, Tryz.stoodInHeld105, rfl, fun j τ h => by
    cases j with
    | zero => cases h; exact ⟨_, _, rfl, rfl, by decide, by decide, Tryz.underlying3, rfl, fun us h => by cases h⟩
    | succ j =>
     cases j with
     | zero => cases h; exact ⟨_, _, rfl, rfl, by decide, by decide, Tryz.underlying25, rfl, fun us h => by cases h⟩
     | succ j =>
      cases j with
      | zero => cases h; exact ⟨_, _, rfl, rfl, by decide, by decide, Tryz.underlying25, rfl, fun us h => by cases h⟩
      | succ j =>
       cases h⟩, (fun us hus fs hfs j τ h f hf => by
    cases hus
    rw [Tryz.underlying105] at hfs
    cases hfs
    cases j with
    | zero => cases h; cases hf; exact ⟨fun k e => by cases e; exact Tryz.underlying3, fun e => (by cases e), fun e => (by cases e)⟩
    | succ j =>
     cases j with
     | zero => cases h; cases hf; exact ⟨fun k e => (by cases e), fun e => (by cases e), fun e => (by cases e)⟩
     | succ j =>
      cases j with
      | zero => cases h; cases hf; exact ⟨fun k e => (by cases e), fun e => (by cases e), fun e => (by cases e)⟩
      | succ j =>
       cases h), Tryz.t105, rfl, rfl, fun _ _ => rfl⟩
theorem tn106 : TnOk Tryz.prog 106 (.fn [.sl 3 (.int .i64), .int .i64] (.bool)) := ⟨⟨_, _, _, Tryz.underlying106⟩, fun _ h => (by cases h), Tryz.t106, rfl, rfl, fun _ h => by cases h⟩
theorem tn107 : TnOk Tryz.prog 107 (.fn [.st [.str, .int .i64, .sl 153 (.st [.int .i64, .sl 3 (.int .i64), .sl 3 (.int .i64)])]] (.st [.str, .int .i64, .sl 105 (.st [.int .i64, .sl 3 (.int .i64), .sl 3 (.int .i64)])])) := ⟨⟨_, _, _, Tryz.underlying107⟩, fun _ h => (by cases h), Tryz.t107, rfl, rfl, fun _ h => by cases h⟩
theorem tn108 : TnOk Tryz.prog 108 (.st [.int .i64, .int .i64, .bool, .int .i64]) := ⟨⟨_, Tryz.underlying108, Tryz.eqGuardType108, Tryz.stoodInHeld108, rfl, fun j τ h => by
    cases j with
    | zero => cases h; exact ⟨_, _, rfl, rfl, by decide, by decide, Tryz.underlying3, rfl, fun us h => by cases h⟩
    | succ j =>
     cases j with
     | zero => cases h; exact ⟨_, _, rfl, rfl, by decide, by decide, Tryz.underlying3, rfl, fun us h => by cases h⟩
     | succ j =>
      cases j with
      | zero => cases h; exact ⟨_, _, rfl, rfl, by decide, by decide, Tryz.underlying4, rfl, fun us h => by cases h⟩
      | succ j =>
       cases j with
       | zero => cases h; exact ⟨_, _, rfl, rfl, by decide, by decide, Tryz.underlying3, rfl, fun us h => by cases h⟩
       | succ j =>
        cases h⟩, (fun us hus fs hfs j τ h f hf => by
    cases hus
    rw [Tryz.underlying108] at hfs
    cases hfs
    cases j with
    | zero => cases h; cases hf; exact ⟨fun k e => by cases e; exact Tryz.underlying3, fun e => (by cases e), fun e => (by cases e)⟩
    | succ j =>
     cases j with
     | zero => cases h; cases hf; exact ⟨fun k e => by cases e; exact Tryz.underlying3, fun e => (by cases e), fun e => (by cases e)⟩
     | succ j =>
      cases j with
      | zero => cases h; cases hf; exact ⟨fun k e => (by cases e), fun _ => Tryz.underlying4, fun e => (by cases e)⟩
      | succ j =>
       cases j with
       | zero => cases h; cases hf; exact ⟨fun k e => by cases e; exact Tryz.underlying3, fun e => (by cases e), fun e => (by cases e)⟩
       | succ j =>
        cases h), Tryz.t108, rfl, rfl, fun _ _ => rfl⟩
theorem tn109 : TnOk Tryz.prog 109 (.st [.int .i64, .int .i64, .bool, .int .i64]) := ⟨⟨_, Tryz.underlying109, Tryz.eqGuardType109, Tryz.stoodInHeld109, rfl, fun j τ h => by
    cases j with
    | zero => cases h; exact ⟨_, _, rfl, rfl, by decide, by decide, Tryz.underlying3, rfl, fun us h => by cases h⟩
    | succ j =>
     cases j with
     | zero => cases h; exact ⟨_, _, rfl, rfl, by decide, by decide, Tryz.underlying3, rfl, fun us h => by cases h⟩
     | succ j =>
      cases j with
      | zero => cases h; exact ⟨_, _, rfl, rfl, by decide, by decide, Tryz.underlying4, rfl, fun us h => by cases h⟩
      | succ j =>
       cases j with
       | zero => cases h; exact ⟨_, _, rfl, rfl, by decide, by decide, Tryz.underlying3, rfl, fun us h => by cases h⟩
       | succ j =>
        cases h⟩, (fun us hus fs hfs j τ h f hf => by
    cases hus
    rw [Tryz.underlying109] at hfs
    cases hfs
    cases j with
    | zero => cases h; cases hf; exact ⟨fun k e => by cases e; exact Tryz.underlying3, fun e => (by cases e), fun e => (by cases e)⟩
    | succ j =>
     cases j with
     | zero => cases h; cases hf; exact ⟨fun k e => by cases e; exact Tryz.underlying3, fun e => (by cases e), fun e => (by cases e)⟩
     | succ j =>
      cases j with
      | zero => cases h; cases hf; exact ⟨fun k e => (by cases e), fun _ => Tryz.underlying4, fun e => (by cases e)⟩
      | succ j =>
       cases j with
       | zero => cases h; cases hf; exact ⟨fun k e => by cases e; exact Tryz.underlying3, fun e => (by cases e), fun e => (by cases e)⟩
       | succ j =>
        cases h), Tryz.t109, rfl, rfl, fun _ _ => rfl⟩
theorem tn110 : TnOk Tryz.prog 110 (.fn [.st [.int .i64, .int .i64, .bool, .int .i64]] (.st [.int .i64, .int .i64, .bool, .int .i64])) := ⟨⟨_, _, _, Tryz.underlying110⟩, fun _ h => (by cases h), Tryz.t110, rfl, rfl, fun _ h => by cases h⟩
theorem tn111 : TnOk Tryz.prog 111 (.st [.int .i64, .int .i64, .bool, .int .i64]) := ⟨⟨_, Tryz.underlying111, Tryz.eqGuardType111, Tryz.stoodInHeld111, rfl, fun j τ h => by
    cases j with
    | zero => cases h; exact ⟨_, _, rfl, rfl, by decide, by decide, Tryz.underlying3, rfl, fun us h => by cases h⟩
    | succ j =>
     cases j with
     | zero => cases h; exact ⟨_, _, rfl, rfl, by decide, by decide, Tryz.underlying3, rfl, fun us h => by cases h⟩
     | succ j =>
      cases j with
      | zero => cases h; exact ⟨_, _, rfl, rfl, by decide, by decide, Tryz.underlying4, rfl, fun us h => by cases h⟩
      | succ j =>
       cases j with
       | zero => cases h; exact ⟨_, _, rfl, rfl, by decide, by decide, Tryz.underlying3, rfl, fun us h => by cases h⟩
       | succ j =>
        cases h⟩, (fun us hus fs hfs j τ h f hf => by
    cases hus
    rw [Tryz.underlying111] at hfs
    cases hfs
    cases j with
    | zero => cases h; cases hf; exact ⟨fun k e => by cases e; exact Tryz.underlying3, fun e => (by cases e), fun e => (by cases e)⟩
    | succ j =>
     cases j with
     | zero => cases h; cases hf; exact ⟨fun k e => by cases e; exact Tryz.underlying3, fun e => (by cases e), fun e => (by cases e)⟩
     | succ j =>
      cases j with
      | zero => cases h; cases hf; exact ⟨fun k e => (by cases e), fun _ => Tryz.underlying4, fun e => (by cases e)⟩
      | succ j =>
       cases j with
       | zero => cases h; cases hf; exact ⟨fun k e => by cases e; exact Tryz.underlying3, fun e => (by cases e), fun e => (by cases e)⟩
       | succ j =>
        cases h), Tryz.t111, rfl, rfl, fun _ _ => rfl⟩
theorem tn112 : TnOk Tryz.prog 112 (.sl 149 (.st [.int .i64, .int .i64])) := ⟨⟨Tryz.underlying112, Tryz.t149, _, rfl, rfl, rfl, rfl, by decide, by decide, fun _ _ => rfl, fun k h => by cases h⟩, fun _ h => (by cases h), Tryz.t112, rfl, rfl, fun _ _ => rfl⟩
theorem tn113 : TnOk Tryz.prog 113 (.st [.sl 149 (.st [.int .i64, .int .i64]), .sl 25 (.sl 3 (.int .i64))]) := ⟨⟨_, Tryz.underlying113, Tryz.eqGuardType113, Tryz.stoodInHeld113, rfl, fun j τ h => by
    cases j with
    | zero => cases h; exact ⟨_, _, rfl, rfl, by decide, by decide, Tryz.underlying112, rfl, fun us h => by cases h⟩
    | succ j =>
     cases j with
     | zero => cases h; exact ⟨_, _, rfl, rfl, by decide, by decide, Tryz.underlying28, rfl, fun us h => by cases h⟩
     | succ j =>
      cases h⟩, (fun us hus fs hfs j τ h f hf => by
    cases hus
    rw [Tryz.underlying113] at hfs
    cases hfs
    cases j with
    | zero => cases h; cases hf; exact ⟨fun k e => (by cases e), fun e => (by cases e), fun e => (by cases e)⟩
    | succ j =>
     cases j with
     | zero => cases h; cases hf; exact ⟨fun k e => (by cases e), fun e => (by cases e), fun e => (by cases e)⟩
     | succ j =>
      cases h), Tryz.t113, rfl, rfl, fun _ _ => rfl⟩
theorem tn114 : TnOk Tryz.prog 114 (.st [.sl 149 (.st [.int .i64, .int .i64]), .sl 25 (.sl 3 (.int .i64))]) := ⟨⟨_, Tryz.underlying114, Tryz.eqGuardType114, Tryz.stoodInHeld114, rfl, fun j τ h => by
    cases j with
    | zero => cases h; exact ⟨_, _, rfl, rfl, by decide, by decide, Tryz.underlying112, rfl, fun us h => by cases h⟩
    | succ j =>
     cases j with
     | zero => cases h; exact ⟨_, _, rfl, rfl, by decide, by decide, Tryz.underlying28, rfl, fun us h => by cases h⟩
     | succ j =>
      cases h⟩, (fun us hus fs hfs j τ h f hf => by
    cases hus
    rw [Tryz.underlying114] at hfs
    cases hfs
    cases j with
    | zero => cases h; cases hf; exact ⟨fun k e => (by cases e), fun e => (by cases e), fun e => (by cases e)⟩
    | succ j =>
     cases j with
     | zero => cases h; cases hf; exact ⟨fun k e => (by cases e), fun e => (by cases e), fun e => (by cases e)⟩
     | succ j =>
      cases h), Tryz.t114, rfl, rfl, fun _ _ => rfl⟩
theorem tn115 : TnOk Tryz.prog 115 (.fn [.st [.sl 160 (.st [.int .i64, .int .i64]), .sl 25 (.sl 3 (.int .i64))]] (.st [.sl 149 (.st [.int .i64, .int .i64]), .sl 25 (.sl 3 (.int .i64))])) := ⟨⟨_, _, _, Tryz.underlying115⟩, fun _ h => (by cases h), Tryz.t115, rfl, rfl, fun _ h => by cases h⟩
theorem tn116 : TnOk Tryz.prog 116 (.fn [.st [.sl 3 (.int .i64), .sl 3 (.int .i64), .sl 25 (.sl 3 (.int .i64))], .int .i64] (.int .i64)) := ⟨⟨_, _, _, Tryz.underlying116⟩, fun _ h => (by cases h), Tryz.t116, rfl, rfl, fun _ h => by cases h⟩
theorem tn117 : TnOk Tryz.prog 117 (.fn [.st [.str, .int .i64, .sl 105 (.st [.int .i64, .sl 3 (.int .i64), .sl 3 (.int .i64)])], .sl 3 (.int .i64)] (.sl 105 (.st [.int .i64, .sl 3 (.int .i64), .sl 3 (.int .i64)]))) := ⟨⟨_, _, _, Tryz.underlying117⟩, fun _ h => (by cases h), Tryz.t117, rfl, rfl, fun _ h => by cases h⟩
theorem tn118 : TnOk Tryz.prog 118 (.fn [.st [.str, .int .i64, .sl 105 (.st [.int .i64, .sl 3 (.int .i64), .sl 3 (.int .i64)])], .st [.str, .int .i64, .sl 105 (.st [.int .i64, .sl 3 (.int .i64), .sl 3 (.int .i64)])]] (.bool)) := ⟨⟨_, _, _, Tryz.underlying118⟩, fun _ h => (by cases h), Tryz.t118, rfl, rfl, fun _ h => by cases h⟩
theorem tn119 : TnOk Tryz.prog 119 (.fn [.st [.int .i64, .int .i64, .bool, .int .i64], .st [.int .i64, .int .i64, .bool, .int .i64]] (.bool)) := ⟨⟨_, _, _, Tryz.underlying119⟩, fun _ h => (by cases h), Tryz.t119, rfl, rfl, fun _ h => by cases h⟩
theorem tn120 : TnOk Tryz.prog 120 (.fn [.st [.sl 149 (.st [.int .i64, .int .i64]), .sl 25 (.sl 3 (.int .i64))], .st [.sl 149 (.st [.int .i64, .int .i64]), .sl 25 (.sl 3 (.int .i64))]] (.bool)) := ⟨⟨_, _, _, Tryz.underlying120⟩, fun _ h => (by cases h), Tryz.t120, rfl, rfl, fun _ h => by cases h⟩
theorem tn132 : TnOk Tryz.prog 132 (.fn [.sl 153 (.st [.int .i64, .sl 3 (.int .i64), .sl 3 (.int .i64)]), .int .i64] (.int .i64)) := ⟨⟨_, _, _, Tryz.underlying132⟩, fun _ h => (by cases h), Tryz.t132, rfl, rfl, fun _ h => by cases h⟩
theorem tn133 : TnOk Tryz.prog 133 (.fn [.sl 160 (.st [.int .i64, .int .i64]), .int .i64] (.int .i64)) := ⟨⟨_, _, _, Tryz.underlying133⟩, fun _ h => (by cases h), Tryz.t133, rfl, rfl, fun _ h => by cases h⟩
theorem tn134 : TnOk Tryz.prog 134 (.fn [.st [.int .i64, .sl 74 (.st [.str, .int .i64, .sl 105 (.st [.int .i64, .sl 3 (.int .i64), .sl 3 (.int .i64)])]), .sl 109 (.st [.int .i64, .int .i64, .bool, .int .i64]), .sl 114 (.st [.sl 149 (.st [.int .i64, .int .i64]), .sl 25 (.sl 3 (.int .i64))]), .sl 3 (.int .i64)]] (.bool)) := ⟨⟨_, _, _, Tryz.underlying134⟩, fun _ h => (by cases h), Tryz.t134, rfl, rfl, fun _ h => by cases h⟩
theorem tn135 : TnOk Tryz.prog 135 (.fn [.sl 3 (.int .i64)] (.bool)) := ⟨⟨_, _, _, Tryz.underlying135⟩, fun _ h => (by cases h), Tryz.t135, rfl, rfl, fun _ h => by cases h⟩
theorem tn136 : TnOk Tryz.prog 136 (.fn [.st [.str, .int .i64, .sl 105 (.st [.int .i64, .sl 3 (.int .i64), .sl 3 (.int .i64)])]] (.sl 3 (.int .i64))) := ⟨⟨_, _, _, Tryz.underlying136⟩, fun _ h => (by cases h), Tryz.t136, rfl, rfl, fun _ h => by cases h⟩
theorem tn137 : TnOk Tryz.prog 137 (.fn [.sl 153 (.st [.int .i64, .sl 3 (.int .i64), .sl 3 (.int .i64)])] (.sl 105 (.st [.int .i64, .sl 3 (.int .i64), .sl 3 (.int .i64)]))) := ⟨⟨_, _, _, Tryz.underlying137⟩, fun _ h => (by cases h), Tryz.t137, rfl, rfl, fun _ h => by cases h⟩
theorem tn138 : TnOk Tryz.prog 138 (.fn [.sl 160 (.st [.int .i64, .int .i64])] (.sl 149 (.st [.int .i64, .int .i64]))) := ⟨⟨_, _, _, Tryz.underlying138⟩, fun _ h => (by cases h), Tryz.t138, rfl, rfl, fun _ h => by cases h⟩
theorem tn139 : TnOk Tryz.prog 139 (.fn [.sl 25 (.sl 3 (.int .i64)), .fn [.sl 3 (.int .i64)] (.bool)] (.bool)) := ⟨⟨_, _, _, Tryz.underlying139⟩, fun _ h => (by cases h), Tryz.t139, rfl, rfl, fun _ h => by cases h⟩
theorem tn140 : TnOk Tryz.prog 140 (.fn [.sl 105 (.st [.int .i64, .sl 3 (.int .i64), .sl 3 (.int .i64)]), .sl 105 (.st [.int .i64, .sl 3 (.int .i64), .sl 3 (.int .i64)])] (.bool)) := ⟨⟨_, _, _, Tryz.underlying140⟩, fun _ h => (by cases h), Tryz.t140, rfl, rfl, fun _ h => by cases h⟩
theorem tn141 : TnOk Tryz.prog 141 (.fn [.sl 149 (.st [.int .i64, .int .i64]), .sl 149 (.st [.int .i64, .int .i64])] (.bool)) := ⟨⟨_, _, _, Tryz.underlying141⟩, fun _ h => (by cases h), Tryz.t141, rfl, rfl, fun _ h => by cases h⟩
theorem tn148 : TnOk Tryz.prog 148 (.st [.int .i64, .int .i64]) := ⟨⟨_, Tryz.underlying148, Tryz.eqGuardType148, Tryz.stoodInHeld148, rfl, fun j τ h => by
    cases j with
    | zero => cases h; exact ⟨_, _, rfl, rfl, by decide, by decide, Tryz.underlying3, rfl, fun us h => by cases h⟩
    | succ j =>
     cases j with
     | zero => cases h; exact ⟨_, _, rfl, rfl, by decide, by decide, Tryz.underlying3, rfl, fun us h => by cases h⟩
     | succ j =>
      cases h⟩, (fun us hus fs hfs j τ h f hf => by
    cases hus
    rw [Tryz.underlying148] at hfs
    cases hfs
    cases j with
    | zero => cases h; cases hf; exact ⟨fun k e => by cases e; exact Tryz.underlying3, fun e => (by cases e), fun e => (by cases e)⟩
    | succ j =>
     cases j with
     | zero => cases h; cases hf; exact ⟨fun k e => by cases e; exact Tryz.underlying3, fun e => (by cases e), fun e => (by cases e)⟩
     | succ j =>
      cases h), Tryz.t148, rfl, rfl, fun _ _ => rfl⟩
theorem tn149 : TnOk Tryz.prog 149 (.st [.int .i64, .int .i64]) := ⟨⟨_, Tryz.underlying149, Tryz.eqGuardType149, Tryz.stoodInHeld149, rfl, fun j τ h => by
    cases j with
    | zero => cases h; exact ⟨_, _, rfl, rfl, by decide, by decide, Tryz.underlying3, rfl, fun us h => by cases h⟩
    | succ j =>
     cases j with
     | zero => cases h; exact ⟨_, _, rfl, rfl, by decide, by decide, Tryz.underlying3, rfl, fun us h => by cases h⟩
     | succ j =>
      cases h⟩, (fun us hus fs hfs j τ h f hf => by
    cases hus
    rw [Tryz.underlying149] at hfs
    cases hfs
    cases j with
    | zero => cases h; cases hf; exact ⟨fun k e => by cases e; exact Tryz.underlying3, fun e => (by cases e), fun e => (by cases e)⟩
    | succ j =>
     cases j with
     | zero => cases h; cases hf; exact ⟨fun k e => by cases e; exact Tryz.underlying3, fun e => (by cases e), fun e => (by cases e)⟩
     | succ j =>
      cases h), Tryz.t149, rfl, rfl, fun _ _ => rfl⟩
theorem tn152 : TnOk Tryz.prog 152 (.fn [.st [.int .i64, .sl 3 (.int .i64), .sl 3 (.int .i64)], .int .i64] (.int .i64)) := ⟨⟨_, _, _, Tryz.underlying152⟩, fun _ h => (by cases h), Tryz.t152, rfl, rfl, fun _ h => by cases h⟩
theorem tn153 : TnOk Tryz.prog 153 (.st [.int .i64, .sl 3 (.int .i64), .sl 3 (.int .i64)]) := ⟨⟨_, Tryz.underlying153, Tryz.eqGuardType153, Tryz.stoodInHeld153, rfl, fun j τ h => by
    cases j with
    | zero => cases h; exact ⟨_, _, rfl, rfl, by decide, by decide, Tryz.underlying3, rfl, fun us h => by cases h⟩
    | succ j =>
     cases j with
     | zero => cases h; exact ⟨_, _, rfl, rfl, by decide, by decide, Tryz.underlying25, rfl, fun us h => by cases h⟩
     | succ j =>
      cases j with
      | zero => cases h; exact ⟨_, _, rfl, rfl, by decide, by decide, Tryz.underlying25, rfl, fun us h => by cases h⟩
      | succ j =>
       cases h⟩, (fun us hus fs hfs j τ h f hf => by
    cases hus
    rw [Tryz.underlying153] at hfs
    cases hfs
    cases j with
    | zero => cases h; cases hf; exact ⟨fun k e => by cases e; exact Tryz.underlying3, fun e => (by cases e), fun e => (by cases e)⟩
    | succ j =>
     cases j with
     | zero => cases h; cases hf; exact ⟨fun k e => (by cases e), fun e => (by cases e), fun e => (by cases e)⟩
     | succ j =>
      cases j with
      | zero => cases h; cases hf; exact ⟨fun k e => (by cases e), fun e => (by cases e), fun e => (by cases e)⟩
      | succ j =>
       cases h), Tryz.t153, rfl, rfl, fun _ _ => rfl⟩
theorem tn154 : TnOk Tryz.prog 154 (.fn [.st [.str, .int .i64, .sl 105 (.st [.int .i64, .sl 3 (.int .i64), .sl 3 (.int .i64)])], .int .i64, .int .i64] (.bool)) := ⟨⟨_, _, _, Tryz.underlying154⟩, fun _ h => (by cases h), Tryz.t154, rfl, rfl, fun _ h => by cases h⟩
theorem tn155 : TnOk Tryz.prog 155 (.fn [.st [.int .i64, .sl 74 (.st [.str, .int .i64, .sl 105 (.st [.int .i64, .sl 3 (.int .i64), .sl 3 (.int .i64)])]), .sl 109 (.st [.int .i64, .int .i64, .bool, .int .i64]), .sl 114 (.st [.sl 149 (.st [.int .i64, .int .i64]), .sl 25 (.sl 3 (.int .i64))]), .sl 3 (.int .i64)], .str] (.int .i64)) := ⟨⟨_, _, _, Tryz.underlying155⟩, fun _ h => (by cases h), Tryz.t155, rfl, rfl, fun _ h => by cases h⟩
theorem tn156 : TnOk Tryz.prog 156 (.fn [.st [.sl 149 (.st [.int .i64, .int .i64]), .sl 25 (.sl 3 (.int .i64))]] (.bool)) := ⟨⟨_, _, _, Tryz.underlying156⟩, fun _ h => (by cases h), Tryz.t156, rfl, rfl, fun _ h => by cases h⟩
theorem tn157 : TnOk Tryz.prog 157 (.fn [.int .i64] (.sl 3 (.int .i64))) := ⟨⟨_, _, _, Tryz.underlying157⟩, fun _ h => (by cases h), Tryz.t157, rfl, rfl, fun _ h => by cases h⟩
theorem tn158 : TnOk Tryz.prog 158 (.fn [.st [.int .i64, .sl 3 (.int .i64), .sl 3 (.int .i64)]] (.st [.int .i64, .sl 3 (.int .i64), .sl 3 (.int .i64)])) := ⟨⟨_, _, _, Tryz.underlying158⟩, fun _ h => (by cases h), Tryz.t158, rfl, rfl, fun _ h => by cases h⟩
theorem tn159 : TnOk Tryz.prog 159 (.fn [.st [.int .i64, .int .i64]] (.st [.int .i64, .int .i64])) := ⟨⟨_, _, _, Tryz.underlying159⟩, fun _ h => (by cases h), Tryz.t159, rfl, rfl, fun _ h => by cases h⟩
theorem tn160 : TnOk Tryz.prog 160 (.st [.int .i64, .int .i64]) := ⟨⟨_, Tryz.underlying160, Tryz.eqGuardType160, Tryz.stoodInHeld160, rfl, fun j τ h => by
    cases j with
    | zero => cases h; exact ⟨_, _, rfl, rfl, by decide, by decide, Tryz.underlying3, rfl, fun us h => by cases h⟩
    | succ j =>
     cases j with
     | zero => cases h; exact ⟨_, _, rfl, rfl, by decide, by decide, Tryz.underlying3, rfl, fun us h => by cases h⟩
     | succ j =>
      cases h⟩, (fun us hus fs hfs j τ h f hf => by
    cases hus
    rw [Tryz.underlying160] at hfs
    cases hfs
    cases j with
    | zero => cases h; cases hf; exact ⟨fun k e => by cases e; exact Tryz.underlying3, fun e => (by cases e), fun e => (by cases e)⟩
    | succ j =>
     cases j with
     | zero => cases h; cases hf; exact ⟨fun k e => by cases e; exact Tryz.underlying3, fun e => (by cases e), fun e => (by cases e)⟩
     | succ j =>
      cases h), Tryz.t160, rfl, rfl, fun _ _ => rfl⟩
theorem tn161 : TnOk Tryz.prog 161 (.fn [.sl 109 (.st [.int .i64, .int .i64, .bool, .int .i64]), .fn [.st [.int .i64, .int .i64, .bool, .int .i64]] (.bool)] (.bool)) := ⟨⟨_, _, _, Tryz.underlying161⟩, fun _ h => (by cases h), Tryz.t161, rfl, rfl, fun _ h => by cases h⟩
theorem tn162 : TnOk Tryz.prog 162 (.fn [.st [.int .i64, .int .i64, .bool, .int .i64]] (.bool)) := ⟨⟨_, _, _, Tryz.underlying162⟩, fun _ h => (by cases h), Tryz.t162, rfl, rfl, fun _ h => by cases h⟩
theorem tn163 : TnOk Tryz.prog 163 (.fn [.sl 25 (.sl 3 (.int .i64)), .fn [.sl 3 (.int .i64)] (.bool)] (.int .i64)) := ⟨⟨_, _, _, Tryz.underlying163⟩, fun _ h => (by cases h), Tryz.t163, rfl, rfl, fun _ h => by cases h⟩
theorem tn164 : TnOk Tryz.prog 164 (.fn [.st [.int .i64, .sl 3 (.int .i64), .sl 3 (.int .i64)], .st [.int .i64, .sl 3 (.int .i64), .sl 3 (.int .i64)]] (.bool)) := ⟨⟨_, _, _, Tryz.underlying164⟩, fun _ h => (by cases h), Tryz.t164, rfl, rfl, fun _ h => by cases h⟩
theorem tn165 : TnOk Tryz.prog 165 (.fn [.st [.int .i64, .int .i64], .st [.int .i64, .int .i64]] (.bool)) := ⟨⟨_, _, _, Tryz.underlying165⟩, fun _ h => (by cases h), Tryz.t165, rfl, rfl, fun _ h => by cases h⟩
theorem tn172 : TnOk Tryz.prog 172 (.fn [.st [.int .i64, .sl 3 (.int .i64), .sl 3 (.int .i64)], .int .i64, .int .i64] (.bool)) := ⟨⟨_, _, _, Tryz.underlying172⟩, fun _ h => (by cases h), Tryz.t172, rfl, rfl, fun _ h => by cases h⟩
theorem tn173 : TnOk Tryz.prog 173 (.fn [.str] (.bool)) := ⟨⟨_, _, _, Tryz.underlying173⟩, fun _ h => (by cases h), Tryz.t173, rfl, rfl, fun _ h => by cases h⟩
theorem tn174 : TnOk Tryz.prog 174 (.fn [.sl 149 (.st [.int .i64, .int .i64])] (.bool)) := ⟨⟨_, _, _, Tryz.underlying174⟩, fun _ h => (by cases h), Tryz.t174, rfl, rfl, fun _ h => by cases h⟩
theorem tn175 : TnOk Tryz.prog 175 (.fn [.sl 74 (.st [.str, .int .i64, .sl 105 (.st [.int .i64, .sl 3 (.int .i64), .sl 3 (.int .i64)])]), .fn [.st [.str, .int .i64, .sl 105 (.st [.int .i64, .sl 3 (.int .i64), .sl 3 (.int .i64)])]] (.bool)] (.int .i64)) := ⟨⟨_, _, _, Tryz.underlying175⟩, fun _ h => (by cases h), Tryz.t175, rfl, rfl, fun _ h => by cases h⟩
theorem tn176 : TnOk Tryz.prog 176 (.fn [.st [.str, .int .i64, .sl 105 (.st [.int .i64, .sl 3 (.int .i64), .sl 3 (.int .i64)])]] (.bool)) := ⟨⟨_, _, _, Tryz.underlying176⟩, fun _ h => (by cases h), Tryz.t176, rfl, rfl, fun _ h => by cases h⟩
theorem tn177 : TnOk Tryz.prog 177 (.fn [.sl 109 (.st [.int .i64, .int .i64, .bool, .int .i64]), .fn [.st [.int .i64, .int .i64, .bool, .int .i64]] (.bool)] (.int .i64)) := ⟨⟨_, _, _, Tryz.underlying177⟩, fun _ h => (by cases h), Tryz.t177, rfl, rfl, fun _ h => by cases h⟩
def tys : List (Nat × Ty) := [(3, .int .i64), (4, .bool), (5, .int .u8), (9, .str), (22, .sl 97 (.st [.str, .int .i64, .sl 153 (.st [.int .i64, .sl 3 (.int .i64), .sl 3 (.int .i64)])])), (23, .sl 111 (.st [.int .i64, .int .i64, .bool, .int .i64])), (24, .sl 101 (.st [.sl 160 (.st [.int .i64, .int .i64]), .sl 25 (.sl 3 (.int .i64))])), (25, .sl 3 (.int .i64)), (26, .st [.int .i64, .sl 97 (.st [.str, .int .i64, .sl 153 (.st [.int .i64, .sl 3 (.int .i64), .sl 3 (.int .i64)])]), .sl 111 (.st [.int .i64, .int .i64, .bool, .int .i64]), .sl 101 (.st [.sl 160 (.st [.int .i64, .int .i64]), .sl 25 (.sl 3 (.int .i64))]), .sl 3 (.int .i64)]), (27, .st [.int .i64, .sl 97 (.st [.str, .int .i64, .sl 153 (.st [.int .i64, .sl 3 (.int .i64), .sl 3 (.int .i64)])]), .sl 111 (.st [.int .i64, .int .i64, .bool, .int .i64]), .sl 101 (.st [.sl 160 (.st [.int .i64, .int .i64]), .sl 25 (.sl 3 (.int .i64))]), .sl 3 (.int .i64)]), (28, .sl 25 (.sl 3 (.int .i64))), (29, .st [.sl 3 (.int .i64), .sl 3 (.int .i64), .sl 25 (.sl 3 (.int .i64))]), (30, .st [.sl 3 (.int .i64), .sl 3 (.int .i64), .sl 25 (.sl 3 (.int .i64))]), (31, .fn [.st [.int .i64, .sl 97 (.st [.str, .int .i64, .sl 153 (.st [.int .i64, .sl 3 (.int .i64), .sl 3 (.int .i64)])]), .sl 111 (.st [.int .i64, .int .i64, .bool, .int .i64]), .sl 101 (.st [.sl 160 (.st [.int .i64, .int .i64]), .sl 25 (.sl 3 (.int .i64))]), .sl 3 (.int .i64)], .int .i64] (.int .i64)), (32, .fn [.st [.sl 3 (.int .i64), .sl 3 (.int .i64), .sl 25 (.sl 3 (.int .i64))], .int .i64] (.int .i64)), (33, .fn [.st [.int .i64, .sl 74 (.st [.str, .int .i64, .sl 105 (.st [.int .i64, .sl 3 (.int .i64), .sl 3 (.int .i64)])]), .sl 109 (.st [.int .i64, .int .i64, .bool, .int .i64]), .sl 114 (.st [.sl 149 (.st [.int .i64, .int .i64]), .sl 25 (.sl 3 (.int .i64))]), .sl 3 (.int .i64)], .st [.sl 3 (.int .i64), .sl 3 (.int .i64), .sl 25 (.sl 3 (.int .i64))], .int .i64] (.str)), (34, .sl 74 (.st [.str, .int .i64, .sl 105 (.st [.int .i64, .sl 3 (.int .i64), .sl 3 (.int .i64)])])), (35, .sl 109 (.st [.int .i64, .int .i64, .bool, .int .i64])), (36, .sl 114 (.st [.sl 149 (.st [.int .i64, .int .i64]), .sl 25 (.sl 3 (.int .i64))])), (37, .st [.int .i64, .sl 74 (.st [.str, .int .i64, .sl 105 (.st [.int .i64, .sl 3 (.int .i64), .sl 3 (.int .i64)])]), .sl 109 (.st [.int .i64, .int .i64, .bool, .int .i64]), .sl 114 (.st [.sl 149 (.st [.int .i64, .int .i64]), .sl 25 (.sl 3 (.int .i64))]), .sl 3 (.int .i64)]), (38, .st [.int .i64, .sl 74 (.st [.str, .int .i64, .sl 105 (.st [.int .i64, .sl 3 (.int .i64), .sl 3 (.int .i64)])]), .sl 109 (.st [.int .i64, .int .i64, .bool, .int .i64]), .sl 114 (.st [.sl 149 (.st [.int .i64, .int .i64]), .sl 25 (.sl 3 (.int .i64))]), .sl 3 (.int .i64)]), (39, .fn [.st [.int .i64, .sl 97 (.st [.str, .int .i64, .sl 153 (.st [.int .i64, .sl 3 (.int .i64), .sl 3 (.int .i64)])]), .sl 111 (.st [.int .i64, .int .i64, .bool, .int .i64]), .sl 101 (.st [.sl 160 (.st [.int .i64, .int .i64]), .sl 25 (.sl 3 (.int .i64))]), .sl 3 (.int .i64)]] (.st [.int .i64, .sl 74 (.st [.str, .int .i64, .sl 105 (.st [.int .i64, .sl 3 (.int .i64), .sl 3 (.int .i64)])]), .sl 109 (.st [.int .i64, .int .i64, .bool, .int .i64]), .sl 114 (.st [.sl 149 (.st [.int .i64, .int .i64]), .sl 25 (.sl 3 (.int .i64))]), .sl 3 (.int .i64)])), (40, .st [.sl 3 (.int .i64), .sl 3 (.int .i64), .sl 25 (.sl 3 (.int .i64))]), (41, .fn [.st [.sl 3 (.int .i64), .sl 3 (.int .i64), .sl 25 (.sl 3 (.int .i64))]] (.st [.sl 3 (.int .i64), .sl 3 (.int .i64), .sl 25 (.sl 3 (.int .i64))])), (42, .fn [.st [.int .i64, .sl 74 (.st [.str, .int .i64, .sl 105 (.st [.int .i64, .sl 3 (.int .i64), .sl 3 (.int .i64)])]), .sl 109 (.st [.int .i64, .int .i64, .bool, .int .i64]), .sl 114 (.st [.sl 149 (.st [.int .i64, .int .i64]), .sl 25 (.sl 3 (.int .i64))]), .sl 3 (.int .i64)], .st [.int .i64, .sl 74 (.st [.str, .int .i64, .sl 105 (.st [.int .i64, .sl 3 (.int .i64), .sl 3 (.int .i64)])]), .sl 109 (.st [.int .i64, .int .i64, .bool, .int .i64]), .sl 114 (.st [.sl 149 (.st [.int .i64, .int .i64]), .sl 25 (.sl 3 (.int .i64))]), .sl 3 (.int .i64)]] (.bool)), (43, .fn [.st [.sl 3 (.int .i64), .sl 3 (.int .i64), .sl 25 (.sl 3 (.int .i64))], .st [.sl 3 (.int .i64), .sl 3 (.int .i64), .sl 25 (.sl 3 (.int .i64))]] (.bool)), (44, .fn [.st [.int .i64, .sl 97 (.st [.str, .int .i64, .sl 153 (.st [.int .i64, .sl 3 (.int .i64), .sl 3 (.int .i64)])]), .sl 111 (.st [.int .i64, .int .i64, .bool, .int .i64]), .sl 101 (.st [.sl 160 (.st [.int .i64, .int .i64]), .sl 25 (.sl 3 (.int .i64))]), .sl 3 (.int .i64)], .st [.sl 3 (.int .i64), .sl 3 (.int .i64), .sl 25 (.sl 3 (.int .i64))], .int .i64] (.bool)), (56, .fn [.sl 3 (.int .i64), .sl 3 (.int .i64)] (.bool)), (59, .fn [.sl 3 (.int .i64), .int .i64] (.int .i64)), (63, .fn [.sl 97 (.st [.str, .int .i64, .sl 153 (.st [.int .i64, .sl 3 (.int .i64), .sl 3 (.int .i64)])]), .int .i64] (.int .i64)), (64, .fn [.sl 111 (.st [.int .i64, .int .i64, .bool, .int .i64]), .int .i64] (.int .i64)), (65, .fn [.sl 101 (.st [.sl 160 (.st [.int .i64, .int .i64]), .sl 25 (.sl 3 (.int .i64))]), .int .i64] (.int .i64)), (66, .fn [.sl 25 (.sl 3 (.int .i64)), .int .i64] (.int .i64)), (67, .fn [.st [.int .i64, .sl 74 (.st [.str, .int .i64, .sl 105 (.st [.int .i64, .sl 3 (.int .i64), .sl 3 (.int .i64)])]), .sl 109 (.st [.int .i64, .int .i64, .bool, .int .i64]), .sl 114 (.st [.sl 149 (.st [.int .i64, .int .i64]), .sl 25 (.sl 3 (.int .i64))]), .sl 3 (.int .i64)], .st [.sl 3 (.int .i64), .sl 3 (.int .i64), .sl 25 (.sl 3 (.int .i64))]] (.bool)), (68, .fn [.int .i64, .int .i64, .int .i64] (.bool)), (70, .fn [.st [.int .i64, .sl 74 (.st [.str, .int .i64, .sl 105 (.st [.int .i64, .sl 3 (.int .i64), .sl 3 (.int .i64)])]), .sl 109 (.st [.int .i64, .int .i64, .bool, .int .i64]), .sl 114 (.st [.sl 149 (.st [.int .i64, .int .i64]), .sl 25 (.sl 3 (.int .i64))]), .sl 3 (.int .i64)], .st [.sl 3 (.int .i64), .sl 3 (.int .i64), .sl 25 (.sl 3 (.int .i64))], .int .i64] (.tup [.int .i64, .int .i64, .bool])), (71, .fn [.st [.str, .int .i64, .sl 105 (.st [.int .i64, .sl 3 (.int .i64), .sl 3 (.int .i64)])], .sl 3 (.int .i64)] (.int .i64)), (72, .sl 105 (.st [.int .i64, .sl 3 (.int .i64), .sl 3 (.int .i64)])), (73, .st [.str, .int .i64, .sl 105 (.st [.int .i64, .sl 3 (.int .i64), .sl 3 (.int .i64)])]), (74, .st [.str, .int .i64, .sl 105 (.st [.int .i64, .sl 3 (.int .i64), .sl 3 (.int .i64)])]), (75, .fn [.sl 97 (.st [.str, .int .i64, .sl 153 (.st [.int .i64, .sl 3 (.int .i64), .sl 3 (.int .i64)])])] (.sl 74 (.st [.str, .int .i64, .sl 105 (.st [.int .i64, .sl 3 (.int .i64), .sl 3 (.int .i64)])]))), (76, .fn [.sl 111 (.st [.int .i64, .int .i64, .bool, .int .i64])] (.sl 109 (.st [.int .i64, .int .i64, .bool, .int .i64]))), (77, .fn [.sl 101 (.st [.sl 160 (.st [.int .i64, .int .i64]), .sl 25 (.sl 3 (.int .i64))])] (.sl 114 (.st [.sl 149 (.st [.int .i64, .int .i64]), .sl 25 (.sl 3 (.int .i64))]))), (78, .fn [.sl 3 (.int .i64)] (.sl 3 (.int .i64))), (79, .fn [.sl 25 (.sl 3 (.int .i64))] (.sl 25 (.sl 3 (.int .i64)))), (80, .fn [.int .i64] (.bool)), (82, .fn [.st [.sl 3 (.int .i64), .sl 3 (.int .i64), .sl 25 (.sl 3 (.int .i64))], .int .i64] (.tup [.int .i64, .int .i64])), (83, .fn [.sl 74 (.st [.str, .int .i64, .sl 105 (.st [.int .i64, .sl 3 (.int .i64), .sl 3 (.int .i64)])]), .sl 74 (.st [.str, .int .i64, .sl 105 (.st [.int .i64, .sl 3 (.int .i64), .sl 3 (.int .i64)])])] (.bool)), (84, .fn [.sl 109 (.st [.int .i64, .int .i64, .bool, .int .i64]), .sl 109 (.st [.int .i64, .int .i64, .bool, .int .i64])] (.bool)), (85, .fn [.sl 114 (.st [.sl 149 (.st [.int .i64, .int .i64]), .sl 25 (.sl 3 (.int .i64))]), .sl 114 (.st [.sl 149 (.st [.int .i64, .int .i64]), .sl 25 (.sl 3 (.int .i64))])] (.bool)), (86, .fn [.sl 25 (.sl 3 (.int .i64)), .sl 25 (.sl 3 (.int .i64))] (.bool)), (94, .fn [.st [.str, .int .i64, .sl 153 (.st [.int .i64, .sl 3 (.int .i64), .sl 3 (.int .i64)])], .int .i64] (.int .i64)), (95, .sl 153 (.st [.int .i64, .sl 3 (.int .i64), .sl 3 (.int .i64)])), (96, .st [.str, .int .i64, .sl 153 (.st [.int .i64, .sl 3 (.int .i64), .sl 3 (.int .i64)])]), (97, .st [.str, .int .i64, .sl 153 (.st [.int .i64, .sl 3 (.int .i64), .sl 3 (.int .i64)])]), (98, .fn [.st [.sl 160 (.st [.int .i64, .int .i64]), .sl 25 (.sl 3 (.int .i64))], .int .i64] (.int .i64)), (99, .sl 160 (.st [.int .i64, .int .i64])), (100, .st [.sl 160 (.st [.int .i64, .int .i64]), .sl 25 (.sl 3 (.int .i64))]), (101, .st [.sl 160 (.st [.int .i64, .int .i64]), .sl 25 (.sl 3 (.int .i64))]), (102, .fn [.st [.sl 3 (.int .i64), .sl 3 (.int .i64), .sl 25 (.sl 3 (.int .i64))]] (.bool)), (103, .fn [.st [.int .i64, .sl 74 (.st [.str, .int .i64, .sl 105 (.st [.int .i64, .sl 3 (.int .i64), .sl 3 (.int .i64)])]), .sl 109 (.st [.int .i64, .int .i64, .bool, .int .i64]), .sl 114 (.st [.sl 149 (.st [.int .i64, .int .i64]), .sl 25 (.sl 3 (.int .i64))]), .sl 3 (.int .i64)], .st [.sl 3 (.int .i64), .sl 3 (.int .i64), .sl 25 (.sl 3 (.int .i64))], .int .i64] (.int .i64)), (104, .st [.int .i64, .sl 3 (.int .i64), .sl 3 (.int .i64)]), (105, .st [.int .i64, .sl 3 (.int .i64), .sl 3 (.int .i64)]), (106, .fn [.sl 3 (.int .i64), .int .i64] (.bool)), (107, .fn [.st [.str, .int .i64, .sl 153 (.st [.int .i64, .sl 3 (.int .i64), .sl 3 (.int .i64)])]] (.st [.str, .int .i64, .sl 105 (.st [.int .i64, .sl 3 (.int .i64), .sl 3 (.int .i64)])])), (108, .st [.int .i64, .int .i64, .bool, .int .i64]), (109, .st [.int .i64, .int .i64, .bool, .int .i64]), (110, .fn [.st [.int .i64, .int .i64, .bool, .int .i64]] (.st [.int .i64, .int .i64, .bool, .int .i64])), (111, .st [.int .i64, .int .i64, .bool, .int .i64]), (112, .sl 149 (.st [.int .i64, .int .i64])), (113, .st [.sl 149 (.st [.int .i64, .int .i64]), .sl 25 (.sl 3 (.int .i64))]), (114, .st [.sl 149 (.st [.int .i64, .int .i64]), .sl 25 (.sl 3 (.int .i64))]), (115, .fn [.st [.sl 160 (.st [.int .i64, .int .i64]), .sl 25 (.sl 3 (.int .i64))]] (.st [.sl 149 (.st [.int .i64, .int .i64]), .sl 25 (.sl 3 (.int .i64))])), (116, .fn [.st [.sl 3 (.int .i64), .sl 3 (.int .i64), .sl 25 (.sl 3 (.int .i64))], .int .i64] (.int .i64)), (117, .fn [.st [.str, .int .i64, .sl 105 (.st [.int .i64, .sl 3 (.int .i64), .sl 3 (.int .i64)])], .sl 3 (.int .i64)] (.sl 105 (.st [.int .i64, .sl 3 (.int .i64), .sl 3 (.int .i64)]))), (118, .fn [.st [.str, .int .i64, .sl 105 (.st [.int .i64, .sl 3 (.int .i64), .sl 3 (.int .i64)])], .st [.str, .int .i64, .sl 105 (.st [.int .i64, .sl 3 (.int .i64), .sl 3 (.int .i64)])]] (.bool)), (119, .fn [.st [.int .i64, .int .i64, .bool, .int .i64], .st [.int .i64, .int .i64, .bool, .int .i64]] (.bool)), (120, .fn [.st [.sl 149 (.st [.int .i64, .int .i64]), .sl 25 (.sl 3 (.int .i64))], .st [.sl 149 (.st [.int .i64, .int .i64]), .sl 25 (.sl 3 (.int .i64))]] (.bool)), (132, .fn [.sl 153 (.st [.int .i64, .sl 3 (.int .i64), .sl 3 (.int .i64)]), .int .i64] (.int .i64)), (133, .fn [.sl 160 (.st [.int .i64, .int .i64]), .int .i64] (.int .i64)), (134, .fn [.st [.int .i64, .sl 74 (.st [.str, .int .i64, .sl 105 (.st [.int .i64, .sl 3 (.int .i64), .sl 3 (.int .i64)])]), .sl 109 (.st [.int .i64, .int .i64, .bool, .int .i64]), .sl 114 (.st [.sl 149 (.st [.int .i64, .int .i64]), .sl 25 (.sl 3 (.int .i64))]), .sl 3 (.int .i64)]] (.bool)), (135, .fn [.sl 3 (.int .i64)] (.bool)), (136, .fn [.st [.str, .int .i64, .sl 105 (.st [.int .i64, .sl 3 (.int .i64), .sl 3 (.int .i64)])]] (.sl 3 (.int .i64))), (137, .fn [.sl 153 (.st [.int .i64, .sl 3 (.int .i64), .sl 3 (.int .i64)])] (.sl 105 (.st [.int .i64, .sl 3 (.int .i64), .sl 3 (.int .i64)]))), (138, .fn [.sl 160 (.st [.int .i64, .int .i64])] (.sl 149 (.st [.int .i64, .int .i64]))), (139, .fn [.sl 25 (.sl 3 (.int .i64)), .fn [.sl 3 (.int .i64)] (.bool)] (.bool)), (140, .fn [.sl 105 (.st [.int .i64, .sl 3 (.int .i64), .sl 3 (.int .i64)]), .sl 105 (.st [.int .i64, .sl 3 (.int .i64), .sl 3 (.int .i64)])] (.bool)), (141, .fn [.sl 149 (.st [.int .i64, .int .i64]), .sl 149 (.st [.int .i64, .int .i64])] (.bool)), (148, .st [.int .i64, .int .i64]), (149, .st [.int .i64, .int .i64]), (152, .fn [.st [.int .i64, .sl 3 (.int .i64), .sl 3 (.int .i64)], .int .i64] (.int .i64)), (153, .st [.int .i64, .sl 3 (.int .i64), .sl 3 (.int .i64)]), (154, .fn [.st [.str, .int .i64, .sl 105 (.st [.int .i64, .sl 3 (.int .i64), .sl 3 (.int .i64)])], .int .i64, .int .i64] (.bool)), (155, .fn [.st [.int .i64, .sl 74 (.st [.str, .int .i64, .sl 105 (.st [.int .i64, .sl 3 (.int .i64), .sl 3 (.int .i64)])]), .sl 109 (.st [.int .i64, .int .i64, .bool, .int .i64]), .sl 114 (.st [.sl 149 (.st [.int .i64, .int .i64]), .sl 25 (.sl 3 (.int .i64))]), .sl 3 (.int .i64)], .str] (.int .i64)), (156, .fn [.st [.sl 149 (.st [.int .i64, .int .i64]), .sl 25 (.sl 3 (.int .i64))]] (.bool)), (157, .fn [.int .i64] (.sl 3 (.int .i64))), (158, .fn [.st [.int .i64, .sl 3 (.int .i64), .sl 3 (.int .i64)]] (.st [.int .i64, .sl 3 (.int .i64), .sl 3 (.int .i64)])), (159, .fn [.st [.int .i64, .int .i64]] (.st [.int .i64, .int .i64])), (160, .st [.int .i64, .int .i64]), (161, .fn [.sl 109 (.st [.int .i64, .int .i64, .bool, .int .i64]), .fn [.st [.int .i64, .int .i64, .bool, .int .i64]] (.bool)] (.bool)), (162, .fn [.st [.int .i64, .int .i64, .bool, .int .i64]] (.bool)), (163, .fn [.sl 25 (.sl 3 (.int .i64)), .fn [.sl 3 (.int .i64)] (.bool)] (.int .i64)), (164, .fn [.st [.int .i64, .sl 3 (.int .i64), .sl 3 (.int .i64)], .st [.int .i64, .sl 3 (.int .i64), .sl 3 (.int .i64)]] (.bool)), (165, .fn [.st [.int .i64, .int .i64], .st [.int .i64, .int .i64]] (.bool)), (172, .fn [.st [.int .i64, .sl 3 (.int .i64), .sl 3 (.int .i64)], .int .i64, .int .i64] (.bool)), (173, .fn [.str] (.bool)), (174, .fn [.sl 149 (.st [.int .i64, .int .i64])] (.bool)), (175, .fn [.sl 74 (.st [.str, .int .i64, .sl 105 (.st [.int .i64, .sl 3 (.int .i64), .sl 3 (.int .i64)])]), .fn [.st [.str, .int .i64, .sl 105 (.st [.int .i64, .sl 3 (.int .i64), .sl 3 (.int .i64)])]] (.bool)] (.int .i64)), (176, .fn [.st [.str, .int .i64, .sl 105 (.st [.int .i64, .sl 3 (.int .i64), .sl 3 (.int .i64)])]] (.bool)), (177, .fn [.sl 109 (.st [.int .i64, .int .i64, .bool, .int .i64]), .fn [.st [.int .i64, .int .i64, .bool, .int .i64]] (.bool)] (.int .i64))]
theorem tysOk : LkAll (TnOk Tryz.prog) tys := ⟨tn3, tn4, tn5, tn9, tn22, tn23, tn24, tn25, tn26, tn27, tn28, tn29, tn30, tn31, tn32, tn33, tn34, tn35, tn36, tn37, tn38, tn39, tn40, tn41, tn42, tn43, tn44, tn56, tn59, tn63, tn64, tn65, tn66, tn67, tn68, tn70, tn71, tn72, tn73, tn74, tn75, tn76, tn77, tn78, tn79, tn80, tn82, tn83, tn84, tn85, tn86, tn94, tn95, tn96, tn97, tn98, tn99, tn100, tn101, tn102, tn103, tn104, tn105, tn106, tn107, tn108, tn109, tn110, tn111, tn112, tn113, tn114, tn115, tn116, tn117, tn118, tn119, tn120, tn132, tn133, tn134, tn135, tn136, tn137, tn138, tn139, tn140, tn141, tn148, tn149, tn152, tn153, tn154, tn155, tn156, tn157, tn158, tn159, tn160, tn161, tn162, tn163, tn164, tn165, tn172, tn173, tn174, tn175, tn176, tn177, trivial⟩
def laws_szIntS (x : ((List Int) × (Int × Unit))) (c : Unit) : (Option (Int × Unit)) :=
  (if (ltZ (subZ .i64 x.2.1 (lenI x.1)) 0) = true then (some ((-1), ())) else (some ((subZ .i64 x.2.1 (lenI x.1)), ())))
def H_laws_szIntS : Hd := ⟨[.sl 3 (.int .i64), .int .i64], [], none, .p, .int .i64, .p, []⟩
def T_laws_szIntS : FSig := ⟨H_laws_szIntS.ps, H_laws_szIntS.cs, H_laws_szIntS.io, H_laws_szIntS.im, H_laws_szIntS.R, H_laws_szIntS.m, laws_szIntS⟩
theorem E_laws_szIntS : fnOf tys [] Tryz.f42 H_laws_szIntS = T_laws_szIntS := by kernel_rfl
theorem K_laws_szIntS : SigOk Tryz.prog 42 T_laws_szIntS := (congrArg (SigOk Tryz.prog 42) E_laws_szIntS).mp (fnOf_ok rfl tysOk trivial Tryz.func42 (by decide) rfl (fun _ h => by cases h) (nilEq_of (by kernel_rfl)))
def laws_szMode (x : (D_Mode × (Int × Unit))) (c : Unit) : (Option (Int × Unit)) :=
  (Option.bind ((Option.bind (laws_szIntS (x.1.2.1, (x.2.1, ())) ()) fun v0 => (some v0.1)) : (Option Int)) fun v1 => (if (ltZ v1 0) = true then (some ((-1), ())) else (Option.bind ((Option.bind (laws_szIntS (x.1.2.2.1, (v1, ())) ()) fun v2 => (some v2.1)) : (Option Int)) fun v3 => (if (ltZ v3 0) = true then (some ((-1), ())) else (some (v3, ()))))))
def H_laws_szMode : Hd := ⟨[.st [.int .i64, .sl 3 (.int .i64), .sl 3 (.int .i64)], .int .i64], [], none, .p, .int .i64, .p, []⟩
def T_laws_szMode : FSig := ⟨H_laws_szMode.ps, H_laws_szMode.cs, H_laws_szMode.io, H_laws_szMode.im, H_laws_szMode.R, H_laws_szMode.m, laws_szMode⟩
theorem E_laws_szMode : fnOf tys [(42, T_laws_szIntS)] Tryz.f135 H_laws_szMode = T_laws_szMode := by kernel_rfl
theorem K_laws_szMode : SigOk Tryz.prog 135 T_laws_szMode := (congrArg (SigOk Tryz.prog 135) E_laws_szMode).mp (fnOf_ok rfl tysOk ⟨K_laws_szIntS, trivial⟩ Tryz.func135 (by decide) rfl (fun _ h => by cases h) (nilEq_of (by kernel_rfl)))
def laws_szModeS_L0 : (Int × ((List D_Mode) × (Int × Unit))) → Option (Out (Int × ((List D_Mode) × (Int × Unit))) ((Bool × (Int × ((List D_Mode) × (Int × Unit)))) ⊕ Empty) (Int × Unit)) :=
  (fun v0 => (if (ltZ v0.1 (lenI v0.2.1)) = true then (Option.bind (getI v0.2.1 v0.1) fun v1 => (Option.bind ((Option.bind (laws_szMode (v1, (v0.2.2.1, ())) ()) fun v2 => (some v2.1)) : (Option Int)) fun v3 => (if (ltZ v3 0) = true then (some (Out.ret ((-1), ()))) else (some (Out.norm ((addZ .i64 v0.1 1), (v0.2.1, (v3, ())))))))) else (some (Out.exit (Sum.inl ((ltZ v0.1 (lenI v0.2.1)), (v0.1, (v0.2.1, (v0.2.2.1, ())))))))))
def laws_szModeS (x : ((List D_Mode) × (Int × Unit))) (c : Unit) : (Option (Int × Unit)) :=
  (if (ltZ (subZ .i64 x.2.1 (lenI x.1)) 0) = true then (some ((-1), ())) else (Option.bind (loopN (A := (Int × ((List D_Mode) × (Int × Unit)))) big laws_szModeS_L0 (0, (x.1, ((subZ .i64 x.2.1 (lenI x.1)), ())))) fun v4 => (match v4 with | Out.norm v5 => none | Out.exit v6 => (match ((match v6 with | Sum.inl v9 => (Sum.inl (v9.2.2.2.1, ())) | Sum.inr v10 => (Empty.elim v10)) : ((Int × Unit) ⊕ Empty)) with | Sum.inl v7 => (some (v7.1, ())) | Sum.inr v8 => none) | Out.ret v11 => (some v11))))
def H_laws_szModeS : Hd := ⟨[.sl 153 (.st [.int .i64, .sl 3 (.int .i64), .sl 3 (.int .i64)]), .int .i64], [], none, .p, .int .i64, .p, []⟩
def T_laws_szModeS : FSig := ⟨H_laws_szModeS.ps, H_laws_szModeS.cs, H_laws_szModeS.io, H_laws_szModeS.im, H_laws_szModeS.R, H_laws_szModeS.m, laws_szModeS⟩
theorem E_laws_szModeS : fnOf tys [(135, T_laws_szMode)] Tryz.f104 H_laws_szModeS = T_laws_szModeS := by kernel_rfl
theorem K_laws_szModeS : SigOk Tryz.prog 104 T_laws_szModeS := (congrArg (SigOk Tryz.prog 104) E_laws_szModeS).mp (fnOf_ok rfl tysOk ⟨K_laws_szMode, trivial⟩ Tryz.func104 (by decide) rfl (fun _ h => by cases h) (nilEq_of (by kernel_rfl)))
def laws_szActivity (x : (D_Activity × (Int × Unit))) (c : Unit) : (Option (Int × Unit)) :=
  (if (ltZ (subZ .i64 x.2.1 (lenI x.1.1)) 0) = true then (some ((-1), ())) else (Option.bind ((Option.bind (laws_szModeS (x.1.2.2.1, ((subZ .i64 x.2.1 (lenI x.1.1)), ())) ()) fun v0 => (some v0.1)) : (Option Int)) fun v1 => (if (ltZ v1 0) = true then (some ((-1), ())) else (some (v1, ())))))
def H_laws_szActivity : Hd := ⟨[.st [.str, .int .i64, .sl 153 (.st [.int .i64, .sl 3 (.int .i64), .sl 3 (.int .i64)])], .int .i64], [], none, .p, .int .i64, .p, []⟩
def T_laws_szActivity : FSig := ⟨H_laws_szActivity.ps, H_laws_szActivity.cs, H_laws_szActivity.io, H_laws_szActivity.im, H_laws_szActivity.R, H_laws_szActivity.m, laws_szActivity⟩
theorem E_laws_szActivity : fnOf tys [(104, T_laws_szModeS)] Tryz.f73 H_laws_szActivity = T_laws_szActivity := by kernel_rfl
theorem K_laws_szActivity : SigOk Tryz.prog 73 T_laws_szActivity := (congrArg (SigOk Tryz.prog 73) E_laws_szActivity).mp (fnOf_ok rfl tysOk ⟨K_laws_szModeS, trivial⟩ Tryz.func73 (by decide) rfl (fun _ h => by cases h) (nilEq_of (by kernel_rfl)))
def laws_szActivityS_L0 : (Int × ((List D_Activity) × (Int × Unit))) → Option (Out (Int × ((List D_Activity) × (Int × Unit))) ((Bool × (Int × ((List D_Activity) × (Int × Unit)))) ⊕ Empty) (Int × Unit)) :=
  (fun v0 => (if (ltZ v0.1 (lenI v0.2.1)) = true then (Option.bind (getI v0.2.1 v0.1) fun v1 => (Option.bind ((Option.bind (laws_szActivity (v1, (v0.2.2.1, ())) ()) fun v2 => (some v2.1)) : (Option Int)) fun v3 => (if (ltZ v3 0) = true then (some (Out.ret ((-1), ()))) else (some (Out.norm ((addZ .i64 v0.1 1), (v0.2.1, (v3, ())))))))) else (some (Out.exit (Sum.inl ((ltZ v0.1 (lenI v0.2.1)), (v0.1, (v0.2.1, (v0.2.2.1, ())))))))))
def laws_szActivityS (x : ((List D_Activity) × (Int × Unit))) (c : Unit) : (Option (Int × Unit)) :=
  (if (ltZ (subZ .i64 x.2.1 (lenI x.1)) 0) = true then (some ((-1), ())) else (Option.bind (loopN (A := (Int × ((List D_Activity) × (Int × Unit)))) big laws_szActivityS_L0 (0, (x.1, ((subZ .i64 x.2.1 (lenI x.1)), ())))) fun v4 => (match v4 with | Out.norm v5 => none | Out.exit v6 => (match ((match v6 with | Sum.inl v9 => (Sum.inl (v9.2.2.2.1, ())) | Sum.inr v10 => (Empty.elim v10)) : ((Int × Unit) ⊕ Empty)) with | Sum.inl v7 => (some (v7.1, ())) | Sum.inr v8 => none) | Out.ret v11 => (some v11))))
def H_laws_szActivityS : Hd := ⟨[.sl 97 (.st [.str, .int .i64, .sl 153 (.st [.int .i64, .sl 3 (.int .i64), .sl 3 (.int .i64)])]), .int .i64], [], none, .p, .int .i64, .p, []⟩
def T_laws_szActivityS : FSig := ⟨H_laws_szActivityS.ps, H_laws_szActivityS.cs, H_laws_szActivityS.io, H_laws_szActivityS.im, H_laws_szActivityS.R, H_laws_szActivityS.m, laws_szActivityS⟩
theorem E_laws_szActivityS : fnOf tys [(73, T_laws_szActivity)] Tryz.f39 H_laws_szActivityS = T_laws_szActivityS := by kernel_rfl
theorem K_laws_szActivityS : SigOk Tryz.prog 39 T_laws_szActivityS := (congrArg (SigOk Tryz.prog 39) E_laws_szActivityS).mp (fnOf_ok rfl tysOk ⟨K_laws_szActivity, trivial⟩ Tryz.func39 (by decide) rfl (fun _ h => by cases h) (nilEq_of (by kernel_rfl)))
def laws_szLinkS (x : ((List D_Link) × (Int × Unit))) (c : Unit) : (Option (Int × Unit)) :=
  (if (ltZ (subZ .i64 x.2.1 (lenI x.1)) 0) = true then (some ((-1), ())) else (some ((subZ .i64 x.2.1 (lenI x.1)), ())))
def H_laws_szLinkS : Hd := ⟨[.sl 111 (.st [.int .i64, .int .i64, .bool, .int .i64]), .int .i64], [], none, .p, .int .i64, .p, []⟩
def T_laws_szLinkS : FSig := ⟨H_laws_szLinkS.ps, H_laws_szLinkS.cs, H_laws_szLinkS.io, H_laws_szLinkS.im, H_laws_szLinkS.R, H_laws_szLinkS.m, laws_szLinkS⟩
theorem E_laws_szLinkS : fnOf tys [] Tryz.f40 H_laws_szLinkS = T_laws_szLinkS := by kernel_rfl
theorem K_laws_szLinkS : SigOk Tryz.prog 40 T_laws_szLinkS := (congrArg (SigOk Tryz.prog 40) E_laws_szLinkS).mp (fnOf_ok rfl tysOk trivial Tryz.func40 (by decide) rfl (fun _ h => by cases h) (nilEq_of (by kernel_rfl)))
def laws_szIntSS_L0 : (Int × ((List (List Int)) × (Int × Unit))) → Option (Out (Int × ((List (List Int)) × (Int × Unit))) ((Bool × (Int × ((List (List Int)) × (Int × Unit)))) ⊕ Empty) (Int × Unit)) :=
  (fun v0 => (if (ltZ v0.1 (lenI v0.2.1)) = true then (Option.bind (getI v0.2.1 v0.1) fun v1 => (Option.bind ((Option.bind (laws_szIntS (v1, (v0.2.2.1, ())) ()) fun v2 => (some v2.1)) : (Option Int)) fun v3 => (if (ltZ v3 0) = true then (some (Out.ret ((-1), ()))) else (some (Out.norm ((addZ .i64 v0.1 1), (v0.2.1, (v3, ())))))))) else (some (Out.exit (Sum.inl ((ltZ v0.1 (lenI v0.2.1)), (v0.1, (v0.2.1, (v0.2.2.1, ())))))))))
def laws_szIntSS (x : ((List (List Int)) × (Int × Unit))) (c : Unit) : (Option (Int × Unit)) :=
  (if (ltZ (subZ .i64 x.2.1 (lenI x.1)) 0) = true then (some ((-1), ())) else (Option.bind (loopN (A := (Int × ((List (List Int)) × (Int × Unit)))) big laws_szIntSS_L0 (0, (x.1, ((subZ .i64 x.2.1 (lenI x.1)), ())))) fun v4 => (match v4 with | Out.norm v5 => none | Out.exit v6 => (match ((match v6 with | Sum.inl v9 => (Sum.inl (v9.2.2.2.1, ())) | Sum.inr v10 => (Empty.elim v10)) : ((Int × Unit) ⊕ Empty)) with | Sum.inl v7 => (some (v7.1, ())) | Sum.inr v8 => none) | Out.ret v11 => (some v11))))
def H_laws_szIntSS : Hd := ⟨[.sl 25 (.sl 3 (.int .i64)), .int .i64], [], none, .p, .int .i64, .p, []⟩
def T_laws_szIntSS : FSig := ⟨H_laws_szIntSS.ps, H_laws_szIntSS.cs, H_laws_szIntSS.io, H_laws_szIntSS.im, H_laws_szIntSS.R, H_laws_szIntSS.m, laws_szIntSS⟩
theorem E_laws_szIntSS : fnOf tys [(42, T_laws_szIntS)] Tryz.f43 H_laws_szIntSS = T_laws_szIntSS := by kernel_rfl
theorem K_laws_szIntSS : SigOk Tryz.prog 43 T_laws_szIntSS := (congrArg (SigOk Tryz.prog 43) E_laws_szIntSS).mp (fnOf_ok rfl tysOk ⟨K_laws_szIntS, trivial⟩ Tryz.func43 (by decide) rfl (fun _ h => by cases h) (nilEq_of (by kernel_rfl)))
def laws_szStepS (x : ((List D_Step) × (Int × Unit))) (c : Unit) : (Option (Int × Unit)) :=
  (if (ltZ (subZ .i64 x.2.1 (lenI x.1)) 0) = true then (some ((-1), ())) else (some ((subZ .i64 x.2.1 (lenI x.1)), ())))
def H_laws_szStepS : Hd := ⟨[.sl 160 (.st [.int .i64, .int .i64]), .int .i64], [], none, .p, .int .i64, .p, []⟩
def T_laws_szStepS : FSig := ⟨H_laws_szStepS.ps, H_laws_szStepS.cs, H_laws_szStepS.io, H_laws_szStepS.im, H_laws_szStepS.R, H_laws_szStepS.m, laws_szStepS⟩
theorem E_laws_szStepS : fnOf tys [] Tryz.f105 H_laws_szStepS = T_laws_szStepS := by kernel_rfl
theorem K_laws_szStepS : SigOk Tryz.prog 105 T_laws_szStepS := (congrArg (SigOk Tryz.prog 105) E_laws_szStepS).mp (fnOf_ok rfl tysOk trivial Tryz.func105 (by decide) rfl (fun _ h => by cases h) (nilEq_of (by kernel_rfl)))
def laws_szResource (x : (D_Resource × (Int × Unit))) (c : Unit) : (Option (Int × Unit)) :=
  (Option.bind ((Option.bind (laws_szStepS (x.1.1, (x.2.1, ())) ()) fun v0 => (some v0.1)) : (Option Int)) fun v1 => (if (ltZ v1 0) = true then (some ((-1), ())) else (Option.bind ((Option.bind (laws_szIntSS (x.1.2.1, (v1, ())) ()) fun v2 => (some v2.1)) : (Option Int)) fun v3 => (if (ltZ v3 0) = true then (some ((-1), ())) else (some (v3, ()))))))
def H_laws_szResource : Hd := ⟨[.st [.sl 160 (.st [.int .i64, .int .i64]), .sl 25 (.sl 3 (.int .i64))], .int .i64], [], none, .p, .int .i64, .p, []⟩
def T_laws_szResource : FSig := ⟨H_laws_szResource.ps, H_laws_szResource.cs, H_laws_szResource.io, H_laws_szResource.im, H_laws_szResource.R, H_laws_szResource.m, laws_szResource⟩
theorem E_laws_szResource : fnOf tys [(43, T_laws_szIntSS), (105, T_laws_szStepS)] Tryz.f74 H_laws_szResource = T_laws_szResource := by kernel_rfl
theorem K_laws_szResource : SigOk Tryz.prog 74 T_laws_szResource := (congrArg (SigOk Tryz.prog 74) E_laws_szResource).mp (fnOf_ok rfl tysOk ⟨K_laws_szIntSS, K_laws_szStepS, trivial⟩ Tryz.func74 (by decide) rfl (fun _ h => by cases h) (nilEq_of (by kernel_rfl)))
def laws_szResourceS_L0 : (Int × ((List D_Resource) × (Int × Unit))) → Option (Out (Int × ((List D_Resource) × (Int × Unit))) ((Bool × (Int × ((List D_Resource) × (Int × Unit)))) ⊕ Empty) (Int × Unit)) :=
  (fun v0 => (if (ltZ v0.1 (lenI v0.2.1)) = true then (Option.bind (getI v0.2.1 v0.1) fun v1 => (Option.bind ((Option.bind (laws_szResource (v1, (v0.2.2.1, ())) ()) fun v2 => (some v2.1)) : (Option Int)) fun v3 => (if (ltZ v3 0) = true then (some (Out.ret ((-1), ()))) else (some (Out.norm ((addZ .i64 v0.1 1), (v0.2.1, (v3, ())))))))) else (some (Out.exit (Sum.inl ((ltZ v0.1 (lenI v0.2.1)), (v0.1, (v0.2.1, (v0.2.2.1, ())))))))))
def laws_szResourceS (x : ((List D_Resource) × (Int × Unit))) (c : Unit) : (Option (Int × Unit)) :=
  (if (ltZ (subZ .i64 x.2.1 (lenI x.1)) 0) = true then (some ((-1), ())) else (Option.bind (loopN (A := (Int × ((List D_Resource) × (Int × Unit)))) big laws_szResourceS_L0 (0, (x.1, ((subZ .i64 x.2.1 (lenI x.1)), ())))) fun v4 => (match v4 with | Out.norm v5 => none | Out.exit v6 => (match ((match v6 with | Sum.inl v9 => (Sum.inl (v9.2.2.2.1, ())) | Sum.inr v10 => (Empty.elim v10)) : ((Int × Unit) ⊕ Empty)) with | Sum.inl v7 => (some (v7.1, ())) | Sum.inr v8 => none) | Out.ret v11 => (some v11))))
def H_laws_szResourceS : Hd := ⟨[.sl 101 (.st [.sl 160 (.st [.int .i64, .int .i64]), .sl 25 (.sl 3 (.int .i64))]), .int .i64], [], none, .p, .int .i64, .p, []⟩
def T_laws_szResourceS : FSig := ⟨H_laws_szResourceS.ps, H_laws_szResourceS.cs, H_laws_szResourceS.io, H_laws_szResourceS.im, H_laws_szResourceS.R, H_laws_szResourceS.m, laws_szResourceS⟩
theorem E_laws_szResourceS : fnOf tys [(74, T_laws_szResource)] Tryz.f41 H_laws_szResourceS = T_laws_szResourceS := by kernel_rfl
theorem K_laws_szResourceS : SigOk Tryz.prog 41 T_laws_szResourceS := (congrArg (SigOk Tryz.prog 41) E_laws_szResourceS).mp (fnOf_ok rfl tysOk ⟨K_laws_szResource, trivial⟩ Tryz.func41 (by decide) rfl (fun _ h => by cases h) (nilEq_of (by kernel_rfl)))
def laws_szProject (x : (D_Project × (Int × Unit))) (c : Unit) : (Option (Int × Unit)) :=
  (Option.bind ((Option.bind (laws_szActivityS (x.1.2.1, (x.2.1, ())) ()) fun v0 => (some v0.1)) : (Option Int)) fun v1 => (if (ltZ v1 0) = true then (some ((-1), ())) else (Option.bind ((Option.bind (laws_szLinkS (x.1.2.2.1, (v1, ())) ()) fun v2 => (some v2.1)) : (Option Int)) fun v3 => (if (ltZ v3 0) = true then (some ((-1), ())) else (Option.bind ((Option.bind (laws_szResourceS (x.1.2.2.2.1, (v3, ())) ()) fun v4 => (some v4.1)) : (Option Int)) fun v5 => (if (ltZ v5 0) = true then (some ((-1), ())) else (Option.bind ((Option.bind (laws_szIntS (x.1.2.2.2.2.1, (v5, ())) ()) fun v6 => (some v6.1)) : (Option Int)) fun v7 => (if (ltZ v7 0) = true then (some ((-1), ())) else (some (v7, ()))))))))))
def H_laws_szProject : Hd := ⟨[.st [.int .i64, .sl 97 (.st [.str, .int .i64, .sl 153 (.st [.int .i64, .sl 3 (.int .i64), .sl 3 (.int .i64)])]), .sl 111 (.st [.int .i64, .int .i64, .bool, .int .i64]), .sl 101 (.st [.sl 160 (.st [.int .i64, .int .i64]), .sl 25 (.sl 3 (.int .i64))]), .sl 3 (.int .i64)], .int .i64], [], none, .p, .int .i64, .p, []⟩
def T_laws_szProject : FSig := ⟨H_laws_szProject.ps, H_laws_szProject.cs, H_laws_szProject.io, H_laws_szProject.im, H_laws_szProject.R, H_laws_szProject.m, laws_szProject⟩
theorem E_laws_szProject : fnOf tys [(39, T_laws_szActivityS), (40, T_laws_szLinkS), (41, T_laws_szResourceS), (42, T_laws_szIntS)] Tryz.f10 H_laws_szProject = T_laws_szProject := by kernel_rfl
theorem K_laws_szProject : SigOk Tryz.prog 10 T_laws_szProject := (congrArg (SigOk Tryz.prog 10) E_laws_szProject).mp (fnOf_ok rfl tysOk ⟨K_laws_szActivityS, K_laws_szLinkS, K_laws_szResourceS, K_laws_szIntS, trivial⟩ Tryz.func10 (by decide) rfl (fun _ h => by cases h) (nilEq_of (by kernel_rfl)))
def laws_szDomain (x : (D_Domain × (Int × Unit))) (c : Unit) : (Option (Int × Unit)) :=
  (Option.bind ((Option.bind (laws_szIntS (x.1.1, (x.2.1, ())) ()) fun v0 => (some v0.1)) : (Option Int)) fun v1 => (if (ltZ v1 0) = true then (some ((-1), ())) else (Option.bind ((Option.bind (laws_szIntS (x.1.2.1, (v1, ())) ()) fun v2 => (some v2.1)) : (Option Int)) fun v3 => (if (ltZ v3 0) = true then (some ((-1), ())) else (Option.bind ((Option.bind (laws_szIntSS (x.1.2.2.1, (v3, ())) ()) fun v4 => (some v4.1)) : (Option Int)) fun v5 => (if (ltZ v5 0) = true then (some ((-1), ())) else (some (v5, ()))))))))
def H_laws_szDomain : Hd := ⟨[.st [.sl 3 (.int .i64), .sl 3 (.int .i64), .sl 25 (.sl 3 (.int .i64))], .int .i64], [], none, .p, .int .i64, .p, []⟩
def T_laws_szDomain : FSig := ⟨H_laws_szDomain.ps, H_laws_szDomain.cs, H_laws_szDomain.io, H_laws_szDomain.im, H_laws_szDomain.R, H_laws_szDomain.m, laws_szDomain⟩
theorem E_laws_szDomain : fnOf tys [(42, T_laws_szIntS), (43, T_laws_szIntSS)] Tryz.f11 H_laws_szDomain = T_laws_szDomain := by kernel_rfl
theorem K_laws_szDomain : SigOk Tryz.prog 11 T_laws_szDomain := (congrArg (SigOk Tryz.prog 11) E_laws_szDomain).mp (fnOf_ok rfl tysOk ⟨K_laws_szIntS, K_laws_szIntSS, trivial⟩ Tryz.func11 (by decide) rfl (fun _ h => by cases h) (nilEq_of (by kernel_rfl)))
def spec_l01In (x : (Int × D_Step)) (c : Unit) : (Option (Bool × Unit)) :=
  (Option.bind ((if (leZ x.2.1 x.1) = true then (some ((leZ x.1 x.2.2.1), ())) else (some (false, ()))) : (Option (Bool × Unit))) fun v0 => (some (v0.1, ())))
def H_spec_l01In : Hd := ⟨[.int .i64, .int .i64, .int .i64], [], none, .p, .bool, .p, []⟩
def T_spec_l01In : FSig := ⟨H_spec_l01In.ps, H_spec_l01In.cs, H_spec_l01In.io, H_spec_l01In.im, H_spec_l01In.R, H_spec_l01In.m, spec_l01In⟩
theorem E_spec_l01In : fnOf tys [] Tryz.f45 H_spec_l01In = T_spec_l01In := by kernel_rfl
theorem K_spec_l01In : SigOk Tryz.prog 45 T_spec_l01In := (congrArg (SigOk Tryz.prog 45) E_spec_l01In).mp (fnOf_ok rfl tysOk trivial Tryz.func45 (by decide) rfl (fun _ h => by cases h) (nilEq_of (by kernel_rfl)))
def spec_l04Nums_L0 : (Int × (Int × ((List Int) × ((List Int) × (Int × Unit))))) → Option (Out (Int × (Int × ((List Int) × ((List Int) × (Int × Unit))))) ((Bool × (Int × (Int × ((List Int) × ((List Int) × (Int × Unit)))))) ⊕ Empty) (Bool × Unit)) :=
  (fun v0 => (if (ltZ v0.1 v0.2.1) = true then (Option.bind (getI v0.2.2.1 v0.1) fun v1 => (Option.bind ((Option.bind (spec_l01In (v1, (0, (20, ()))) ()) fun v2 => (some v2.1)) : (Option Bool)) fun v3 => (if (notB v3) = true then (some (Out.ret (false, ()))) else (some (Out.norm ((addZ .i64 v0.1 1), (v0.2.1, (v0.2.2.1, (v0.2.2.2.1, (v0.2.2.2.2.1, ())))))))))) else (some (Out.exit (Sum.inl ((ltZ v0.1 v0.2.1), (v0.1, (v0.2.1, (v0.2.2.1, (v0.2.2.2.1, (v0.2.2.2.2.1, ())))))))))))
def spec_l04Nums (x : ((List Int) × (Int × Unit))) (c : Unit) : (Option (Bool × Unit)) :=
  (Option.bind (loopN (A := (Int × (Int × ((List Int) × ((List Int) × (Int × Unit)))))) big spec_l04Nums_L0 (0, ((lenI x.1), (x.1, (x.1, (x.2.1, ())))))) fun v4 => (match v4 with | Out.norm v5 => none | Out.exit v6 => (match ((match v6 with | Sum.inl v9 => (Sum.inl (v9.2.2.2.2.1, (v9.2.2.2.2.2.1, ()))) | Sum.inr v10 => (Empty.elim v10)) : (((List Int) × (Int × Unit)) ⊕ Empty)) with | Sum.inl v7 => (some ((eqZ (lenI v7.1) v7.2.1), ())) | Sum.inr v8 => none) | Out.ret v11 => (some v11)))
def H_spec_l04Nums : Hd := ⟨[.sl 3 (.int .i64), .int .i64], [], none, .p, .bool, .p, []⟩
def T_spec_l04Nums : FSig := ⟨H_spec_l04Nums.ps, H_spec_l04Nums.cs, H_spec_l04Nums.io, H_spec_l04Nums.im, H_spec_l04Nums.R, H_spec_l04Nums.m, spec_l04Nums⟩
theorem E_spec_l04Nums : fnOf tys [(45, T_spec_l01In)] Tryz.f177 H_spec_l04Nums = T_spec_l04Nums := by kernel_rfl
theorem K_spec_l04Nums : SigOk Tryz.prog 177 T_spec_l04Nums := (congrArg (SigOk Tryz.prog 177) E_spec_l04Nums).mp (fnOf_ok rfl tysOk ⟨K_spec_l01In, trivial⟩ Tryz.func177 (by decide) rfl (fun _ h => by cases h) (nilEq_of (by kernel_rfl)))
def spec_ModeOk (x : (D_Mode × D_Step)) (c : Unit) : (Option (Bool × Unit)) :=
  (Option.bind ((Option.bind (spec_l01In (x.1.1, (1, (12, ()))) ()) fun v0 => (some v0.1)) : (Option Bool)) fun v1 => (Option.bind ((if v1 = true then (Option.bind ((Option.bind (spec_l04Nums (x.1.2.1, (x.2.1, ())) ()) fun v2 => (some v2.1)) : (Option Bool)) fun v3 => (Option.bind ((if v3 = true then (Option.bind ((Option.bind (spec_l04Nums (x.1.2.2.1, (x.2.2.1, ())) ()) fun v4 => (some v4.1)) : (Option Bool)) fun v5 => (some (v5, ()))) else (some (false, ()))) : (Option (Bool × Unit))) fun v6 => (some (v6.1, ())))) else (some (false, ()))) : (Option (Bool × Unit))) fun v7 => (some (v7.1, ()))))
def H_spec_ModeOk : Hd := ⟨[.st [.int .i64, .sl 3 (.int .i64), .sl 3 (.int .i64)], .int .i64, .int .i64], [], none, .p, .bool, .p, []⟩
def T_spec_ModeOk : FSig := ⟨H_spec_ModeOk.ps, H_spec_ModeOk.cs, H_spec_ModeOk.io, H_spec_ModeOk.im, H_spec_ModeOk.R, H_spec_ModeOk.m, spec_ModeOk⟩
theorem E_spec_ModeOk : fnOf tys [(45, T_spec_l01In), (177, T_spec_l04Nums)] Tryz.f163 H_spec_ModeOk = T_spec_ModeOk := by kernel_rfl
theorem K_spec_ModeOk : SigOk Tryz.prog 163 T_spec_ModeOk := (congrArg (SigOk Tryz.prog 163) E_spec_ModeOk).mp (fnOf_ok rfl tysOk ⟨K_spec_l01In, K_spec_l04Nums, trivial⟩ Tryz.func163 (by decide) rfl (fun _ h => by cases h) (nilEq_of (by kernel_rfl)))
def spec_IsName_L0 : (Int × ((List UInt8) × Unit)) → Option (Out (Int × ((List UInt8) × Unit)) ((Bool × (Int × ((List UInt8) × Unit))) ⊕ Empty) (Bool × Unit)) :=
  (fun v0 => (if (ltZ v0.1 (lenI v0.2.1)) = true then (Option.bind (byteAt v0.2.1 v0.1) fun v1 => (Option.bind ((if (leZ 97 v1) = true then (Option.bind (byteAt v0.2.1 v0.1) fun v2 => (some ((leZ v2 122), (v0.1, (v0.2.1, ()))))) else (some (false, (v0.1, (v0.2.1, ()))))) : (Option (Bool × (Int × ((List UInt8) × Unit))))) fun v3 => (Option.bind ((if (notB v3.1) = true then (Option.bind ((if (eqZ v3.2.1 0) = true then (some (true, (v3.2.1, (v3.2.2.1, ())))) else (Option.bind (byteAt v3.2.2.1 v3.2.1) fun v4 => (Option.bind ((if (ltZ v4 48) = true then (some (true, (v3.2.1, (v3.2.2.1, ())))) else (Option.bind (byteAt v3.2.2.1 v3.2.1) fun v5 => (some ((ltZ 57 v5), (v3.2.1, (v3.2.2.1, ())))))) : (Option (Bool × (Int × ((List UInt8) × Unit))))) fun v6 => (some (v6.1, (v6.2.1, (v6.2.2.1, ()))))))) : (Option (Bool × (Int × ((List UInt8) × Unit))))) fun v7 => (some (v7.1, (v7.2.1, (v7.2.2.1, ()))))) else (some (false, (v3.2.1, (v3.2.2.1, ()))))) : (Option (Bool × (Int × ((List UInt8) × Unit))))) fun v8 => (if v8.1 = true then (some (Out.ret (false, ()))) else (some (Out.norm ((addZ .i64 v8.2.1 1), (v8.2.2.1, ())))))))) else (some (Out.exit (Sum.inl ((ltZ v0.1 (lenI v0.2.1)), (v0.1, (v0.2.1, ()))))))))
def spec_IsName (x : ((List UInt8) × Unit)) (c : Unit) : (Option (Bool × Unit)) :=
  (Option.bind (loopN (A := (Int × ((List UInt8) × Unit))) big spec_IsName_L0 (0, (x.1, ()))) fun v9 => (match v9 with | Out.norm v10 => none | Out.exit v11 => (match ((match v11 with | Sum.inl v16 => (Sum.inl (v16.2.2.1, ())) | Sum.inr v17 => (Empty.elim v17)) : (((List UInt8) × Unit) ⊕ Empty)) with | Sum.inl v12 => (Option.bind ((Option.bind (spec_l01In ((lenI v12.1), (1, (8, ()))) ()) fun v13 => (some v13.1)) : (Option Bool)) fun v14 => (some (v14, ()))) | Sum.inr v15 => none) | Out.ret v18 => (some v18)))
def H_spec_IsName : Hd := ⟨[.str], [], none, .p, .bool, .p, []⟩
def T_spec_IsName : FSig := ⟨H_spec_IsName.ps, H_spec_IsName.cs, H_spec_IsName.io, H_spec_IsName.im, H_spec_IsName.R, H_spec_IsName.m, spec_IsName⟩
theorem E_spec_IsName : fnOf tys [(45, T_spec_l01In)] Tryz.f164 H_spec_IsName = T_spec_IsName := by kernel_rfl
theorem K_spec_IsName : SigOk Tryz.prog 164 T_spec_IsName := (congrArg (SigOk Tryz.prog 164) E_spec_IsName).mp (fnOf_ok rfl tysOk ⟨K_spec_l01In, trivial⟩ Tryz.func164 (by decide) rfl (fun _ h => by cases h) (nilEq_of (by kernel_rfl)))
def spec_ActivityOk_L0 : (Int × (Int × ((List D_Mode) × (Int × (Int × (D_Activity × Unit)))))) → Option (Out (Int × (Int × ((List D_Mode) × (Int × (Int × (D_Activity × Unit)))))) ((Bool × (Int × (Int × ((List D_Mode) × (Int × (Int × (D_Activity × Unit))))))) ⊕ Empty) (Bool × Unit)) :=
  (fun v0 => (if (ltZ v0.1 v0.2.1) = true then (Option.bind (getI v0.2.2.1 v0.1) fun v1 => (Option.bind ((Option.bind (spec_ModeOk (v1, (v0.2.2.2.1, (v0.2.2.2.2.1, ()))) ()) fun v2 => (some v2.1)) : (Option Bool)) fun v3 => (if (notB v3) = true then (some (Out.ret (false, ()))) else (some (Out.norm ((addZ .i64 v0.1 1), (v0.2.1, (v0.2.2.1, (v0.2.2.2.1, (v0.2.2.2.2.1, (v0.2.2.2.2.2.1, ()))))))))))) else (some (Out.exit (Sum.inl ((ltZ v0.1 v0.2.1), (v0.1, (v0.2.1, (v0.2.2.1, (v0.2.2.2.1, (v0.2.2.2.2.1, (v0.2.2.2.2.2.1, ()))))))))))))
def spec_ActivityOk (x : (D_Activity × D_Step)) (c : Unit) : (Option (Bool × Unit)) :=
  (Option.bind (loopN (A := (Int × (Int × ((List D_Mode) × (Int × (Int × (D_Activity × Unit))))))) big spec_ActivityOk_L0 (0, ((lenI x.1.2.2.1), (x.1.2.2.1, (x.2.1, (x.2.2.1, (x.1, ()))))))) fun v4 => (match v4 with | Out.norm v5 => none | Out.exit v6 => (match ((match v6 with | Sum.inl v17 => (Sum.inl (v17.2.2.2.2.2.2.1, ())) | Sum.inr v18 => (Empty.elim v18)) : ((D_Activity × Unit) ⊕ Empty)) with | Sum.inl v7 => (Option.bind ((Option.bind (spec_IsName (v7.1.1, ()) ()) fun v8 => (some v8.1)) : (Option Bool)) fun v9 => (Option.bind ((if v9 = true then (Option.bind ((Option.bind (spec_l01In (v7.1.2.1, (0, (3, ()))) ()) fun v10 => (some v10.1)) : (Option Bool)) fun v11 => (Option.bind ((if v11 = true then (Option.bind ((Option.bind (spec_l01In ((lenI v7.1.2.2.1), (1, (3, ()))) ()) fun v12 => (some v12.1)) : (Option Bool)) fun v13 => (some (v13, ()))) else (some (false, ()))) : (Option (Bool × Unit))) fun v14 => (some (v14.1, ())))) else (some (false, ()))) : (Option (Bool × Unit))) fun v15 => (some (v15.1, ())))) | Sum.inr v16 => none) | Out.ret v19 => (some v19)))
def H_spec_ActivityOk : Hd := ⟨[.st [.str, .int .i64, .sl 105 (.st [.int .i64, .sl 3 (.int .i64), .sl 3 (.int .i64)])], .int .i64, .int .i64], [], none, .p, .bool, .p, []⟩
def T_spec_ActivityOk : FSig := ⟨H_spec_ActivityOk.ps, H_spec_ActivityOk.cs, H_spec_ActivityOk.io, H_spec_ActivityOk.im, H_spec_ActivityOk.R, H_spec_ActivityOk.m, spec_ActivityOk⟩
theorem E_spec_ActivityOk : fnOf tys [(45, T_spec_l01In), (163, T_spec_ModeOk), (164, T_spec_IsName)] Tryz.f136 H_spec_ActivityOk = T_spec_ActivityOk := by kernel_rfl
theorem K_spec_ActivityOk : SigOk Tryz.prog 136 T_spec_ActivityOk := (congrArg (SigOk Tryz.prog 136) E_spec_ActivityOk).mp (fnOf_ok rfl tysOk ⟨K_spec_l01In, K_spec_ModeOk, K_spec_IsName, trivial⟩ Tryz.func136 (by decide) rfl (fun _ h => by cases h) (nilEq_of (by kernel_rfl)))
def spec_ActivityIndex_L0 : (Int × (Int × ((List D_Activity) × ((List UInt8) × Unit)))) → Option (Out (Int × (Int × ((List D_Activity) × ((List UInt8) × Unit)))) ((Bool × (Int × (Int × ((List D_Activity) × ((List UInt8) × Unit))))) ⊕ Empty) (Int × Unit)) :=
  (fun v0 => (if (ltZ v0.1 v0.2.1) = true then (Option.bind (getI v0.2.2.1 v0.1) fun v1 => (if (eqS v1.1 v0.2.2.2.1) = true then (some (Out.ret (v0.1, ()))) else (some (Out.norm ((addZ .i64 v0.1 1), (v0.2.1, (v0.2.2.1, (v0.2.2.2.1, ())))))))) else (some (Out.exit (Sum.inl ((ltZ v0.1 v0.2.1), (v0.1, (v0.2.1, (v0.2.2.1, (v0.2.2.2.1, ()))))))))))
def spec_ActivityIndex (x : (D_Project × ((List UInt8) × Unit))) (c : Unit) : (Option (Int × Unit)) :=
  (Option.bind (loopN (A := (Int × (Int × ((List D_Activity) × ((List UInt8) × Unit))))) big spec_ActivityIndex_L0 (0, ((lenI x.1.2.1), (x.1.2.1, (x.2.1, ()))))) fun v2 => (match v2 with | Out.norm v3 => none | Out.exit v4 => (match ((match v4 with | Sum.inl v7 => (Sum.inl ()) | Sum.inr v8 => (Empty.elim v8)) : (Unit ⊕ Empty)) with | Sum.inl v5 => (some ((-1), ())) | Sum.inr v6 => none) | Out.ret v9 => (some v9)))
def H_spec_ActivityIndex : Hd := ⟨[.st [.int .i64, .sl 74 (.st [.str, .int .i64, .sl 105 (.st [.int .i64, .sl 3 (.int .i64), .sl 3 (.int .i64)])]), .sl 109 (.st [.int .i64, .int .i64, .bool, .int .i64]), .sl 114 (.st [.sl 149 (.st [.int .i64, .int .i64]), .sl 25 (.sl 3 (.int .i64))]), .sl 3 (.int .i64)], .str], [], none, .p, .int .i64, .p, []⟩
def T_spec_ActivityIndex : FSig := ⟨H_spec_ActivityIndex.ps, H_spec_ActivityIndex.cs, H_spec_ActivityIndex.io, H_spec_ActivityIndex.im, H_spec_ActivityIndex.R, H_spec_ActivityIndex.m, spec_ActivityIndex⟩
theorem E_spec_ActivityIndex : fnOf tys [] Tryz.f137 H_spec_ActivityIndex = T_spec_ActivityIndex := by kernel_rfl
theorem K_spec_ActivityIndex : SigOk Tryz.prog 137 T_spec_ActivityIndex := (congrArg (SigOk Tryz.prog 137) E_spec_ActivityIndex).mp (fnOf_ok rfl tysOk trivial Tryz.func137 (by decide) rfl (fun _ h => by cases h) (nilEq_of (by kernel_rfl)))
def spec_StepsOk_L0 : (Int × (Int × ((List D_Step) × ((List D_Step) × Unit)))) → Option (Out (Int × (Int × ((List D_Step) × ((List D_Step) × Unit)))) ((Bool × (Int × (Int × ((List D_Step) × ((List D_Step) × Unit))))) ⊕ Empty) (Bool × Unit)) :=
  (fun v0 => (if (ltZ v0.1 v0.2.1) = true then (Option.bind (getI v0.2.2.1 v0.1) fun v1 => (Option.bind ((Option.bind (spec_l01In (v1.1, (0, (60, ()))) ()) fun v2 => (some v2.1)) : (Option Bool)) fun v3 => (Option.bind ((if (notB v3) = true then (some (true, (v0.1, (v0.2.1, (v0.2.2.1, (v0.2.2.2.1, ())))))) else (Option.bind ((Option.bind (spec_l01In (v1.2.1, (0, (20, ()))) ()) fun v4 => (some v4.1)) : (Option Bool)) fun v5 => (Option.bind ((if (notB v5) = true then (some (true, (v0.1, (v0.2.1, (v0.2.2.1, (v0.2.2.2.1, ())))))) else (Option.bind ((if (ltZ 0 v0.1) = true then (Option.bind (getI v0.2.2.2.1 (subZ .i64 v0.1 1)) fun v6 => (some ((leZ v1.1 v6.1), (v0.1, (v0.2.1, (v0.2.2.1, (v0.2.2.2.1, ()))))))) else (some (false, (v0.1, (v0.2.1, (v0.2.2.1, (v0.2.2.2.1, ()))))))) : (Option (Bool × (Int × (Int × ((List D_Step) × ((List D_Step) × Unit))))))) fun v7 => (some (v7.1, (v7.2.1, (v7.2.2.1, (v7.2.2.2.1, (v7.2.2.2.2.1, ())))))))) : (Option (Bool × (Int × (Int × ((List D_Step) × ((List D_Step) × Unit))))))) fun v8 => (some (v8.1, (v8.2.1, (v8.2.2.1, (v8.2.2.2.1, (v8.2.2.2.2.1, ()))))))))) : (Option (Bool × (Int × (Int × ((List D_Step) × ((List D_Step) × Unit))))))) fun v9 => (if v9.1 = true then (some (Out.ret (false, ()))) else (some (Out.norm ((addZ .i64 v9.2.1 1), (v9.2.2.1, (v9.2.2.2.1, (v9.2.2.2.2.1, ())))))))))) else (some (Out.exit (Sum.inl ((ltZ v0.1 v0.2.1), (v0.1, (v0.2.1, (v0.2.2.1, (v0.2.2.2.1, ()))))))))))
def spec_StepsOk (x : ((List D_Step) × Unit)) (c : Unit) : (Option (Bool × Unit)) :=
  (Option.bind (loopN (A := (Int × (Int × ((List D_Step) × ((List D_Step) × Unit))))) big spec_StepsOk_L0 (0, ((lenI x.1), (x.1, (x.1, ()))))) fun v10 => (match v10 with | Out.norm v11 => none | Out.exit v12 => (match ((match v12 with | Sum.inl v19 => (Sum.inl (v19.2.2.2.2.1, ())) | Sum.inr v20 => (Empty.elim v20)) : (((List D_Step) × Unit) ⊕ Empty)) with | Sum.inl v13 => (Option.bind ((Option.bind (spec_l01In ((lenI v13.1), (1, (8, ()))) ()) fun v14 => (some v14.1)) : (Option Bool)) fun v15 => (Option.bind ((if v15 = true then (Option.bind (getI v13.1 0) fun v16 => (some ((eqZ v16.1 0), ()))) else (some (false, ()))) : (Option (Bool × Unit))) fun v17 => (some (v17.1, ())))) | Sum.inr v18 => none) | Out.ret v21 => (some v21)))
def H_spec_StepsOk : Hd := ⟨[.sl 149 (.st [.int .i64, .int .i64])], [], none, .p, .bool, .p, []⟩
def T_spec_StepsOk : FSig := ⟨H_spec_StepsOk.ps, H_spec_StepsOk.cs, H_spec_StepsOk.io, H_spec_StepsOk.im, H_spec_StepsOk.R, H_spec_StepsOk.m, spec_StepsOk⟩
theorem E_spec_StepsOk : fnOf tys [(45, T_spec_l01In)] Tryz.f165 H_spec_StepsOk = T_spec_StepsOk := by kernel_rfl
theorem K_spec_StepsOk : SigOk Tryz.prog 165 T_spec_StepsOk := (congrArg (SigOk Tryz.prog 165) E_spec_StepsOk).mp (fnOf_ok rfl tysOk ⟨K_spec_l01In, trivial⟩ Tryz.func165 (by decide) rfl (fun _ h => by cases h) (nilEq_of (by kernel_rfl)))
def spec_ResourceOk_L0 : (Int × (Int × ((List Int) × (Int × (Int × ((List (List Int)) × (D_Resource × Unit))))))) → Option (Out (Int × (Int × ((List Int) × (Int × (Int × ((List (List Int)) × (D_Resource × Unit))))))) ((Bool × (Int × (Int × ((List Int) × (Int × (Int × ((List (List Int)) × (D_Resource × Unit)))))))) ⊕ Empty) (Bool × Unit)) :=
  (fun v2 => (if (ltZ v2.1 v2.2.1) = true then (Option.bind (getI v2.2.2.1 v2.1) fun v3 => (Option.bind ((Option.bind (spec_l01In (v3, (0, (12, ()))) ()) fun v4 => (some v4.1)) : (Option Bool)) fun v5 => (if (notB v5) = true then (some (Out.ret (false, ()))) else (some (Out.norm ((addZ .i64 v2.1 1), (v2.2.1, (v2.2.2.1, (v2.2.2.2.1, (v2.2.2.2.2.1, (v2.2.2.2.2.2.1, (v2.2.2.2.2.2.2.1, ())))))))))))) else (some (Out.exit (Sum.inl ((ltZ v2.1 v2.2.1), (v2.1, (v2.2.1, (v2.2.2.1, (v2.2.2.2.1, (v2.2.2.2.2.1, (v2.2.2.2.2.2.1, (v2.2.2.2.2.2.2.1, ())))))))))))))
def spec_ResourceOk_L1 : (Int × (Int × ((List (List Int)) × (D_Resource × Unit)))) → Option (Out (Int × (Int × ((List (List Int)) × (D_Resource × Unit)))) ((Bool × (Int × (Int × ((List (List Int)) × (D_Resource × Unit))))) ⊕ Empty) (Bool × Unit)) :=
  (fun v0 => (if (ltZ v0.1 v0.2.1) = true then (Option.bind (getI v0.2.2.1 v0.1) fun v1 => (if (notB (eqZ (lenI v1) 4)) = true then (some (Out.ret (false, ()))) else (Option.bind (loopN (A := (Int × (Int × ((List Int) × (Int × (Int × ((List (List Int)) × (D_Resource × Unit)))))))) big spec_ResourceOk_L0 (0, ((lenI v1), (v1, (v0.1, (v0.2.1, (v0.2.2.1, (v0.2.2.2.1, ())))))))) fun v6 => (match v6 with | Out.norm v7 => none | Out.exit v8 => (match ((match v8 with | Sum.inl v13 => (Sum.inl (v13.2.2.2.2.1, (v13.2.2.2.2.2.1, (v13.2.2.2.2.2.2.1, (v13.2.2.2.2.2.2.2.1, ()))))) | Sum.inr v14 => (Empty.elim v14)) : ((Int × (Int × ((List (List Int)) × (D_Resource × Unit)))) ⊕ Empty)) with | Sum.inl v9 => (some (Out.norm ((addZ .i64 v9.1 1), (v9.2.1, (v9.2.2.1, (v9.2.2.2.1, ())))))) | Sum.inr v10 => (match ((Empty.elim v10) : ((Int × (Int × ((List (List Int)) × (D_Resource × Unit)))) ⊕ Empty)) with | Sum.inl v11 => (some (Out.norm ((addZ .i64 v11.1 1), (v11.2.1, (v11.2.2.1, (v11.2.2.2.1, ())))))) | Sum.inr v12 => (some (Out.exit (Sum.inr (Empty.elim v12)))))) | Out.ret v15 => (some (Out.ret v15)))))) else (some (Out.exit (Sum.inl ((ltZ v0.1 v0.2.1), (v0.1, (v0.2.1, (v0.2.2.1, (v0.2.2.2.1, ()))))))))))
def spec_ResourceOk (x : (D_Resource × Unit)) (c : Unit) : (Option (Bool × Unit)) :=
  (Option.bind (loopN (A := (Int × (Int × ((List (List Int)) × (D_Resource × Unit))))) big spec_ResourceOk_L1 (0, ((lenI x.1.2.1), (x.1.2.1, (x.1, ()))))) fun v16 => (match v16 with | Out.norm v17 => none | Out.exit v18 => (match ((match v18 with | Sum.inl v25 => (Sum.inl (v25.2.2.2.2.1, ())) | Sum.inr v26 => (Empty.elim v26)) : ((D_Resource × Unit) ⊕ Empty)) with | Sum.inl v19 => (Option.bind ((Option.bind (spec_StepsOk (v19.1.1, ()) ()) fun v20 => (some v20.1)) : (Option Bool)) fun v21 => (Option.bind ((if v21 = true then (Option.bind ((if (eqZ (lenI v19.1.2.1) 0) = true then (some (true, ())) else (some ((eqZ (lenI v19.1.2.1) 4), ()))) : (Option (Bool × Unit))) fun v22 => (some (v22.1, ()))) else (some (false, ()))) : (Option (Bool × Unit))) fun v23 => (some (v23.1, ())))) | Sum.inr v24 => none) | Out.ret v27 => (some v27)))
def H_spec_ResourceOk : Hd := ⟨[.st [.sl 149 (.st [.int .i64, .int .i64]), .sl 25 (.sl 3 (.int .i64))]], [], none, .p, .bool, .p, []⟩
def T_spec_ResourceOk : FSig := ⟨H_spec_ResourceOk.ps, H_spec_ResourceOk.cs, H_spec_ResourceOk.io, H_spec_ResourceOk.im, H_spec_ResourceOk.R, H_spec_ResourceOk.m, spec_ResourceOk⟩
theorem E_spec_ResourceOk : fnOf tys [(45, T_spec_l01In), (165, T_spec_StepsOk)] Tryz.f138 H_spec_ResourceOk = T_spec_ResourceOk := by kernel_rfl
theorem K_spec_ResourceOk : SigOk Tryz.prog 138 T_spec_ResourceOk := (congrArg (SigOk Tryz.prog 138) E_spec_ResourceOk).mp (fnOf_ok rfl tysOk ⟨K_spec_l01In, K_spec_StepsOk, trivial⟩ Tryz.func138 (by decide) rfl (fun _ h => by cases h) (nilEq_of (by kernel_rfl)))
def spec_ProjectOk_L0 : (Int × (Int × ((List D_Activity) × (D_Project × (Int × Unit))))) → Option (Out (Int × (Int × ((List D_Activity) × (D_Project × (Int × Unit))))) ((Bool × (Int × (Int × ((List D_Activity) × (D_Project × (Int × Unit)))))) ⊕ Empty) (Bool × Unit)) :=
  (fun v8 => (if (ltZ v8.1 v8.2.1) = true then (Option.bind (getI v8.2.2.1 v8.1) fun v9 => (Option.bind ((Option.bind (spec_ActivityOk (v9, ((lenI v8.2.2.2.1.2.2.2.1), ((lenI v8.2.2.2.1.2.2.2.2.1), ()))) ()) fun v10 => (some v10.1)) : (Option Bool)) fun v11 => (Option.bind ((if (notB v11) = true then (some (true, (v8.1, (v8.2.1, (v8.2.2.1, (v8.2.2.2.1, (v8.2.2.2.2.1, ()))))))) else (Option.bind ((Option.bind (spec_ActivityIndex (v8.2.2.2.1, (v9.1, ())) ()) fun v12 => (some v12.1)) : (Option Int)) fun v13 => (some ((notB (eqZ v13 v8.1)), (v8.1, (v8.2.1, (v8.2.2.1, (v8.2.2.2.1, (v8.2.2.2.2.1, ()))))))))) : (Option (Bool × (Int × (Int × ((List D_Activity) × (D_Project × (Int × Unit)))))))) fun v14 => (if v14.1 = true then (some (Out.ret (false, ()))) else (some (Out.norm ((addZ .i64 v14.2.1 1), (v14.2.2.1, (v14.2.2.2.1, (v14.2.2.2.2.1, (v14.2.2.2.2.2.1, ()))))))))))) else (some (Out.exit (Sum.inl ((ltZ v8.1 v8.2.1), (v8.1, (v8.2.1, (v8.2.2.1, (v8.2.2.2.1, (v8.2.2.2.2.1, ())))))))))))
def spec_ProjectOk_L1 : (Int × (Int × ((List D_Resource) × (D_Project × (Int × Unit))))) → Option (Out (Int × (Int × ((List D_Resource) × (D_Project × (Int × Unit))))) ((Bool × (Int × (Int × ((List D_Resource) × (D_Project × (Int × Unit)))))) ⊕ Empty) (Bool × Unit)) :=
  (fun v19 => (if (ltZ v19.1 v19.2.1) = true then (Option.bind (getI v19.2.2.1 v19.1) fun v20 => (Option.bind ((Option.bind (spec_ResourceOk (v20, ()) ()) fun v21 => (some v21.1)) : (Option Bool)) fun v22 => (if (notB v22) = true then (some (Out.ret (false, ()))) else (some (Out.norm ((addZ .i64 v19.1 1), (v19.2.1, (v19.2.2.1, (v19.2.2.2.1, (v19.2.2.2.2.1, ())))))))))) else (some (Out.exit (Sum.inl ((ltZ v19.1 v19.2.1), (v19.1, (v19.2.1, (v19.2.2.1, (v19.2.2.2.1, (v19.2.2.2.2.1, ())))))))))))
def spec_ProjectOk_L2 : (Int × (Int × ((List Int) × (D_Project × (Int × Unit))))) → Option (Out (Int × (Int × ((List Int) × (D_Project × (Int × Unit))))) ((Bool × (Int × (Int × ((List Int) × (D_Project × (Int × Unit)))))) ⊕ Empty) (Bool × Unit)) :=
  (fun v27 => (if (ltZ v27.1 v27.2.1) = true then (Option.bind (getI v27.2.2.1 v27.1) fun v28 => (Option.bind ((Option.bind (spec_l01In (v28, (0, (100, ()))) ()) fun v29 => (some v29.1)) : (Option Bool)) fun v30 => (if (notB v30) = true then (some (Out.ret (false, ()))) else (some (Out.norm ((addZ .i64 v27.1 1), (v27.2.1, (v27.2.2.1, (v27.2.2.2.1, (v27.2.2.2.2.1, ())))))))))) else (some (Out.exit (Sum.inl ((ltZ v27.1 v27.2.1), (v27.1, (v27.2.1, (v27.2.2.1, (v27.2.2.2.1, (v27.2.2.2.2.1, ())))))))))))
def spec_ProjectOk_L3 : (Int × (Int × ((List D_Link) × (Int × Unit)))) → Option (Out (Int × (Int × ((List D_Link) × (Int × Unit)))) ((Bool × (Int × (Int × ((List D_Link) × (Int × Unit))))) ⊕ Empty) (Bool × Unit)) :=
  (fun v35 => (if (ltZ v35.1 v35.2.1) = true then (Option.bind (getI v35.2.2.1 v35.1) fun v36 => (Option.bind ((Option.bind (spec_l01In (v36.1, (0, ((subZ .i64 v35.2.2.2.1 1), ()))) ()) fun v37 => (some v37.1)) : (Option Bool)) fun v38 => (Option.bind ((if (notB v38) = true then (some (true, (v35.1, (v35.2.1, (v35.2.2.1, (v35.2.2.2.1, ())))))) else (Option.bind ((Option.bind (spec_l01In (v36.2.1, (0, ((subZ .i64 v35.2.2.2.1 1), ()))) ()) fun v39 => (some v39.1)) : (Option Bool)) fun v40 => (Option.bind ((if (notB v40) = true then (some (true, (v35.1, (v35.2.1, (v35.2.2.1, (v35.2.2.2.1, ())))))) else (Option.bind ((if (eqZ v36.1 v36.2.1) = true then (some (true, (v35.1, (v35.2.1, (v35.2.2.1, (v35.2.2.2.1, ())))))) else (Option.bind ((Option.bind (spec_l01In (v36.2.2.2.1, ((-60), (60, ()))) ()) fun v41 => (some v41.1)) : (Option Bool)) fun v42 => (some ((notB v42), (v35.1, (v35.2.1, (v35.2.2.1, (v35.2.2.2.1, ())))))))) : (Option (Bool × (Int × (Int × ((List D_Link) × (Int × Unit))))))) fun v43 => (some (v43.1, (v43.2.1, (v43.2.2.1, (v43.2.2.2.1, (v43.2.2.2.2.1, ())))))))) : (Option (Bool × (Int × (Int × ((List D_Link) × (Int × Unit))))))) fun v44 => (some (v44.1, (v44.2.1, (v44.2.2.1, (v44.2.2.2.1, (v44.2.2.2.2.1, ()))))))))) : (Option (Bool × (Int × (Int × ((List D_Link) × (Int × Unit))))))) fun v45 => (if v45.1 = true then (some (Out.ret (false, ()))) else (some (Out.norm ((addZ .i64 v45.2.1 1), (v45.2.2.1, (v45.2.2.2.1, (v45.2.2.2.2.1, ())))))))))) else (some (Out.exit (Sum.inl ((ltZ v35.1 v35.2.1), (v35.1, (v35.2.1, (v35.2.2.1, (v35.2.2.2.1, ()))))))))))
def spec_ProjectOk (x : (D_Project × Unit)) (c : Unit) : (Option (Bool × Unit)) :=
  (Option.bind ((Option.bind (spec_l01In (x.1.1, (1, (60, ()))) ()) fun v0 => (some v0.1)) : (Option Bool)) fun v1 => (Option.bind ((if (notB v1) = true then (some (true, (x.1, ((lenI x.1.2.1), ())))) else (Option.bind ((Option.bind (spec_l01In ((lenI x.1.2.1), (1, (6, ()))) ()) fun v2 => (some v2.1)) : (Option Bool)) fun v3 => (Option.bind ((if (notB v3) = true then (some (true, (x.1, ((lenI x.1.2.1), ())))) else (Option.bind ((if (ltZ 3 (lenI x.1.2.2.2.1)) = true then (some (true, (x.1, ((lenI x.1.2.1), ())))) else (Option.bind ((if (ltZ 2 (lenI x.1.2.2.2.2.1)) = true then (some (true, (x.1, ((lenI x.1.2.1), ())))) else (some ((ltZ 12 (lenI x.1.2.2.1)), (x.1, ((lenI x.1.2.1), ()))))) : (Option (Bool × (D_Project × (Int × Unit))))) fun v4 => (some (v4.1, (v4.2.1, (v4.2.2.1, ())))))) : (Option (Bool × (D_Project × (Int × Unit))))) fun v5 => (some (v5.1, (v5.2.1, (v5.2.2.1, ())))))) : (Option (Bool × (D_Project × (Int × Unit))))) fun v6 => (some (v6.1, (v6.2.1, (v6.2.2.1, ()))))))) : (Option (Bool × (D_Project × (Int × Unit))))) fun v7 => (if v7.1 = true then (some (false, ())) else (Option.bind (loopN (A := (Int × (Int × ((List D_Activity) × (D_Project × (Int × Unit)))))) big spec_ProjectOk_L0 (0, ((lenI v7.2.1.2.1), (v7.2.1.2.1, (v7.2.1, (v7.2.2.1, ())))))) fun v15 => (match v15 with | Out.norm v16 => none | Out.exit v17 => (match ((match v17 with | Sum.inl v63 => (Sum.inl (v63.2.2.2.2.1, (v63.2.2.2.2.2.1, ()))) | Sum.inr v64 => (Empty.elim v64)) : ((D_Project × (Int × Unit)) ⊕ Empty)) with | Sum.inl v18 => (Option.bind (loopN (A := (Int × (Int × ((List D_Resource) × (D_Project × (Int × Unit)))))) big spec_ProjectOk_L1 (0, ((lenI v18.1.2.2.2.1), (v18.1.2.2.2.1, (v18.1, (v18.2.1, ())))))) fun v23 => (match v23 with | Out.norm v24 => none | Out.exit v25 => (match ((match v25 with | Sum.inl v59 => (Sum.inl (v59.2.2.2.2.1, (v59.2.2.2.2.2.1, ()))) | Sum.inr v60 => (Empty.elim v60)) : ((D_Project × (Int × Unit)) ⊕ Empty)) with | Sum.inl v26 => (Option.bind (loopN (A := (Int × (Int × ((List Int) × (D_Project × (Int × Unit)))))) big spec_ProjectOk_L2 (0, ((lenI v26.1.2.2.2.2.1), (v26.1.2.2.2.2.1, (v26.1, (v26.2.1, ())))))) fun v31 => (match v31 with | Out.norm v32 => none | Out.exit v33 => (match ((match v33 with | Sum.inl v55 => (Sum.inl (v55.2.2.2.2.1, (v55.2.2.2.2.2.1, ()))) | Sum.inr v56 => (Empty.elim v56)) : ((D_Project × (Int × Unit)) ⊕ Empty)) with | Sum.inl v34 => (Option.bind (loopN (A := (Int × (Int × ((List D_Link) × (Int × Unit))))) big spec_ProjectOk_L3 (0, ((lenI v34.1.2.2.1), (v34.1.2.2.1, (v34.2.1, ()))))) fun v46 => (match v46 with | Out.norm v47 => none | Out.exit v48 => (match ((match v48 with | Sum.inl v51 => (Sum.inl ()) | Sum.inr v52 => (Empty.elim v52)) : (Unit ⊕ Empty)) with | Sum.inl v49 => (some (true, ())) | Sum.inr v50 => none) | Out.ret v53 => (some v53))) | Sum.inr v54 => none) | Out.ret v57 => (some v57))) | Sum.inr v58 => none) | Out.ret v61 => (some v61))) | Sum.inr v62 => none) | Out.ret v65 => (some v65))))))
def H_spec_ProjectOk : Hd := ⟨[.st [.int .i64, .sl 74 (.st [.str, .int .i64, .sl 105 (.st [.int .i64, .sl 3 (.int .i64), .sl 3 (.int .i64)])]), .sl 109 (.st [.int .i64, .int .i64, .bool, .int .i64]), .sl 114 (.st [.sl 149 (.st [.int .i64, .int .i64]), .sl 25 (.sl 3 (.int .i64))]), .sl 3 (.int .i64)]], [], none, .p, .bool, .p, []⟩
def T_spec_ProjectOk : FSig := ⟨H_spec_ProjectOk.ps, H_spec_ProjectOk.cs, H_spec_ProjectOk.io, H_spec_ProjectOk.im, H_spec_ProjectOk.R, H_spec_ProjectOk.m, spec_ProjectOk⟩
theorem E_spec_ProjectOk : fnOf tys [(45, T_spec_l01In), (136, T_spec_ActivityOk), (137, T_spec_ActivityIndex), (138, T_spec_ResourceOk)] Tryz.f106 H_spec_ProjectOk = T_spec_ProjectOk := by kernel_rfl
theorem K_spec_ProjectOk : SigOk Tryz.prog 106 T_spec_ProjectOk := (congrArg (SigOk Tryz.prog 106) E_spec_ProjectOk).mp (fnOf_ok rfl tysOk ⟨K_spec_l01In, K_spec_ActivityOk, K_spec_ActivityIndex, K_spec_ResourceOk, trivial⟩ Tryz.func106 (by decide) rfl (fun _ h => by cases h) (nilEq_of (by kernel_rfl)))
def spec_SetOk_L0 : (Int × (Int × ((List Int) × Unit))) → Option (Out (Int × (Int × ((List Int) × Unit))) ((Bool × (Int × (Int × ((List Int) × Unit)))) ⊕ Empty) (Bool × Unit)) :=
  (fun v0 => (if (ltZ v0.1 v0.2.1) = true then (Option.bind ((if (ltZ 0 v0.1) = true then (Option.bind (getI v0.2.2.1 (subZ .i64 v0.1 1)) fun v1 => (Option.bind (getI v0.2.2.1 v0.1) fun v2 => (some ((leZ v2 v1), (v0.1, (v0.2.1, (v0.2.2.1, ()))))))) else (some (false, (v0.1, (v0.2.1, (v0.2.2.1, ())))))) : (Option (Bool × (Int × (Int × ((List Int) × Unit)))))) fun v3 => (if v3.1 = true then (some (Out.ret (false, ()))) else (some (Out.norm ((addZ .i64 v3.2.1 1), (v3.2.2.1, (v3.2.2.2.1, ()))))))) else (some (Out.exit (Sum.inl ((ltZ v0.1 v0.2.1), (v0.1, (v0.2.1, (v0.2.2.1, ())))))))))
def spec_SetOk (x : ((List Int) × Unit)) (c : Unit) : (Option (Bool × Unit)) :=
  (Option.bind (loopN (A := (Int × (Int × ((List Int) × Unit)))) big spec_SetOk_L0 (0, ((lenI x.1), (x.1, ())))) fun v4 => (match v4 with | Out.norm v5 => none | Out.exit v6 => (match ((match v6 with | Sum.inl v9 => (Sum.inl ()) | Sum.inr v10 => (Empty.elim v10)) : (Unit ⊕ Empty)) with | Sum.inl v7 => (some (true, ())) | Sum.inr v8 => none) | Out.ret v11 => (some v11)))
def H_spec_SetOk : Hd := ⟨[.sl 3 (.int .i64)], [], none, .p, .bool, .p, []⟩
def T_spec_SetOk : FSig := ⟨H_spec_SetOk.ps, H_spec_SetOk.cs, H_spec_SetOk.io, H_spec_SetOk.im, H_spec_SetOk.R, H_spec_SetOk.m, spec_SetOk⟩
theorem E_spec_SetOk : fnOf tys [] Tryz.f107 H_spec_SetOk = T_spec_SetOk := by kernel_rfl
theorem K_spec_SetOk : SigOk Tryz.prog 107 T_spec_SetOk := (congrArg (SigOk Tryz.prog 107) E_spec_SetOk).mp (fnOf_ok rfl tysOk trivial Tryz.func107 (by decide) rfl (fun _ h => by cases h) (nilEq_of (by kernel_rfl)))
def spec_SetHas_L0 : (Int × (Int × ((List Int) × (Int × Unit)))) → Option (Out (Int × (Int × ((List Int) × (Int × Unit)))) ((Bool × (Int × (Int × ((List Int) × (Int × Unit))))) ⊕ Empty) (Bool × Unit)) :=
  (fun v0 => (if (ltZ v0.1 v0.2.1) = true then (Option.bind (getI v0.2.2.1 v0.1) fun v1 => (if (eqZ v1 v0.2.2.2.1) = true then (some (Out.ret (true, ()))) else (some (Out.norm ((addZ .i64 v0.1 1), (v0.2.1, (v0.2.2.1, (v0.2.2.2.1, ())))))))) else (some (Out.exit (Sum.inl ((ltZ v0.1 v0.2.1), (v0.1, (v0.2.1, (v0.2.2.1, (v0.2.2.2.1, ()))))))))))
def spec_SetHas (x : ((List Int) × (Int × Unit))) (c : Unit) : (Option (Bool × Unit)) :=
  (Option.bind (loopN (A := (Int × (Int × ((List Int) × (Int × Unit))))) big spec_SetHas_L0 (0, ((lenI x.1), (x.1, (x.2.1, ()))))) fun v2 => (match v2 with | Out.norm v3 => none | Out.exit v4 => (match ((match v4 with | Sum.inl v7 => (Sum.inl ()) | Sum.inr v8 => (Empty.elim v8)) : (Unit ⊕ Empty)) with | Sum.inl v5 => (some (false, ())) | Sum.inr v6 => none) | Out.ret v9 => (some v9)))
def H_spec_SetHas : Hd := ⟨[.sl 3 (.int .i64), .int .i64], [], none, .p, .bool, .p, []⟩
def T_spec_SetHas : FSig := ⟨H_spec_SetHas.ps, H_spec_SetHas.cs, H_spec_SetHas.io, H_spec_SetHas.im, H_spec_SetHas.R, H_spec_SetHas.m, spec_SetHas⟩
theorem E_spec_SetHas : fnOf tys [] Tryz.f78 H_spec_SetHas = T_spec_SetHas := by kernel_rfl
theorem K_spec_SetHas : SigOk Tryz.prog 78 T_spec_SetHas := (congrArg (SigOk Tryz.prog 78) E_spec_SetHas).mp (fnOf_ok rfl tysOk trivial Tryz.func78 (by decide) rfl (fun _ h => by cases h) (nilEq_of (by kernel_rfl)))
def spec_SetSubset_L0 : (Int × D_Mode) → Option (Out (Int × D_Mode) ((Bool × (Int × D_Mode)) ⊕ Empty) (Bool × Unit)) :=
  (fun v0 => (if (ltZ v0.1 v0.2.1) = true then (Option.bind (getI v0.2.2.1 v0.1) fun v1 => (Option.bind ((Option.bind (spec_SetHas (v0.2.2.2.1, (v1, ())) ()) fun v2 => (some v2.1)) : (Option Bool)) fun v3 => (if (notB v3) = true then (some (Out.ret (false, ()))) else (some (Out.norm ((addZ .i64 v0.1 1), (v0.2.1, (v0.2.2.1, (v0.2.2.2.1, ()))))))))) else (some (Out.exit (Sum.inl ((ltZ v0.1 v0.2.1), (v0.1, (v0.2.1, (v0.2.2.1, (v0.2.2.2.1, ()))))))))))
def spec_SetSubset (x : ((List Int) × ((List Int) × Unit))) (c : Unit) : (Option (Bool × Unit)) :=
  (Option.bind (loopN (A := (Int × D_Mode)) big spec_SetSubset_L0 (0, ((lenI x.1), (x.1, (x.2.1, ()))))) fun v4 => (match v4 with | Out.norm v5 => none | Out.exit v6 => (match ((match v6 with | Sum.inl v9 => (Sum.inl ()) | Sum.inr v10 => (Empty.elim v10)) : (Unit ⊕ Empty)) with | Sum.inl v7 => (some (true, ())) | Sum.inr v8 => none) | Out.ret v11 => (some v11)))
def H_spec_SetSubset : Hd := ⟨[.sl 3 (.int .i64), .sl 3 (.int .i64)], [], none, .p, .bool, .p, []⟩
def T_spec_SetSubset : FSig := ⟨H_spec_SetSubset.ps, H_spec_SetSubset.cs, H_spec_SetSubset.io, H_spec_SetSubset.im, H_spec_SetSubset.R, H_spec_SetSubset.m, spec_SetSubset⟩
theorem E_spec_SetSubset : fnOf tys [(78, T_spec_SetHas)] Tryz.f108 H_spec_SetSubset = T_spec_SetSubset := by kernel_rfl
theorem K_spec_SetSubset : SigOk Tryz.prog 108 T_spec_SetSubset := (congrArg (SigOk Tryz.prog 108) E_spec_SetSubset).mp (fnOf_ok rfl tysOk ⟨K_spec_SetHas, trivial⟩ Tryz.func108 (by decide) rfl (fun _ h => by cases h) (nilEq_of (by kernel_rfl)))
def spec_IntRange_L0 : (Int × (Int × ((List Int) × Unit))) → Option (Out (Int × (Int × ((List Int) × Unit))) ((Bool × (Int × (Int × ((List Int) × Unit)))) ⊕ Empty) ((List Int) × Unit)) :=
  (fun v2 => (if (ltZ v2.1 v2.2.1) = true then (Option.bind (addI v2.2.2.1 (v2.1 :: [])) fun v3 => (some (Out.norm ((addZ .i64 v2.1 1), (v2.2.1, (v3, ())))))) else (some (Out.exit (Sum.inl ((ltZ v2.1 v2.2.1), (v2.1, (v2.2.1, (v2.2.2.1, ())))))))))
def spec_IntRange (x : (Int × Unit)) (c : Unit) : (Option ((List Int) × Unit)) :=
  (Option.bind ((Option.bind (spec_l01In (x.1, (0, (200, ()))) ()) fun v0 => (some v0.1)) : (Option Bool)) fun v1 => (if (notB v1) = true then (some ([], ())) else (Option.bind (loopN (A := (Int × (Int × ((List Int) × Unit)))) big spec_IntRange_L0 (0, (x.1, ([], ())))) fun v4 => (match v4 with | Out.norm v5 => none | Out.exit v6 => (match ((match v6 with | Sum.inl v9 => (Sum.inl (v9.2.2.2.1, ())) | Sum.inr v10 => (Empty.elim v10)) : (((List Int) × Unit) ⊕ Empty)) with | Sum.inl v7 => (some (v7.1, ())) | Sum.inr v8 => none) | Out.ret v11 => (some v11)))))
def H_spec_IntRange : Hd := ⟨[.int .i64], [], none, .p, .sl 3 (.int .i64), (Ty.all (.sl 3 (.int .i64))), []⟩
def T_spec_IntRange : FSig := ⟨H_spec_IntRange.ps, H_spec_IntRange.cs, H_spec_IntRange.io, H_spec_IntRange.im, H_spec_IntRange.R, H_spec_IntRange.m, spec_IntRange⟩
theorem E_spec_IntRange : fnOf tys [(45, T_spec_l01In)] Tryz.f139 H_spec_IntRange = T_spec_IntRange := by kernel_rfl
theorem K_spec_IntRange : SigOk Tryz.prog 139 T_spec_IntRange := (congrArg (SigOk Tryz.prog 139) E_spec_IntRange).mp (fnOf_ok rfl tysOk ⟨K_spec_l01In, trivial⟩ Tryz.func139 (by decide) rfl (fun _ h => by cases h) (nilEq_of (by kernel_rfl)))
def spec_ModeIndexes (x : (D_Activity × Unit)) (c : Unit) : (Option ((List Int) × Unit)) :=
  (Option.bind ((Option.bind (spec_IntRange ((lenI x.1.2.2.1), ()) ()) fun v0 => (some v0.1)) : (Option (List Int))) fun v1 => (some (v1, ())))
def H_spec_ModeIndexes : Hd := ⟨[.st [.str, .int .i64, .sl 105 (.st [.int .i64, .sl 3 (.int .i64), .sl 3 (.int .i64)])]], [], none, .p, .sl 3 (.int .i64), (Ty.all (.sl 3 (.int .i64))), []⟩
def T_spec_ModeIndexes : FSig := ⟨H_spec_ModeIndexes.ps, H_spec_ModeIndexes.cs, H_spec_ModeIndexes.io, H_spec_ModeIndexes.im, H_spec_ModeIndexes.R, H_spec_ModeIndexes.m, spec_ModeIndexes⟩
theorem E_spec_ModeIndexes : fnOf tys [(139, T_spec_IntRange)] Tryz.f109 H_spec_ModeIndexes = T_spec_ModeIndexes := by kernel_rfl
theorem K_spec_ModeIndexes : SigOk Tryz.prog 109 T_spec_ModeIndexes := (congrArg (SigOk Tryz.prog 109) E_spec_ModeIndexes).mp (fnOf_ok rfl tysOk ⟨K_spec_IntRange, trivial⟩ Tryz.func109 (by decide) rfl (fun _ h => by cases h) (nilEq_of (by kernel_rfl)))
def spec_DomainForm_L0 : (Int × (Int × ((List D_Activity) × (D_Domain × Unit)))) → Option (Out (Int × (Int × ((List D_Activity) × (D_Domain × Unit)))) ((Bool × (Int × (Int × ((List D_Activity) × (D_Domain × Unit))))) ⊕ Empty) (Bool × Unit)) :=
  (fun v5 => (if (ltZ v5.1 v5.2.1) = true then (Option.bind (getI v5.2.2.1 v5.1) fun v6 => (Option.bind (getI v5.2.2.2.1.1 v5.1) fun v7 => (Option.bind ((Option.bind (spec_l01In (v7, ((-2), (62, ()))) ()) fun v8 => (some v8.1)) : (Option Bool)) fun v9 => (Option.bind ((if (notB v9) = true then (some (true, (v5.1, (v5.2.1, (v5.2.2.1, (v5.2.2.2.1, ())))))) else (Option.bind (getI v5.2.2.2.1.2.1 v5.1) fun v10 => (Option.bind ((Option.bind (spec_l01In (v10, ((-2), (62, ()))) ()) fun v11 => (some v11.1)) : (Option Bool)) fun v12 => (Option.bind ((if (notB v12) = true then (some (true, (v5.1, (v5.2.1, (v5.2.2.1, (v5.2.2.2.1, ())))))) else (Option.bind (getI v5.2.2.2.1.2.2.1 v5.1) fun v13 => (Option.bind ((Option.bind (spec_SetOk (v13, ()) ()) fun v14 => (some v14.1)) : (Option Bool)) fun v15 => (Option.bind ((if (notB v15) = true then (some (true, (v5.1, (v5.2.1, (v5.2.2.1, (v5.2.2.2.1, ())))))) else (Option.bind (getI v5.2.2.2.1.2.2.1 v5.1) fun v16 => (Option.bind ((Option.bind (spec_ModeIndexes (v6, ()) ()) fun v17 => (some v17.1)) : (Option (List Int))) fun v18 => (Option.bind ((Option.bind (spec_SetSubset (v16, (v18, ())) ()) fun v19 => (some v19.1)) : (Option Bool)) fun v20 => (some ((notB v20), (v5.1, (v5.2.1, (v5.2.2.1, (v5.2.2.2.1, ())))))))))) : (Option (Bool × (Int × (Int × ((List D_Activity) × (D_Domain × Unit))))))) fun v21 => (some (v21.1, (v21.2.1, (v21.2.2.1, (v21.2.2.2.1, (v21.2.2.2.2.1, ())))))))))) : (Option (Bool × (Int × (Int × ((List D_Activity) × (D_Domain × Unit))))))) fun v22 => (some (v22.1, (v22.2.1, (v22.2.2.1, (v22.2.2.2.1, (v22.2.2.2.2.1, ())))))))))) : (Option (Bool × (Int × (Int × ((List D_Activity) × (D_Domain × Unit))))))) fun v23 => (if v23.1 = true then (some (Out.ret (false, ()))) else (some (Out.norm ((addZ .i64 v23.2.1 1), (v23.2.2.1, (v23.2.2.2.1, (v23.2.2.2.2.1, ()))))))))))) else (some (Out.exit (Sum.inl ((ltZ v5.1 v5.2.1), (v5.1, (v5.2.1, (v5.2.2.1, (v5.2.2.2.1, ()))))))))))
def spec_DomainForm (x : (D_Project × (D_Domain × Unit))) (c : Unit) : (Option (Bool × Unit)) :=
  (Option.bind ((Option.bind (spec_ProjectOk (x.1, ()) ()) fun v0 => (some v0.1)) : (Option Bool)) fun v1 => (Option.bind ((if (notB v1) = true then (some (true, (x.1, (x.2.1, ())))) else (Option.bind ((if (notB (eqZ (lenI x.2.1.1) (lenI x.1.2.1))) = true then (some (true, (x.1, (x.2.1, ())))) else (Option.bind ((if (notB (eqZ (lenI x.2.1.2.1) (lenI x.1.2.1))) = true then (some (true, (x.1, (x.2.1, ())))) else (some ((notB (eqZ (lenI x.2.1.2.2.1) (lenI x.1.2.1))), (x.1, (x.2.1, ()))))) : (Option (Bool × (D_Project × (D_Domain × Unit))))) fun v2 => (some (v2.1, (v2.2.1, (v2.2.2.1, ())))))) : (Option (Bool × (D_Project × (D_Domain × Unit))))) fun v3 => (some (v3.1, (v3.2.1, (v3.2.2.1, ())))))) : (Option (Bool × (D_Project × (D_Domain × Unit))))) fun v4 => (if v4.1 = true then (some (false, ())) else (Option.bind (loopN (A := (Int × (Int × ((List D_Activity) × (D_Domain × Unit))))) big spec_DomainForm_L0 (0, ((lenI v4.2.1.2.1), (v4.2.1.2.1, (v4.2.2.1, ()))))) fun v24 => (match v24 with | Out.norm v25 => none | Out.exit v26 => (match ((match v26 with | Sum.inl v29 => (Sum.inl ()) | Sum.inr v30 => (Empty.elim v30)) : (Unit ⊕ Empty)) with | Sum.inl v27 => (some (true, ())) | Sum.inr v28 => none) | Out.ret v31 => (some v31))))))
def H_spec_DomainForm : Hd := ⟨[.st [.int .i64, .sl 74 (.st [.str, .int .i64, .sl 105 (.st [.int .i64, .sl 3 (.int .i64), .sl 3 (.int .i64)])]), .sl 109 (.st [.int .i64, .int .i64, .bool, .int .i64]), .sl 114 (.st [.sl 149 (.st [.int .i64, .int .i64]), .sl 25 (.sl 3 (.int .i64))]), .sl 3 (.int .i64)], .st [.sl 3 (.int .i64), .sl 3 (.int .i64), .sl 25 (.sl 3 (.int .i64))]], [], none, .p, .bool, .p, []⟩
def T_spec_DomainForm : FSig := ⟨H_spec_DomainForm.ps, H_spec_DomainForm.cs, H_spec_DomainForm.io, H_spec_DomainForm.im, H_spec_DomainForm.R, H_spec_DomainForm.m, spec_DomainForm⟩
theorem E_spec_DomainForm : fnOf tys [(45, T_spec_l01In), (106, T_spec_ProjectOk), (107, T_spec_SetOk), (108, T_spec_SetSubset), (109, T_spec_ModeIndexes)] Tryz.f75 H_spec_DomainForm = T_spec_DomainForm := by kernel_rfl
theorem K_spec_DomainForm : SigOk Tryz.prog 75 T_spec_DomainForm := (congrArg (SigOk Tryz.prog 75) E_spec_DomainForm).mp (fnOf_ok rfl tysOk ⟨K_spec_l01In, K_spec_ProjectOk, K_spec_SetOk, K_spec_SetSubset, K_spec_ModeIndexes, trivial⟩ Tryz.func75 (by decide) rfl (fun _ h => by cases h) (nilEq_of (by kernel_rfl)))
def spec_DomainEmpty_L0 : (Int × (Int × ((List Int) × (D_Domain × Unit)))) → Option (Out (Int × (Int × ((List Int) × (D_Domain × Unit)))) ((Bool × (Int × (Int × ((List Int) × (D_Domain × Unit))))) ⊕ Empty) (Bool × Unit)) :=
  (fun v0 => (if (ltZ v0.1 v0.2.1) = true then (Option.bind (getI v0.2.2.1 v0.1) fun v1 => (Option.bind ((if (ltZ v0.1 (lenI v0.2.2.2.1.2.1)) = true then (Option.bind (getI v0.2.2.2.1.2.1 v0.1) fun v2 => (some ((ltZ v2 v1), (v0.1, (v0.2.1, (v0.2.2.1, (v0.2.2.2.1, ()))))))) else (some (false, (v0.1, (v0.2.1, (v0.2.2.1, (v0.2.2.2.1, ()))))))) : (Option (Bool × (Int × (Int × ((List Int) × (D_Domain × Unit))))))) fun v3 => (if v3.1 = true then (some (Out.ret (true, ()))) else (some (Out.norm ((addZ .i64 v3.2.1 1), (v3.2.2.1, (v3.2.2.2.1, (v3.2.2.2.2.1, ()))))))))) else (some (Out.exit (Sum.inl ((ltZ v0.1 v0.2.1), (v0.1, (v0.2.1, (v0.2.2.1, (v0.2.2.2.1, ()))))))))))
def spec_DomainEmpty_L1 : (Int × (Int × ((List (List Int)) × Unit))) → Option (Out (Int × (Int × ((List (List Int)) × Unit))) ((Bool × (Int × (Int × ((List (List Int)) × Unit)))) ⊕ Empty) (Bool × Unit)) :=
  (fun v8 => (if (ltZ v8.1 v8.2.1) = true then (Option.bind (getI v8.2.2.1 v8.1) fun v9 => (if (eqZ (lenI v9) 0) = true then (some (Out.ret (true, ()))) else (some (Out.norm ((addZ .i64 v8.1 1), (v8.2.1, (v8.2.2.1, ()))))))) else (some (Out.exit (Sum.inl ((ltZ v8.1 v8.2.1), (v8.1, (v8.2.1, (v8.2.2.1, ())))))))))
def spec_DomainEmpty (x : (D_Domain × Unit)) (c : Unit) : (Option (Bool × Unit)) :=
  (Option.bind (loopN (A := (Int × (Int × ((List Int) × (D_Domain × Unit))))) big spec_DomainEmpty_L0 (0, ((lenI x.1.1), (x.1.1, (x.1, ()))))) fun v4 => (match v4 with | Out.norm v5 => none | Out.exit v6 => (match ((match v6 with | Sum.inl v19 => (Sum.inl (v19.2.2.2.2.1, ())) | Sum.inr v20 => (Empty.elim v20)) : ((D_Domain × Unit) ⊕ Empty)) with | Sum.inl v7 => (Option.bind (loopN (A := (Int × (Int × ((List (List Int)) × Unit)))) big spec_DomainEmpty_L1 (0, ((lenI v7.1.2.2.1), (v7.1.2.2.1, ())))) fun v10 => (match v10 with | Out.norm v11 => none | Out.exit v12 => (match ((match v12 with | Sum.inl v15 => (Sum.inl ()) | Sum.inr v16 => (Empty.elim v16)) : (Unit ⊕ Empty)) with | Sum.inl v13 => (some (false, ())) | Sum.inr v14 => none) | Out.ret v17 => (some v17))) | Sum.inr v18 => none) | Out.ret v21 => (some v21)))
def H_spec_DomainEmpty : Hd := ⟨[.st [.sl 3 (.int .i64), .sl 3 (.int .i64), .sl 25 (.sl 3 (.int .i64))]], [], none, .p, .bool, .p, []⟩
def T_spec_DomainEmpty : FSig := ⟨H_spec_DomainEmpty.ps, H_spec_DomainEmpty.cs, H_spec_DomainEmpty.io, H_spec_DomainEmpty.im, H_spec_DomainEmpty.R, H_spec_DomainEmpty.m, spec_DomainEmpty⟩
theorem E_spec_DomainEmpty : fnOf tys [] Tryz.f76 H_spec_DomainEmpty = T_spec_DomainEmpty := by kernel_rfl
theorem K_spec_DomainEmpty : SigOk Tryz.prog 76 T_spec_DomainEmpty := (congrArg (SigOk Tryz.prog 76) E_spec_DomainEmpty).mp (fnOf_ok rfl tysOk trivial Tryz.func76 (by decide) rfl (fun _ h => by cases h) (nilEq_of (by kernel_rfl)))
def spec_l14Ok (x : (D_Project × (D_Domain × Unit))) (c : Unit) : (Option (Bool × Unit)) :=
  (Option.bind ((Option.bind (spec_DomainForm (x.1, (x.2.1, ())) ()) fun v0 => (some v0.1)) : (Option Bool)) fun v1 => (Option.bind ((if v1 = true then (Option.bind ((Option.bind (spec_DomainEmpty (x.2.1, ()) ()) fun v2 => (some v2.1)) : (Option Bool)) fun v3 => (some ((notB v3), ()))) else (some (false, ()))) : (Option (Bool × Unit))) fun v4 => (some (v4.1, ()))))
def H_spec_l14Ok : Hd := ⟨[.st [.int .i64, .sl 74 (.st [.str, .int .i64, .sl 105 (.st [.int .i64, .sl 3 (.int .i64), .sl 3 (.int .i64)])]), .sl 109 (.st [.int .i64, .int .i64, .bool, .int .i64]), .sl 114 (.st [.sl 149 (.st [.int .i64, .int .i64]), .sl 25 (.sl 3 (.int .i64))]), .sl 3 (.int .i64)], .st [.sl 3 (.int .i64), .sl 3 (.int .i64), .sl 25 (.sl 3 (.int .i64))]], [], none, .p, .bool, .p, []⟩
def T_spec_l14Ok : FSig := ⟨H_spec_l14Ok.ps, H_spec_l14Ok.cs, H_spec_l14Ok.io, H_spec_l14Ok.im, H_spec_l14Ok.R, H_spec_l14Ok.m, spec_l14Ok⟩
theorem E_spec_l14Ok : fnOf tys [(75, T_spec_DomainForm), (76, T_spec_DomainEmpty)] Tryz.f44 H_spec_l14Ok = T_spec_l14Ok := by kernel_rfl
theorem K_spec_l14Ok : SigOk Tryz.prog 44 T_spec_l14Ok := (congrArg (SigOk Tryz.prog 44) E_spec_l14Ok).mp (fnOf_ok rfl tysOk ⟨K_spec_DomainForm, K_spec_DomainEmpty, trivial⟩ Tryz.func44 (by decide) rfl (fun _ h => by cases h) (nilEq_of (by kernel_rfl)))
def spec_MinDuration_L0 : (Int × (Int × ((List D_Mode) × ((List Int) × (Bool × (Int × Unit)))))) → Option (Out (Int × (Int × ((List D_Mode) × ((List Int) × (Bool × (Int × Unit)))))) ((Bool × (Int × (Int × ((List D_Mode) × ((List Int) × (Bool × (Int × Unit))))))) ⊕ Empty) (Int × Unit)) :=
  (fun v0 => (if (ltZ v0.1 v0.2.1) = true then (Option.bind (getI v0.2.2.1 v0.1) fun v1 => (Option.bind ((Option.bind (spec_SetHas (v0.2.2.2.1, (v0.1, ())) ()) fun v2 => (some v2.1)) : (Option Bool)) fun v3 => (Option.bind ((if v3 = true then (Option.bind ((if (notB v0.2.2.2.2.1) = true then (some (true, (v1, (v0.1, (v0.2.1, (v0.2.2.1, (v0.2.2.2.1, (v0.2.2.2.2.1, (v0.2.2.2.2.2.1, ()))))))))) else (some ((ltZ v1.1 v0.2.2.2.2.2.1), (v1, (v0.1, (v0.2.1, (v0.2.2.1, (v0.2.2.2.1, (v0.2.2.2.2.1, (v0.2.2.2.2.2.1, ())))))))))) : (Option (Bool × (D_Mode × (Int × (Int × ((List D_Mode) × ((List Int) × (Bool × (Int × Unit)))))))))) fun v4 => (some (v4.1, (v4.2.1, (v4.2.2.1, (v4.2.2.2.1, (v4.2.2.2.2.1, (v4.2.2.2.2.2.1, (v4.2.2.2.2.2.2.1, (v4.2.2.2.2.2.2.2.1, ())))))))))) else (some (false, (v1, (v0.1, (v0.2.1, (v0.2.2.1, (v0.2.2.2.1, (v0.2.2.2.2.1, (v0.2.2.2.2.2.1, ())))))))))) : (Option (Bool × (D_Mode × (Int × (Int × ((List D_Mode) × ((List Int) × (Bool × (Int × Unit)))))))))) fun v5 => (Option.bind ((if v5.1 = true then (some (Out.norm (v5.2.2.1, (v5.2.2.2.1, (v5.2.2.2.2.1, (v5.2.2.2.2.2.1, (true, (v5.2.1.1, ())))))))) else (some (Out.norm (v5.2.2.1, (v5.2.2.2.1, (v5.2.2.2.2.1, (v5.2.2.2.2.2.1, (v5.2.2.2.2.2.2.1, (v5.2.2.2.2.2.2.2.1, ()))))))))) : (Option (Out (Int × (Int × ((List D_Mode) × ((List Int) × (Bool × (Int × Unit)))))) Empty (Int × Unit)))) fun v6 => (match ((match ((match v6 with | Out.norm v15 => (Out.norm v15) | Out.exit v16 => (Out.exit v16) | Out.ret v17 => (Out.ret v17)) : (Out (Int × (Int × ((List D_Mode) × ((List Int) × (Bool × (Int × Unit)))))) Empty (Int × Unit))) with | Out.norm v12 => (Out.norm v12) | Out.exit v13 => (Out.exit v13) | Out.ret v14 => (Out.ret v14)) : (Out (Int × (Int × ((List D_Mode) × ((List Int) × (Bool × (Int × Unit)))))) Empty (Int × Unit))) with | Out.norm v7 => (some (Out.norm ((addZ .i64 v7.1 1), (v7.2.1, (v7.2.2.1, (v7.2.2.2.1, (v7.2.2.2.2.1, (v7.2.2.2.2.2.1, ())))))))) | Out.exit v8 => (match ((Empty.elim v8) : ((Int × (Int × ((List D_Mode) × ((List Int) × (Bool × (Int × Unit)))))) ⊕ Empty)) with | Sum.inl v9 => (some (Out.norm ((addZ .i64 v9.1 1), (v9.2.1, (v9.2.2.1, (v9.2.2.2.1, (v9.2.2.2.2.1, (v9.2.2.2.2.2.1, ())))))))) | Sum.inr v10 => (some (Out.exit (Sum.inr (Empty.elim v10))))) | Out.ret v11 => (some (Out.ret v11))))))) else (some (Out.exit (Sum.inl ((ltZ v0.1 v0.2.1), (v0.1, (v0.2.1, (v0.2.2.1, (v0.2.2.2.1, (v0.2.2.2.2.1, (v0.2.2.2.2.2.1, ()))))))))))))
def spec_MinDuration (x : (D_Activity × ((List Int) × Unit))) (c : Unit) : (Option (Int × Unit)) :=
  (Option.bind (loopN (A := (Int × (Int × ((List D_Mode) × ((List Int) × (Bool × (Int × Unit))))))) big spec_MinDuration_L0 (0, ((lenI x.1.2.2.1), (x.1.2.2.1, (x.2.1, (false, (0, ()))))))) fun v18 => (match v18 with | Out.norm v19 => none | Out.exit v20 => (match ((match v20 with | Sum.inl v23 => (Sum.inl (v23.2.2.2.2.2.2.1, ())) | Sum.inr v24 => (Empty.elim v24)) : ((Int × Unit) ⊕ Empty)) with | Sum.inl v21 => (some (v21.1, ())) | Sum.inr v22 => none) | Out.ret v25 => (some v25)))
def H_spec_MinDuration : Hd := ⟨[.st [.str, .int .i64, .sl 105 (.st [.int .i64, .sl 3 (.int .i64), .sl 3 (.int .i64)])], .sl 3 (.int .i64)], [], none, .p, .int .i64, .p, []⟩
def T_spec_MinDuration : FSig := ⟨H_spec_MinDuration.ps, H_spec_MinDuration.cs, H_spec_MinDuration.io, H_spec_MinDuration.im, H_spec_MinDuration.R, H_spec_MinDuration.m, spec_MinDuration⟩
theorem E_spec_MinDuration : fnOf tys [(78, T_spec_SetHas)] Tryz.f110 H_spec_MinDuration = T_spec_MinDuration := by kernel_rfl
theorem K_spec_MinDuration : SigOk Tryz.prog 110 T_spec_MinDuration := (congrArg (SigOk Tryz.prog 110) E_spec_MinDuration).mp (fnOf_ok rfl tysOk ⟨K_spec_SetHas, trivial⟩ Tryz.func110 (by decide) rfl (fun _ h => by cases h) (nilEq_of (by kernel_rfl)))
def spec_l14Short (x : (D_Project × (D_Domain × (Int × Unit)))) (c : Unit) : (Option (Int × Unit)) :=
  (Option.bind (getI x.1.2.1 x.2.2.1) fun v0 => (Option.bind (getI x.2.1.2.2.1 x.2.2.1) fun v1 => (Option.bind ((Option.bind (spec_MinDuration (v0, (v1, ())) ()) fun v2 => (some v2.1)) : (Option Int)) fun v3 => (some (v3, ())))))
def H_spec_l14Short : Hd := ⟨[.st [.int .i64, .sl 74 (.st [.str, .int .i64, .sl 105 (.st [.int .i64, .sl 3 (.int .i64), .sl 3 (.int .i64)])]), .sl 109 (.st [.int .i64, .int .i64, .bool, .int .i64]), .sl 114 (.st [.sl 149 (.st [.int .i64, .int .i64]), .sl 25 (.sl 3 (.int .i64))]), .sl 3 (.int .i64)], .st [.sl 3 (.int .i64), .sl 3 (.int .i64), .sl 25 (.sl 3 (.int .i64))], .int .i64], [], none, .p, .int .i64, .p, []⟩
def T_spec_l14Short : FSig := ⟨H_spec_l14Short.ps, H_spec_l14Short.cs, H_spec_l14Short.io, H_spec_l14Short.im, H_spec_l14Short.R, H_spec_l14Short.m, spec_l14Short⟩
theorem E_spec_l14Short : fnOf tys [(110, T_spec_MinDuration)] Tryz.f77 H_spec_l14Short = T_spec_l14Short := by kernel_rfl
theorem K_spec_l14Short : SigOk Tryz.prog 77 T_spec_l14Short := (congrArg (SigOk Tryz.prog 77) E_spec_l14Short).mp (fnOf_ok rfl tysOk ⟨K_spec_MinDuration, trivial⟩ Tryz.func77 (by decide) rfl (fun _ h => by cases h) (nilEq_of (by kernel_rfl)))
def spec_CompulsoryPart (x : (D_Project × (D_Domain × (Int × Unit)))) (c : Unit) : (Option ((Int × (Int × (Bool × Unit))) × Unit)) :=
  (Option.bind ((Option.bind (spec_l14Ok (x.1, (x.2.1, ())) ()) fun v0 => (some v0.1)) : (Option Bool)) fun v1 => (Option.bind ((if (notB v1) = true then (some (true, (x.1, (x.2.1, (x.2.2.1, ()))))) else (Option.bind ((Option.bind (spec_l01In (x.2.2.1, (0, ((subZ .i64 (lenI x.1.2.1) 1), ()))) ()) fun v2 => (some v2.1)) : (Option Bool)) fun v3 => (some ((notB v3), (x.1, (x.2.1, (x.2.2.1, ()))))))) : (Option (Bool × (D_Project × (D_Domain × (Int × Unit)))))) fun v4 => (if v4.1 = true then (some ((0, (0, (false, ()))), ())) else (Option.bind (getI v4.2.2.1.2.1 v4.2.2.2.1) fun v5 => (Option.bind (getI v4.2.2.1.1 v4.2.2.2.1) fun v6 => (Option.bind ((Option.bind (spec_l14Short (v4.2.1, (v4.2.2.1, (v4.2.2.2.1, ()))) ()) fun v7 => (some v7.1)) : (Option Int)) fun v8 => (if (leZ (addZ .i64 v6 v8) v5) = true then (some ((0, (0, (false, ()))), ())) else (some ((v5, ((addZ .i64 v6 v8), (true, ()))), ())))))))))
def H_spec_CompulsoryPart : Hd := ⟨[.st [.int .i64, .sl 74 (.st [.str, .int .i64, .sl 105 (.st [.int .i64, .sl 3 (.int .i64), .sl 3 (.int .i64)])]), .sl 109 (.st [.int .i64, .int .i64, .bool, .int .i64]), .sl 114 (.st [.sl 149 (.st [.int .i64, .int .i64]), .sl 25 (.sl 3 (.int .i64))]), .sl 3 (.int .i64)], .st [.sl 3 (.int .i64), .sl 3 (.int .i64), .sl 25 (.sl 3 (.int .i64))], .int .i64], [], none, .p, .tup [.int .i64, .int .i64, .bool], .p, []⟩
def T_spec_CompulsoryPart : FSig := ⟨H_spec_CompulsoryPart.ps, H_spec_CompulsoryPart.cs, H_spec_CompulsoryPart.io, H_spec_CompulsoryPart.im, H_spec_CompulsoryPart.R, H_spec_CompulsoryPart.m, spec_CompulsoryPart⟩
theorem E_spec_CompulsoryPart : fnOf tys [(44, T_spec_l14Ok), (45, T_spec_l01In), (77, T_spec_l14Short)] Tryz.f46 H_spec_CompulsoryPart = T_spec_CompulsoryPart := by kernel_rfl
theorem K_spec_CompulsoryPart : SigOk Tryz.prog 46 T_spec_CompulsoryPart := (congrArg (SigOk Tryz.prog 46) E_spec_CompulsoryPart).mp (fnOf_ok rfl tysOk ⟨K_spec_l14Ok, K_spec_l01In, K_spec_l14Short, trivial⟩ Tryz.func46 (by decide) rfl (fun _ h => by cases h) (nilEq_of (by kernel_rfl)))
def spec_MaxDuration_L0 : (Int × (Int × ((List D_Mode) × ((List Int) × (Bool × (Int × Unit)))))) → Option (Out (Int × (Int × ((List D_Mode) × ((List Int) × (Bool × (Int × Unit)))))) ((Bool × (Int × (Int × ((List D_Mode) × ((List Int) × (Bool × (Int × Unit))))))) ⊕ Empty) (Int × Unit)) :=
  (fun v0 => (if (ltZ v0.1 v0.2.1) = true then (Option.bind (getI v0.2.2.1 v0.1) fun v1 => (Option.bind ((Option.bind (spec_SetHas (v0.2.2.2.1, (v0.1, ())) ()) fun v2 => (some v2.1)) : (Option Bool)) fun v3 => (Option.bind ((if v3 = true then (Option.bind ((if (notB v0.2.2.2.2.1) = true then (some (true, (v1, (v0.1, (v0.2.1, (v0.2.2.1, (v0.2.2.2.1, (v0.2.2.2.2.1, (v0.2.2.2.2.2.1, ()))))))))) else (some ((ltZ v0.2.2.2.2.2.1 v1.1), (v1, (v0.1, (v0.2.1, (v0.2.2.1, (v0.2.2.2.1, (v0.2.2.2.2.1, (v0.2.2.2.2.2.1, ())))))))))) : (Option (Bool × (D_Mode × (Int × (Int × ((List D_Mode) × ((List Int) × (Bool × (Int × Unit)))))))))) fun v4 => (some (v4.1, (v4.2.1, (v4.2.2.1, (v4.2.2.2.1, (v4.2.2.2.2.1, (v4.2.2.2.2.2.1, (v4.2.2.2.2.2.2.1, (v4.2.2.2.2.2.2.2.1, ())))))))))) else (some (false, (v1, (v0.1, (v0.2.1, (v0.2.2.1, (v0.2.2.2.1, (v0.2.2.2.2.1, (v0.2.2.2.2.2.1, ())))))))))) : (Option (Bool × (D_Mode × (Int × (Int × ((List D_Mode) × ((List Int) × (Bool × (Int × Unit)))))))))) fun v5 => (Option.bind ((if v5.1 = true then (some (Out.norm (v5.2.2.1, (v5.2.2.2.1, (v5.2.2.2.2.1, (v5.2.2.2.2.2.1, (true, (v5.2.1.1, ())))))))) else (some (Out.norm (v5.2.2.1, (v5.2.2.2.1, (v5.2.2.2.2.1, (v5.2.2.2.2.2.1, (v5.2.2.2.2.2.2.1, (v5.2.2.2.2.2.2.2.1, ()))))))))) : (Option (Out (Int × (Int × ((List D_Mode) × ((List Int) × (Bool × (Int × Unit)))))) Empty (Int × Unit)))) fun v6 => (match ((match ((match v6 with | Out.norm v15 => (Out.norm v15) | Out.exit v16 => (Out.exit v16) | Out.ret v17 => (Out.ret v17)) : (Out (Int × (Int × ((List D_Mode) × ((List Int) × (Bool × (Int × Unit)))))) Empty (Int × Unit))) with | Out.norm v12 => (Out.norm v12) | Out.exit v13 => (Out.exit v13) | Out.ret v14 => (Out.ret v14)) : (Out (Int × (Int × ((List D_Mode) × ((List Int) × (Bool × (Int × Unit)))))) Empty (Int × Unit))) with | Out.norm v7 => (some (Out.norm ((addZ .i64 v7.1 1), (v7.2.1, (v7.2.2.1, (v7.2.2.2.1, (v7.2.2.2.2.1, (v7.2.2.2.2.2.1, ())))))))) | Out.exit v8 => (match ((Empty.elim v8) : ((Int × (Int × ((List D_Mode) × ((List Int) × (Bool × (Int × Unit)))))) ⊕ Empty)) with | Sum.inl v9 => (some (Out.norm ((addZ .i64 v9.1 1), (v9.2.1, (v9.2.2.1, (v9.2.2.2.1, (v9.2.2.2.2.1, (v9.2.2.2.2.2.1, ())))))))) | Sum.inr v10 => (some (Out.exit (Sum.inr (Empty.elim v10))))) | Out.ret v11 => (some (Out.ret v11))))))) else (some (Out.exit (Sum.inl ((ltZ v0.1 v0.2.1), (v0.1, (v0.2.1, (v0.2.2.1, (v0.2.2.2.1, (v0.2.2.2.2.1, (v0.2.2.2.2.2.1, ()))))))))))))
def spec_MaxDuration (x : (D_Activity × ((List Int) × Unit))) (c : Unit) : (Option (Int × Unit)) :=
  (Option.bind (loopN (A := (Int × (Int × ((List D_Mode) × ((List Int) × (Bool × (Int × Unit))))))) big spec_MaxDuration_L0 (0, ((lenI x.1.2.2.1), (x.1.2.2.1, (x.2.1, (false, (0, ()))))))) fun v18 => (match v18 with | Out.norm v19 => none | Out.exit v20 => (match ((match v20 with | Sum.inl v23 => (Sum.inl (v23.2.2.2.2.2.2.1, ())) | Sum.inr v24 => (Empty.elim v24)) : ((Int × Unit) ⊕ Empty)) with | Sum.inl v21 => (some (v21.1, ())) | Sum.inr v22 => none) | Out.ret v25 => (some v25)))
def H_spec_MaxDuration : Hd := ⟨[.st [.str, .int .i64, .sl 105 (.st [.int .i64, .sl 3 (.int .i64), .sl 3 (.int .i64)])], .sl 3 (.int .i64)], [], none, .p, .int .i64, .p, []⟩
def T_spec_MaxDuration : FSig := ⟨H_spec_MaxDuration.ps, H_spec_MaxDuration.cs, H_spec_MaxDuration.io, H_spec_MaxDuration.im, H_spec_MaxDuration.R, H_spec_MaxDuration.m, spec_MaxDuration⟩
theorem E_spec_MaxDuration : fnOf tys [(78, T_spec_SetHas)] Tryz.f47 H_spec_MaxDuration = T_spec_MaxDuration := by kernel_rfl
theorem K_spec_MaxDuration : SigOk Tryz.prog 47 T_spec_MaxDuration := (congrArg (SigOk Tryz.prog 47) E_spec_MaxDuration).mp (fnOf_ok rfl tysOk ⟨K_spec_SetHas, trivial⟩ Tryz.func47 (by decide) rfl (fun _ h => by cases h) (nilEq_of (by kernel_rfl)))
def spec_DomainRow_L0 : (Int × (D_Project × (Bool × (Int × (Int × (D_Domain × (Int × (Int × ((List UInt8) × Unit))))))))) → Option (Out (Int × (D_Project × (Bool × (Int × (Int × (D_Domain × (Int × (Int × ((List UInt8) × Unit))))))))) ((Bool × (Int × (D_Project × (Bool × (Int × (Int × (D_Domain × (Int × (Int × ((List UInt8) × Unit)))))))))) ⊕ Empty) ((List UInt8) × Unit)) :=
  (fun v12 => (if (ltZ v12.1 v12.2.1.1) = true then (Option.bind ((if v12.2.2.1 = true then (Option.bind ((if (leZ v12.2.2.2.1 v12.1) = true then (some ((ltZ v12.1 v12.2.2.2.2.1), (v12.2.2.2.2.2.2.2.2.1, (v12.1, (v12.2.1, (v12.2.2.1, (v12.2.2.2.1, (v12.2.2.2.2.1, (v12.2.2.2.2.2.1, (v12.2.2.2.2.2.2.1, (v12.2.2.2.2.2.2.2.1, ()))))))))))) else (some (false, (v12.2.2.2.2.2.2.2.2.1, (v12.1, (v12.2.1, (v12.2.2.1, (v12.2.2.2.1, (v12.2.2.2.2.1, (v12.2.2.2.2.2.1, (v12.2.2.2.2.2.2.1, (v12.2.2.2.2.2.2.2.1, ())))))))))))) : (Option (Bool × ((List UInt8) × (Int × (D_Project × (Bool × (Int × (Int × (D_Domain × D_Step)))))))))) fun v13 => (some (v13.1, (v13.2.1, (v13.2.2.1, (v13.2.2.2.1, (v13.2.2.2.2.1, (v13.2.2.2.2.2.1, (v13.2.2.2.2.2.2.1, (v13.2.2.2.2.2.2.2.1, (v13.2.2.2.2.2.2.2.2.1, (v13.2.2.2.2.2.2.2.2.2.1, ())))))))))))) else (some (false, (v12.2.2.2.2.2.2.2.2.1, (v12.1, (v12.2.1, (v12.2.2.1, (v12.2.2.2.1, (v12.2.2.2.2.1, (v12.2.2.2.2.2.1, (v12.2.2.2.2.2.2.1, (v12.2.2.2.2.2.2.2.1, ())))))))))))) : (Option (Bool × ((List UInt8) × (Int × (D_Project × (Bool × (Int × (Int × (D_Domain × D_Step)))))))))) fun v14 => (Option.bind ((if v14.1 = true then (Option.bind (addI v14.2.1 [35]) fun v15 => (some (Out.norm (v14.2.2.1, (v14.2.2.2.1, (v14.2.2.2.2.1, (v14.2.2.2.2.2.1, (v14.2.2.2.2.2.2.1, (v14.2.2.2.2.2.2.2.1, (v14.2.2.2.2.2.2.2.2.1, (v14.2.2.2.2.2.2.2.2.2.1, (v15, ())))))))))))) else (Option.bind (getI v14.2.2.2.2.2.2.2.1.1 v14.2.2.2.2.2.2.2.2.1) fun v16 => (Option.bind ((if (leZ v16 v14.2.2.1) = true then (some ((ltZ v14.2.2.1 v14.2.2.2.2.2.2.2.2.2.1), (v14.2.1, (v14.2.2.1, (v14.2.2.2.1, (v14.2.2.2.2.1, (v14.2.2.2.2.2.1, (v14.2.2.2.2.2.2.1, (v14.2.2.2.2.2.2.2.1, (v14.2.2.2.2.2.2.2.2.1, (v14.2.2.2.2.2.2.2.2.2.1, ()))))))))))) else (some (false, (v14.2.1, (v14.2.2.1, (v14.2.2.2.1, (v14.2.2.2.2.1, (v14.2.2.2.2.2.1, (v14.2.2.2.2.2.2.1, (v14.2.2.2.2.2.2.2.1, (v14.2.2.2.2.2.2.2.2.1, (v14.2.2.2.2.2.2.2.2.2.1, ())))))))))))) : (Option (Bool × ((List UInt8) × (Int × (D_Project × (Bool × (Int × (Int × (D_Domain × D_Step)))))))))) fun v17 => (Option.bind ((if v17.1 = true then (Option.bind (addI v17.2.1 [45]) fun v18 => (some (Out.norm (v17.2.2.1, (v17.2.2.2.1, (v17.2.2.2.2.1, (v17.2.2.2.2.2.1, (v17.2.2.2.2.2.2.1, (v17.2.2.2.2.2.2.2.1, (v17.2.2.2.2.2.2.2.2.1, (v17.2.2.2.2.2.2.2.2.2.1, (v18, ())))))))))))) else (Option.bind (addI v17.2.1 [46]) fun v19 => (some (Out.norm (v17.2.2.1, (v17.2.2.2.1, (v17.2.2.2.2.1, (v17.2.2.2.2.2.1, (v17.2.2.2.2.2.2.1, (v17.2.2.2.2.2.2.2.1, (v17.2.2.2.2.2.2.2.2.1, (v17.2.2.2.2.2.2.2.2.2.1, (v19, ()))))))))))))) : (Option (Out (Int × (D_Project × (Bool × (Int × (Int × (D_Domain × (Int × (Int × ((List UInt8) × Unit))))))))) Empty ((List UInt8) × Unit)))) fun v20 => (match ((match v20 with | Out.norm v24 => (Out.norm v24) | Out.exit v25 => (Out.exit v25) | Out.ret v26 => (Out.ret v26)) : (Out (Int × (D_Project × (Bool × (Int × (Int × (D_Domain × (Int × (Int × ((List UInt8) × Unit))))))))) Empty ((List UInt8) × Unit))) with | Out.norm v21 => (some (Out.norm (v21.1, (v21.2.1, (v21.2.2.1, (v21.2.2.2.1, (v21.2.2.2.2.1, (v21.2.2.2.2.2.1, (v21.2.2.2.2.2.2.1, (v21.2.2.2.2.2.2.2.1, (v21.2.2.2.2.2.2.2.2.1, ()))))))))))) | Out.exit v22 => (some (Out.exit v22)) | Out.ret v23 => (some (Out.ret v23))))))) : (Option (Out (Int × (D_Project × (Bool × (Int × (Int × (D_Domain × (Int × (Int × ((List UInt8) × Unit))))))))) Empty ((List UInt8) × Unit)))) fun v27 => (match ((match v27 with | Out.norm v35 => (Out.norm v35) | Out.exit v36 => (Out.exit v36) | Out.ret v37 => (Out.ret v37)) : (Out (Int × (D_Project × (Bool × (Int × (Int × (D_Domain × (Int × (Int × ((List UInt8) × Unit))))))))) Empty ((List UInt8) × Unit))) with | Out.norm v28 => (some (Out.norm ((addZ .i64 v28.1 1), (v28.2.1, (v28.2.2.1, (v28.2.2.2.1, (v28.2.2.2.2.1, (v28.2.2.2.2.2.1, (v28.2.2.2.2.2.2.1, (v28.2.2.2.2.2.2.2.1, (v28.2.2.2.2.2.2.2.2.1, ()))))))))))) | Out.exit v29 => (match ((Empty.elim v29) : ((Int × (D_Project × (Bool × (Int × (Int × (D_Domain × (Int × (Int × ((List UInt8) × Unit))))))))) ⊕ Empty)) with | Sum.inl v30 => (some (Out.norm ((addZ .i64 v30.1 1), (v30.2.1, (v30.2.2.1, (v30.2.2.2.1, (v30.2.2.2.2.1, (v30.2.2.2.2.2.1, (v30.2.2.2.2.2.2.1, (v30.2.2.2.2.2.2.2.1, (v30.2.2.2.2.2.2.2.2.1, ()))))))))))) | Sum.inr v31 => (match ((Empty.elim v31) : ((Int × (D_Project × (Bool × (Int × (Int × (D_Domain × (Int × (Int × ((List UInt8) × Unit))))))))) ⊕ Empty)) with | Sum.inl v32 => (some (Out.norm ((addZ .i64 v32.1 1), (v32.2.1, (v32.2.2.1, (v32.2.2.2.1, (v32.2.2.2.2.1, (v32.2.2.2.2.2.1, (v32.2.2.2.2.2.2.1, (v32.2.2.2.2.2.2.2.1, (v32.2.2.2.2.2.2.2.2.1, ()))))))))))) | Sum.inr v33 => (some (Out.exit (Sum.inr (Empty.elim v33)))))) | Out.ret v34 => (some (Out.ret v34))))) else (some (Out.exit (Sum.inl ((ltZ v12.1 v12.2.1.1), (v12.1, (v12.2.1, (v12.2.2.1, (v12.2.2.2.1, (v12.2.2.2.2.1, (v12.2.2.2.2.2.1, (v12.2.2.2.2.2.2.1, (v12.2.2.2.2.2.2.2.1, (v12.2.2.2.2.2.2.2.2.1, ())))))))))))))))
def spec_DomainRow (x : (D_Project × (D_Domain × (Int × Unit)))) (c : Unit) : (Option ((List UInt8) × Unit)) :=
  (Option.bind ((Option.bind (spec_l14Ok (x.1, (x.2.1, ())) ()) fun v0 => (some v0.1)) : (Option Bool)) fun v1 => (Option.bind ((if (notB v1) = true then (some (true, (x.1, (x.2.1, (x.2.2.1, ()))))) else (Option.bind ((Option.bind (spec_l01In (x.2.2.1, (0, ((subZ .i64 (lenI x.1.2.1) 1), ()))) ()) fun v2 => (some v2.1)) : (Option Bool)) fun v3 => (some ((notB v3), (x.1, (x.2.1, (x.2.2.1, ()))))))) : (Option (Bool × (D_Project × (D_Domain × (Int × Unit)))))) fun v4 => (if v4.1 = true then (some ([], ())) else (Option.bind ((Option.bind (spec_CompulsoryPart (v4.2.1, (v4.2.2.1, (v4.2.2.2.1, ()))) ()) fun v5 => (some v5.1)) : (Option (Int × (Int × (Bool × Unit))))) fun v6 => (Option.bind (getI v4.2.2.1.2.1 v4.2.2.2.1) fun v7 => (Option.bind (getI v4.2.1.2.1 v4.2.2.2.1) fun v8 => (Option.bind (getI v4.2.2.1.2.2.1 v4.2.2.2.1) fun v9 => (Option.bind ((Option.bind (spec_MaxDuration (v8, (v9, ())) ()) fun v10 => (some v10.1)) : (Option Int)) fun v11 => (Option.bind (loopN (A := (Int × (D_Project × (Bool × (Int × (Int × (D_Domain × (Int × (Int × ((List UInt8) × Unit)))))))))) big spec_DomainRow_L0 (0, (v4.2.1, (v6.2.2.1, (v6.1, (v6.2.1, (v4.2.2.1, (v4.2.2.2.1, ((addZ .i64 v7 v11), ([], ())))))))))) fun v38 => (match v38 with | Out.norm v39 => none | Out.exit v40 => (match ((match v40 with | Sum.inl v43 => (Sum.inl (v43.2.2.2.2.2.2.2.2.2.1, ())) | Sum.inr v44 => (Empty.elim v44)) : (((List UInt8) × Unit) ⊕ Empty)) with | Sum.inl v41 => (some (v41.1, ())) | Sum.inr v42 => none) | Out.ret v45 => (some v45)))))))))))
def H_spec_DomainRow : Hd := ⟨[.st [.int .i64, .sl 74 (.st [.str, .int .i64, .sl 105 (.st [.int .i64, .sl 3 (.int .i64), .sl 3 (.int .i64)])]), .sl 109 (.st [.int .i64, .int .i64, .bool, .int .i64]), .sl 114 (.st [.sl 149 (.st [.int .i64, .int .i64]), .sl 25 (.sl 3 (.int .i64))]), .sl 3 (.int .i64)], .st [.sl 3 (.int .i64), .sl 3 (.int .i64), .sl 25 (.sl 3 (.int .i64))], .int .i64], [], none, .p, .str, .p, []⟩
def T_spec_DomainRow : FSig := ⟨H_spec_DomainRow.ps, H_spec_DomainRow.cs, H_spec_DomainRow.io, H_spec_DomainRow.im, H_spec_DomainRow.R, H_spec_DomainRow.m, spec_DomainRow⟩
theorem E_spec_DomainRow : fnOf tys [(44, T_spec_l14Ok), (45, T_spec_l01In), (46, T_spec_CompulsoryPart), (47, T_spec_MaxDuration)] Tryz.f12 H_spec_DomainRow = T_spec_DomainRow := by kernel_rfl
theorem K_spec_DomainRow : SigOk Tryz.prog 12 T_spec_DomainRow := (congrArg (SigOk Tryz.prog 12) E_spec_DomainRow).mp (fnOf_ok rfl tysOk ⟨K_spec_l14Ok, K_spec_l01In, K_spec_CompulsoryPart, K_spec_MaxDuration, trivial⟩ Tryz.func12 (by decide) rfl (fun _ h => by cases h) (nilEq_of (by kernel_rfl)))
def laws_toIntS_L0 : D_Mode → Option (Out D_Mode ((Bool × D_Mode) ⊕ Empty) ((List Int) × Unit)) :=
  (fun v1 => (if (ltZ v1.1 (lenI v1.2.1)) = true then (Option.bind (getI v1.2.1 v1.1) fun v2 => (Option.bind ((Option.bind (getI v1.2.2.1 v1.1) fun v3 => (some ())) : (Option Unit)) fun v4 => (Option.bind ((Option.bind ((Option.bind (getI v1.2.2.1 v1.1) fun v5 => (some v5)) : (Option Int)) fun v6 => (some v2)) : (Option Int)) fun v7 => (some (Out.norm ((addZ .i64 v1.1 1), (v1.2.1, ((setI v1.2.2.1 v1.1 (fun v8 => v7)), ())))))))) else (some (Out.exit (Sum.inl ((ltZ v1.1 (lenI v1.2.1)), (v1.1, (v1.2.1, (v1.2.2.1, ())))))))))
def laws_toIntS (x : ((List Int) × Unit)) (c : Unit) : (Option ((List Int) × Unit)) :=
  (Option.bind ((if (eqZ (lenI x.1) (lenI x.1)) = true then (zerosI (lenI x.1) 0) else none) : (Option (List Int))) fun v0 => (Option.bind (loopN (A := D_Mode) big laws_toIntS_L0 (0, (x.1, (v0, ())))) fun v9 => (match v9 with | Out.norm v10 => none | Out.exit v11 => (match ((match v11 with | Sum.inl v14 => (Sum.inl (v14.2.2.2.1, ())) | Sum.inr v15 => (Empty.elim v15)) : (((List Int) × Unit) ⊕ Empty)) with | Sum.inl v12 => (some (v12.1, ())) | Sum.inr v13 => none) | Out.ret v16 => (some v16))))
def H_laws_toIntS : Hd := ⟨[.sl 3 (.int .i64)], [], none, .p, .sl 3 (.int .i64), (Ty.all (.sl 3 (.int .i64))), []⟩
def T_laws_toIntS : FSig := ⟨H_laws_toIntS.ps, H_laws_toIntS.cs, H_laws_toIntS.io, H_laws_toIntS.im, H_laws_toIntS.R, H_laws_toIntS.m, laws_toIntS⟩
theorem E_laws_toIntS : fnOf tys [] Tryz.f51 H_laws_toIntS = T_laws_toIntS := by kernel_rfl
theorem K_laws_toIntS : SigOk Tryz.prog 51 T_laws_toIntS := (congrArg (SigOk Tryz.prog 51) E_laws_toIntS).mp (fnOf_ok rfl tysOk trivial Tryz.func51 (by decide) rfl (fun _ h => by cases h) (nilEq_of (by kernel_rfl)))
def laws_toMode (x : (D_Mode × Unit)) (c : Unit) : (Option (D_Mode × Unit)) :=
  (Option.bind ((Option.bind (laws_toIntS (x.1.2.1, ()) ()) fun v0 => (some v0.1)) : (Option (List Int))) fun v1 => (Option.bind ((Option.bind (laws_toIntS (x.1.2.2.1, ()) ()) fun v2 => (some v2.1)) : (Option (List Int))) fun v3 => (some ((x.1.1, (v1, (v3, ()))), ()))))
def H_laws_toMode : Hd := ⟨[.st [.int .i64, .sl 3 (.int .i64), .sl 3 (.int .i64)]], [], none, .p, .st [.int .i64, .sl 3 (.int .i64), .sl 3 (.int .i64)], (Ty.all (.st [.int .i64, .sl 3 (.int .i64), .sl 3 (.int .i64)])), []⟩
def T_laws_toMode : FSig := ⟨H_laws_toMode.ps, H_laws_toMode.cs, H_laws_toMode.io, H_laws_toMode.im, H_laws_toMode.R, H_laws_toMode.m, laws_toMode⟩
theorem E_laws_toMode : fnOf tys [(51, T_laws_toIntS)] Tryz.f140 H_laws_toMode = T_laws_toMode := by kernel_rfl
theorem K_laws_toMode : SigOk Tryz.prog 140 T_laws_toMode := (congrArg (SigOk Tryz.prog 140) E_laws_toMode).mp (fnOf_ok rfl tysOk ⟨K_laws_toIntS, trivial⟩ Tryz.func140 (by decide) rfl (fun _ h => by cases h) (nilEq_of (by kernel_rfl)))
def laws_toModeS_L0 : (Int × ((List D_Mode) × ((List D_Mode) × Unit))) → Option (Out (Int × ((List D_Mode) × ((List D_Mode) × Unit))) ((Bool × (Int × ((List D_Mode) × ((List D_Mode) × Unit)))) ⊕ Empty) ((List D_Mode) × Unit)) :=
  (fun v1 => (if (ltZ v1.1 (lenI v1.2.1)) = true then (Option.bind (getI v1.2.1 v1.1) fun v2 => (Option.bind ((Option.bind (laws_toMode (v2, ()) ()) fun v3 => (some v3.1)) : (Option D_Mode)) fun v4 => (Option.bind ((Option.bind (getI v1.2.2.1 v1.1) fun v5 => (some ())) : (Option Unit)) fun v6 => (Option.bind ((Option.bind ((Option.bind (getI v1.2.2.1 v1.1) fun v7 => (some v7)) : (Option D_Mode)) fun v8 => (some v4)) : (Option D_Mode)) fun v9 => (some (Out.norm ((addZ .i64 v1.1 1), (v1.2.1, ((setI v1.2.2.1 v1.1 (fun v10 => v9)), ()))))))))) else (some (Out.exit (Sum.inl ((ltZ v1.1 (lenI v1.2.1)), (v1.1, (v1.2.1, (v1.2.2.1, ())))))))))
def laws_toModeS (x : ((List D_Mode) × Unit)) (c : Unit) : (Option ((List D_Mode) × Unit)) :=
  (Option.bind ((if (eqZ (lenI x.1) (lenI x.1)) = true then (zerosI (lenI x.1) (0, ([], ([], ())))) else none) : (Option (List D_Mode))) fun v0 => (Option.bind (loopN (A := (Int × ((List D_Mode) × ((List D_Mode) × Unit)))) big laws_toModeS_L0 (0, (x.1, (v0, ())))) fun v11 => (match v11 with | Out.norm v12 => none | Out.exit v13 => (match ((match v13 with | Sum.inl v16 => (Sum.inl (v16.2.2.2.1, ())) | Sum.inr v17 => (Empty.elim v17)) : (((List D_Mode) × Unit) ⊕ Empty)) with | Sum.inl v14 => (some (v14.1, ())) | Sum.inr v15 => none) | Out.ret v18 => (some v18))))
def H_laws_toModeS : Hd := ⟨[.sl 153 (.st [.int .i64, .sl 3 (.int .i64), .sl 3 (.int .i64)])], [], none, .p, .sl 105 (.st [.int .i64, .sl 3 (.int .i64), .sl 3 (.int .i64)]), (Ty.all (.sl 105 (.st [.int .i64, .sl 3 (.int .i64), .sl 3 (.int .i64)]))), []⟩
def T_laws_toModeS : FSig := ⟨H_laws_toModeS.ps, H_laws_toModeS.cs, H_laws_toModeS.io, H_laws_toModeS.im, H_laws_toModeS.R, H_laws_toModeS.m, laws_toModeS⟩
theorem E_laws_toModeS : fnOf tys [(140, T_laws_toMode)] Tryz.f111 H_laws_toModeS = T_laws_toModeS := by kernel_rfl
theorem K_laws_toModeS : SigOk Tryz.prog 111 T_laws_toModeS := (congrArg (SigOk Tryz.prog 111) E_laws_toModeS).mp (fnOf_ok rfl tysOk ⟨K_laws_toMode, trivial⟩ Tryz.func111 (by decide) rfl (fun _ h => by cases h) (nilEq_of (by kernel_rfl)))
def laws_toActivity (x : (D_Activity × Unit)) (c : Unit) : (Option (D_Activity × Unit)) :=
  (Option.bind ((Option.bind (laws_toModeS (x.1.2.2.1, ()) ()) fun v0 => (some v0.1)) : (Option (List D_Mode))) fun v1 => (some ((x.1.1, (x.1.2.1, (v1, ()))), ())))
def H_laws_toActivity : Hd := ⟨[.st [.str, .int .i64, .sl 153 (.st [.int .i64, .sl 3 (.int .i64), .sl 3 (.int .i64)])]], [], none, .p, .st [.str, .int .i64, .sl 105 (.st [.int .i64, .sl 3 (.int .i64), .sl 3 (.int .i64)])], (Ty.all (.st [.str, .int .i64, .sl 105 (.st [.int .i64, .sl 3 (.int .i64), .sl 3 (.int .i64)])])), []⟩
def T_laws_toActivity : FSig := ⟨H_laws_toActivity.ps, H_laws_toActivity.cs, H_laws_toActivity.io, H_laws_toActivity.im, H_laws_toActivity.R, H_laws_toActivity.m, laws_toActivity⟩
theorem E_laws_toActivity : fnOf tys [(111, T_laws_toModeS)] Tryz.f79 H_laws_toActivity = T_laws_toActivity := by kernel_rfl
theorem K_laws_toActivity : SigOk Tryz.prog 79 T_laws_toActivity := (congrArg (SigOk Tryz.prog 79) E_laws_toActivity).mp (fnOf_ok rfl tysOk ⟨K_laws_toModeS, trivial⟩ Tryz.func79 (by decide) rfl (fun _ h => by cases h) (nilEq_of (by kernel_rfl)))
def laws_toActivityS_L0 : (Int × ((List D_Activity) × ((List D_Activity) × Unit))) → Option (Out (Int × ((List D_Activity) × ((List D_Activity) × Unit))) ((Bool × (Int × ((List D_Activity) × ((List D_Activity) × Unit)))) ⊕ Empty) ((List D_Activity) × Unit)) :=
  (fun v1 => (if (ltZ v1.1 (lenI v1.2.1)) = true then (Option.bind (getI v1.2.1 v1.1) fun v2 => (Option.bind ((Option.bind (laws_toActivity (v2, ()) ()) fun v3 => (some v3.1)) : (Option D_Activity)) fun v4 => (Option.bind ((Option.bind (getI v1.2.2.1 v1.1) fun v5 => (some ())) : (Option Unit)) fun v6 => (Option.bind ((Option.bind ((Option.bind (getI v1.2.2.1 v1.1) fun v7 => (some v7)) : (Option D_Activity)) fun v8 => (some v4)) : (Option D_Activity)) fun v9 => (some (Out.norm ((addZ .i64 v1.1 1), (v1.2.1, ((setI v1.2.2.1 v1.1 (fun v10 => v9)), ()))))))))) else (some (Out.exit (Sum.inl ((ltZ v1.1 (lenI v1.2.1)), (v1.1, (v1.2.1, (v1.2.2.1, ())))))))))
def laws_toActivityS (x : ((List D_Activity) × Unit)) (c : Unit) : (Option ((List D_Activity) × Unit)) :=
  (Option.bind ((if (eqZ (lenI x.1) (lenI x.1)) = true then (zerosI (lenI x.1) ([], (0, ([], ())))) else none) : (Option (List D_Activity))) fun v0 => (Option.bind (loopN (A := (Int × ((List D_Activity) × ((List D_Activity) × Unit)))) big laws_toActivityS_L0 (0, (x.1, (v0, ())))) fun v11 => (match v11 with | Out.norm v12 => none | Out.exit v13 => (match ((match v13 with | Sum.inl v16 => (Sum.inl (v16.2.2.2.1, ())) | Sum.inr v17 => (Empty.elim v17)) : (((List D_Activity) × Unit) ⊕ Empty)) with | Sum.inl v14 => (some (v14.1, ())) | Sum.inr v15 => none) | Out.ret v18 => (some v18))))
def H_laws_toActivityS : Hd := ⟨[.sl 97 (.st [.str, .int .i64, .sl 153 (.st [.int .i64, .sl 3 (.int .i64), .sl 3 (.int .i64)])])], [], none, .p, .sl 74 (.st [.str, .int .i64, .sl 105 (.st [.int .i64, .sl 3 (.int .i64), .sl 3 (.int .i64)])]), (Ty.all (.sl 74 (.st [.str, .int .i64, .sl 105 (.st [.int .i64, .sl 3 (.int .i64), .sl 3 (.int .i64)])]))), []⟩
def T_laws_toActivityS : FSig := ⟨H_laws_toActivityS.ps, H_laws_toActivityS.cs, H_laws_toActivityS.io, H_laws_toActivityS.im, H_laws_toActivityS.R, H_laws_toActivityS.m, laws_toActivityS⟩
theorem E_laws_toActivityS : fnOf tys [(79, T_laws_toActivity)] Tryz.f48 H_laws_toActivityS = T_laws_toActivityS := by kernel_rfl
theorem K_laws_toActivityS : SigOk Tryz.prog 48 T_laws_toActivityS := (congrArg (SigOk Tryz.prog 48) E_laws_toActivityS).mp (fnOf_ok rfl tysOk ⟨K_laws_toActivity, trivial⟩ Tryz.func48 (by decide) rfl (fun _ h => by cases h) (nilEq_of (by kernel_rfl)))
def laws_toLink (x : (D_Link × Unit)) (c : Unit) : (Option (D_Link × Unit)) :=
  (some ((x.1.1, (x.1.2.1, (x.1.2.2.1, (x.1.2.2.2.1, ())))), ()))
def H_laws_toLink : Hd := ⟨[.st [.int .i64, .int .i64, .bool, .int .i64]], [], none, .p, .st [.int .i64, .int .i64, .bool, .int .i64], .p, []⟩
def T_laws_toLink : FSig := ⟨H_laws_toLink.ps, H_laws_toLink.cs, H_laws_toLink.io, H_laws_toLink.im, H_laws_toLink.R, H_laws_toLink.m, laws_toLink⟩
theorem E_laws_toLink : fnOf tys [] Tryz.f80 H_laws_toLink = T_laws_toLink := by kernel_rfl
theorem K_laws_toLink : SigOk Tryz.prog 80 T_laws_toLink := (congrArg (SigOk Tryz.prog 80) E_laws_toLink).mp (fnOf_ok rfl tysOk trivial Tryz.func80 (by decide) rfl (fun _ h => by cases h) (nilEq_of (by kernel_rfl)))
def laws_toLinkS_L0 : (Int × ((List D_Link) × ((List D_Link) × Unit))) → Option (Out (Int × ((List D_Link) × ((List D_Link) × Unit))) ((Bool × (Int × ((List D_Link) × ((List D_Link) × Unit)))) ⊕ Empty) ((List D_Link) × Unit)) :=
  (fun v1 => (if (ltZ v1.1 (lenI v1.2.1)) = true then (Option.bind (getI v1.2.1 v1.1) fun v2 => (Option.bind ((Option.bind (laws_toLink (v2, ()) ()) fun v3 => (some v3.1)) : (Option D_Link)) fun v4 => (Option.bind ((Option.bind (getI v1.2.2.1 v1.1) fun v5 => (some ())) : (Option Unit)) fun v6 => (Option.bind ((Option.bind ((Option.bind (getI v1.2.2.1 v1.1) fun v7 => (some v7)) : (Option D_Link)) fun v8 => (some v4)) : (Option D_Link)) fun v9 => (some (Out.norm ((addZ .i64 v1.1 1), (v1.2.1, ((setI v1.2.2.1 v1.1 (fun v10 => v9)), ()))))))))) else (some (Out.exit (Sum.inl ((ltZ v1.1 (lenI v1.2.1)), (v1.1, (v1.2.1, (v1.2.2.1, ())))))))))
def laws_toLinkS (x : ((List D_Link) × Unit)) (c : Unit) : (Option ((List D_Link) × Unit)) :=
  (Option.bind ((if (eqZ (lenI x.1) (lenI x.1)) = true then (zerosI (lenI x.1) (0, (0, (false, (0, ()))))) else none) : (Option (List D_Link))) fun v0 => (Option.bind (loopN (A := (Int × ((List D_Link) × ((List D_Link) × Unit)))) big laws_toLinkS_L0 (0, (x.1, (v0, ())))) fun v11 => (match v11 with | Out.norm v12 => none | Out.exit v13 => (match ((match v13 with | Sum.inl v16 => (Sum.inl (v16.2.2.2.1, ())) | Sum.inr v17 => (Empty.elim v17)) : (((List D_Link) × Unit) ⊕ Empty)) with | Sum.inl v14 => (some (v14.1, ())) | Sum.inr v15 => none) | Out.ret v18 => (some v18))))
def H_laws_toLinkS : Hd := ⟨[.sl 111 (.st [.int .i64, .int .i64, .bool, .int .i64])], [], none, .p, .sl 109 (.st [.int .i64, .int .i64, .bool, .int .i64]), (Ty.all (.sl 109 (.st [.int .i64, .int .i64, .bool, .int .i64]))), []⟩
def T_laws_toLinkS : FSig := ⟨H_laws_toLinkS.ps, H_laws_toLinkS.cs, H_laws_toLinkS.io, H_laws_toLinkS.im, H_laws_toLinkS.R, H_laws_toLinkS.m, laws_toLinkS⟩
theorem E_laws_toLinkS : fnOf tys [(80, T_laws_toLink)] Tryz.f49 H_laws_toLinkS = T_laws_toLinkS := by kernel_rfl
theorem K_laws_toLinkS : SigOk Tryz.prog 49 T_laws_toLinkS := (congrArg (SigOk Tryz.prog 49) E_laws_toLinkS).mp (fnOf_ok rfl tysOk ⟨K_laws_toLink, trivial⟩ Tryz.func49 (by decide) rfl (fun _ h => by cases h) (nilEq_of (by kernel_rfl)))
def laws_toIntSS_L0 : (Int × ((List (List Int)) × ((List (List Int)) × Unit))) → Option (Out (Int × ((List (List Int)) × ((List (List Int)) × Unit))) ((Bool × (Int × ((List (List Int)) × ((List (List Int)) × Unit)))) ⊕ Empty) ((List (List Int)) × Unit)) :=
  (fun v1 => (if (ltZ v1.1 (lenI v1.2.1)) = true then (Option.bind (getI v1.2.1 v1.1) fun v2 => (Option.bind ((Option.bind (laws_toIntS (v2, ()) ()) fun v3 => (some v3.1)) : (Option (List Int))) fun v4 => (Option.bind ((Option.bind (getI v1.2.2.1 v1.1) fun v5 => (some ())) : (Option Unit)) fun v6 => (Option.bind ((Option.bind ((Option.bind (getI v1.2.2.1 v1.1) fun v7 => (some v7)) : (Option (List Int))) fun v8 => (some v4)) : (Option (List Int))) fun v9 => (some (Out.norm ((addZ .i64 v1.1 1), (v1.2.1, ((setI v1.2.2.1 v1.1 (fun v10 => v9)), ()))))))))) else (some (Out.exit (Sum.inl ((ltZ v1.1 (lenI v1.2.1)), (v1.1, (v1.2.1, (v1.2.2.1, ())))))))))
def laws_toIntSS (x : ((List (List Int)) × Unit)) (c : Unit) : (Option ((List (List Int)) × Unit)) :=
  (Option.bind ((if (eqZ (lenI x.1) (lenI x.1)) = true then (zerosI (lenI x.1) []) else none) : (Option (List (List Int)))) fun v0 => (Option.bind (loopN (A := (Int × ((List (List Int)) × ((List (List Int)) × Unit)))) big laws_toIntSS_L0 (0, (x.1, (v0, ())))) fun v11 => (match v11 with | Out.norm v12 => none | Out.exit v13 => (match ((match v13 with | Sum.inl v16 => (Sum.inl (v16.2.2.2.1, ())) | Sum.inr v17 => (Empty.elim v17)) : (((List (List Int)) × Unit) ⊕ Empty)) with | Sum.inl v14 => (some (v14.1, ())) | Sum.inr v15 => none) | Out.ret v18 => (some v18))))
def H_laws_toIntSS : Hd := ⟨[.sl 25 (.sl 3 (.int .i64))], [], none, .p, .sl 25 (.sl 3 (.int .i64)), (Ty.all (.sl 25 (.sl 3 (.int .i64)))), []⟩
def T_laws_toIntSS : FSig := ⟨H_laws_toIntSS.ps, H_laws_toIntSS.cs, H_laws_toIntSS.io, H_laws_toIntSS.im, H_laws_toIntSS.R, H_laws_toIntSS.m, laws_toIntSS⟩
theorem E_laws_toIntSS : fnOf tys [(51, T_laws_toIntS)] Tryz.f52 H_laws_toIntSS = T_laws_toIntSS := by kernel_rfl
theorem K_laws_toIntSS : SigOk Tryz.prog 52 T_laws_toIntSS := (congrArg (SigOk Tryz.prog 52) E_laws_toIntSS).mp (fnOf_ok rfl tysOk ⟨K_laws_toIntS, trivial⟩ Tryz.func52 (by decide) rfl (fun _ h => by cases h) (nilEq_of (by kernel_rfl)))
def laws_toStep (x : (D_Step × Unit)) (c : Unit) : (Option (D_Step × Unit)) :=
  (some ((x.1.1, (x.1.2.1, ())), ()))
def H_laws_toStep : Hd := ⟨[.st [.int .i64, .int .i64]], [], none, .p, .st [.int .i64, .int .i64], .p, []⟩
def T_laws_toStep : FSig := ⟨H_laws_toStep.ps, H_laws_toStep.cs, H_laws_toStep.io, H_laws_toStep.im, H_laws_toStep.R, H_laws_toStep.m, laws_toStep⟩
theorem E_laws_toStep : fnOf tys [] Tryz.f141 H_laws_toStep = T_laws_toStep := by kernel_rfl
theorem K_laws_toStep : SigOk Tryz.prog 141 T_laws_toStep := (congrArg (SigOk Tryz.prog 141) E_laws_toStep).mp (fnOf_ok rfl tysOk trivial Tryz.func141 (by decide) rfl (fun _ h => by cases h) (nilEq_of (by kernel_rfl)))
def laws_toStepS_L0 : (Int × ((List D_Step) × ((List D_Step) × Unit))) → Option (Out (Int × ((List D_Step) × ((List D_Step) × Unit))) ((Bool × (Int × ((List D_Step) × ((List D_Step) × Unit)))) ⊕ Empty) ((List D_Step) × Unit)) :=
  (fun v1 => (if (ltZ v1.1 (lenI v1.2.1)) = true then (Option.bind (getI v1.2.1 v1.1) fun v2 => (Option.bind ((Option.bind (laws_toStep (v2, ()) ()) fun v3 => (some v3.1)) : (Option D_Step)) fun v4 => (Option.bind ((Option.bind (getI v1.2.2.1 v1.1) fun v5 => (some ())) : (Option Unit)) fun v6 => (Option.bind ((Option.bind ((Option.bind (getI v1.2.2.1 v1.1) fun v7 => (some v7)) : (Option D_Step)) fun v8 => (some v4)) : (Option D_Step)) fun v9 => (some (Out.norm ((addZ .i64 v1.1 1), (v1.2.1, ((setI v1.2.2.1 v1.1 (fun v10 => v9)), ()))))))))) else (some (Out.exit (Sum.inl ((ltZ v1.1 (lenI v1.2.1)), (v1.1, (v1.2.1, (v1.2.2.1, ())))))))))
def laws_toStepS (x : ((List D_Step) × Unit)) (c : Unit) : (Option ((List D_Step) × Unit)) :=
  (Option.bind ((if (eqZ (lenI x.1) (lenI x.1)) = true then (zerosI (lenI x.1) (0, (0, ()))) else none) : (Option (List D_Step))) fun v0 => (Option.bind (loopN (A := (Int × ((List D_Step) × ((List D_Step) × Unit)))) big laws_toStepS_L0 (0, (x.1, (v0, ())))) fun v11 => (match v11 with | Out.norm v12 => none | Out.exit v13 => (match ((match v13 with | Sum.inl v16 => (Sum.inl (v16.2.2.2.1, ())) | Sum.inr v17 => (Empty.elim v17)) : (((List D_Step) × Unit) ⊕ Empty)) with | Sum.inl v14 => (some (v14.1, ())) | Sum.inr v15 => none) | Out.ret v18 => (some v18))))
def H_laws_toStepS : Hd := ⟨[.sl 160 (.st [.int .i64, .int .i64])], [], none, .p, .sl 149 (.st [.int .i64, .int .i64]), (Ty.all (.sl 149 (.st [.int .i64, .int .i64]))), []⟩
def T_laws_toStepS : FSig := ⟨H_laws_toStepS.ps, H_laws_toStepS.cs, H_laws_toStepS.io, H_laws_toStepS.im, H_laws_toStepS.R, H_laws_toStepS.m, laws_toStepS⟩
theorem E_laws_toStepS : fnOf tys [(141, T_laws_toStep)] Tryz.f112 H_laws_toStepS = T_laws_toStepS := by kernel_rfl
theorem K_laws_toStepS : SigOk Tryz.prog 112 T_laws_toStepS := (congrArg (SigOk Tryz.prog 112) E_laws_toStepS).mp (fnOf_ok rfl tysOk ⟨K_laws_toStep, trivial⟩ Tryz.func112 (by decide) rfl (fun _ h => by cases h) (nilEq_of (by kernel_rfl)))
def laws_toResource (x : (D_Resource × Unit)) (c : Unit) : (Option (D_Resource × Unit)) :=
  (Option.bind ((Option.bind (laws_toStepS (x.1.1, ()) ()) fun v0 => (some v0.1)) : (Option (List D_Step))) fun v1 => (Option.bind ((Option.bind (laws_toIntSS (x.1.2.1, ()) ()) fun v2 => (some v2.1)) : (Option (List (List Int)))) fun v3 => (some ((v1, (v3, ())), ()))))
def H_laws_toResource : Hd := ⟨[.st [.sl 160 (.st [.int .i64, .int .i64]), .sl 25 (.sl 3 (.int .i64))]], [], none, .p, .st [.sl 149 (.st [.int .i64, .int .i64]), .sl 25 (.sl 3 (.int .i64))], (Ty.all (.st [.sl 149 (.st [.int .i64, .int .i64]), .sl 25 (.sl 3 (.int .i64))])), []⟩
def T_laws_toResource : FSig := ⟨H_laws_toResource.ps, H_laws_toResource.cs, H_laws_toResource.io, H_laws_toResource.im, H_laws_toResource.R, H_laws_toResource.m, laws_toResource⟩
theorem E_laws_toResource : fnOf tys [(52, T_laws_toIntSS), (112, T_laws_toStepS)] Tryz.f81 H_laws_toResource = T_laws_toResource := by kernel_rfl
theorem K_laws_toResource : SigOk Tryz.prog 81 T_laws_toResource := (congrArg (SigOk Tryz.prog 81) E_laws_toResource).mp (fnOf_ok rfl tysOk ⟨K_laws_toIntSS, K_laws_toStepS, trivial⟩ Tryz.func81 (by decide) rfl (fun _ h => by cases h) (nilEq_of (by kernel_rfl)))
def laws_toResourceS_L0 : (Int × ((List D_Resource) × ((List D_Resource) × Unit))) → Option (Out (Int × ((List D_Resource) × ((List D_Resource) × Unit))) ((Bool × (Int × ((List D_Resource) × ((List D_Resource) × Unit)))) ⊕ Empty) ((List D_Resource) × Unit)) :=
  (fun v1 => (if (ltZ v1.1 (lenI v1.2.1)) = true then (Option.bind (getI v1.2.1 v1.1) fun v2 => (Option.bind ((Option.bind (laws_toResource (v2, ()) ()) fun v3 => (some v3.1)) : (Option D_Resource)) fun v4 => (Option.bind ((Option.bind (getI v1.2.2.1 v1.1) fun v5 => (some ())) : (Option Unit)) fun v6 => (Option.bind ((Option.bind ((Option.bind (getI v1.2.2.1 v1.1) fun v7 => (some v7)) : (Option D_Resource)) fun v8 => (some v4)) : (Option D_Resource)) fun v9 => (some (Out.norm ((addZ .i64 v1.1 1), (v1.2.1, ((setI v1.2.2.1 v1.1 (fun v10 => v9)), ()))))))))) else (some (Out.exit (Sum.inl ((ltZ v1.1 (lenI v1.2.1)), (v1.1, (v1.2.1, (v1.2.2.1, ())))))))))
def laws_toResourceS (x : ((List D_Resource) × Unit)) (c : Unit) : (Option ((List D_Resource) × Unit)) :=
  (Option.bind ((if (eqZ (lenI x.1) (lenI x.1)) = true then (zerosI (lenI x.1) ([], ([], ()))) else none) : (Option (List D_Resource))) fun v0 => (Option.bind (loopN (A := (Int × ((List D_Resource) × ((List D_Resource) × Unit)))) big laws_toResourceS_L0 (0, (x.1, (v0, ())))) fun v11 => (match v11 with | Out.norm v12 => none | Out.exit v13 => (match ((match v13 with | Sum.inl v16 => (Sum.inl (v16.2.2.2.1, ())) | Sum.inr v17 => (Empty.elim v17)) : (((List D_Resource) × Unit) ⊕ Empty)) with | Sum.inl v14 => (some (v14.1, ())) | Sum.inr v15 => none) | Out.ret v18 => (some v18))))
def H_laws_toResourceS : Hd := ⟨[.sl 101 (.st [.sl 160 (.st [.int .i64, .int .i64]), .sl 25 (.sl 3 (.int .i64))])], [], none, .p, .sl 114 (.st [.sl 149 (.st [.int .i64, .int .i64]), .sl 25 (.sl 3 (.int .i64))]), (Ty.all (.sl 114 (.st [.sl 149 (.st [.int .i64, .int .i64]), .sl 25 (.sl 3 (.int .i64))]))), []⟩
def T_laws_toResourceS : FSig := ⟨H_laws_toResourceS.ps, H_laws_toResourceS.cs, H_laws_toResourceS.io, H_laws_toResourceS.im, H_laws_toResourceS.R, H_laws_toResourceS.m, laws_toResourceS⟩
theorem E_laws_toResourceS : fnOf tys [(81, T_laws_toResource)] Tryz.f50 H_laws_toResourceS = T_laws_toResourceS := by kernel_rfl
theorem K_laws_toResourceS : SigOk Tryz.prog 50 T_laws_toResourceS := (congrArg (SigOk Tryz.prog 50) E_laws_toResourceS).mp (fnOf_ok rfl tysOk ⟨K_laws_toResource, trivial⟩ Tryz.func50 (by decide) rfl (fun _ h => by cases h) (nilEq_of (by kernel_rfl)))
def laws_toProject (x : (D_Project × Unit)) (c : Unit) : (Option (D_Project × Unit)) :=
  (Option.bind ((Option.bind (laws_toActivityS (x.1.2.1, ()) ()) fun v0 => (some v0.1)) : (Option (List D_Activity))) fun v1 => (Option.bind ((Option.bind (laws_toLinkS (x.1.2.2.1, ()) ()) fun v2 => (some v2.1)) : (Option (List D_Link))) fun v3 => (Option.bind ((Option.bind (laws_toResourceS (x.1.2.2.2.1, ()) ()) fun v4 => (some v4.1)) : (Option (List D_Resource))) fun v5 => (Option.bind ((Option.bind (laws_toIntS (x.1.2.2.2.2.1, ()) ()) fun v6 => (some v6.1)) : (Option (List Int))) fun v7 => (some ((x.1.1, (v1, (v3, (v5, (v7, ()))))), ()))))))
def H_laws_toProject : Hd := ⟨[.st [.int .i64, .sl 97 (.st [.str, .int .i64, .sl 153 (.st [.int .i64, .sl 3 (.int .i64), .sl 3 (.int .i64)])]), .sl 111 (.st [.int .i64, .int .i64, .bool, .int .i64]), .sl 101 (.st [.sl 160 (.st [.int .i64, .int .i64]), .sl 25 (.sl 3 (.int .i64))]), .sl 3 (.int .i64)]], [], none, .p, .st [.int .i64, .sl 74 (.st [.str, .int .i64, .sl 105 (.st [.int .i64, .sl 3 (.int .i64), .sl 3 (.int .i64)])]), .sl 109 (.st [.int .i64, .int .i64, .bool, .int .i64]), .sl 114 (.st [.sl 149 (.st [.int .i64, .int .i64]), .sl 25 (.sl 3 (.int .i64))]), .sl 3 (.int .i64)], (Ty.all (.st [.int .i64, .sl 74 (.st [.str, .int .i64, .sl 105 (.st [.int .i64, .sl 3 (.int .i64), .sl 3 (.int .i64)])]), .sl 109 (.st [.int .i64, .int .i64, .bool, .int .i64]), .sl 114 (.st [.sl 149 (.st [.int .i64, .int .i64]), .sl 25 (.sl 3 (.int .i64))]), .sl 3 (.int .i64)])), []⟩
def T_laws_toProject : FSig := ⟨H_laws_toProject.ps, H_laws_toProject.cs, H_laws_toProject.io, H_laws_toProject.im, H_laws_toProject.R, H_laws_toProject.m, laws_toProject⟩
theorem E_laws_toProject : fnOf tys [(48, T_laws_toActivityS), (49, T_laws_toLinkS), (50, T_laws_toResourceS), (51, T_laws_toIntS)] Tryz.f13 H_laws_toProject = T_laws_toProject := by kernel_rfl
theorem K_laws_toProject : SigOk Tryz.prog 13 T_laws_toProject := (congrArg (SigOk Tryz.prog 13) E_laws_toProject).mp (fnOf_ok rfl tysOk ⟨K_laws_toActivityS, K_laws_toLinkS, K_laws_toResourceS, K_laws_toIntS, trivial⟩ Tryz.func13 (by decide) rfl (fun _ h => by cases h) (nilEq_of (by kernel_rfl)))
def laws_toDomain (x : (D_Domain × Unit)) (c : Unit) : (Option (D_Domain × Unit)) :=
  (Option.bind ((Option.bind (laws_toIntS (x.1.1, ()) ()) fun v0 => (some v0.1)) : (Option (List Int))) fun v1 => (Option.bind ((Option.bind (laws_toIntS (x.1.2.1, ()) ()) fun v2 => (some v2.1)) : (Option (List Int))) fun v3 => (Option.bind ((Option.bind (laws_toIntSS (x.1.2.2.1, ()) ()) fun v4 => (some v4.1)) : (Option (List (List Int)))) fun v5 => (some ((v1, (v3, (v5, ()))), ())))))
def H_laws_toDomain : Hd := ⟨[.st [.sl 3 (.int .i64), .sl 3 (.int .i64), .sl 25 (.sl 3 (.int .i64))]], [], none, .p, .st [.sl 3 (.int .i64), .sl 3 (.int .i64), .sl 25 (.sl 3 (.int .i64))], (Ty.all (.st [.sl 3 (.int .i64), .sl 3 (.int .i64), .sl 25 (.sl 3 (.int .i64))])), []⟩
def T_laws_toDomain : FSig := ⟨H_laws_toDomain.ps, H_laws_toDomain.cs, H_laws_toDomain.io, H_laws_toDomain.im, H_laws_toDomain.R, H_laws_toDomain.m, laws_toDomain⟩
theorem E_laws_toDomain : fnOf tys [(51, T_laws_toIntS), (52, T_laws_toIntSS)] Tryz.f14 H_laws_toDomain = T_laws_toDomain := by kernel_rfl
theorem K_laws_toDomain : SigOk Tryz.prog 14 T_laws_toDomain := (congrArg (SigOk Tryz.prog 14) E_laws_toDomain).mp (fnOf_ok rfl tysOk ⟨K_laws_toIntS, K_laws_toIntSS, trivial⟩ Tryz.func14 (by decide) rfl (fun _ h => by cases h) (nilEq_of (by kernel_rfl)))
def impl_within (x : (Int × D_Step)) (c : Unit) : (Option (Bool × Unit)) :=
  (Option.bind ((if (leZ x.2.1 x.1) = true then (some ((leZ x.1 x.2.2.1), ())) else (some (false, ()))) : (Option (Bool × Unit))) fun v0 => (some (v0.1, ())))
def H_impl_within : Hd := ⟨[.int .i64, .int .i64, .int .i64], [], none, .p, .bool, .p, []⟩
def T_impl_within : FSig := ⟨H_impl_within.ps, H_impl_within.cs, H_impl_within.io, H_impl_within.im, H_impl_within.R, H_impl_within.m, impl_within⟩
theorem E_impl_within : fnOf tys [] Tryz.f84 H_impl_within = T_impl_within := by kernel_rfl
theorem K_impl_within : SigOk Tryz.prog 84 T_impl_within := (congrArg (SigOk Tryz.prog 84) E_impl_within).mp (fnOf_ok rfl tysOk trivial Tryz.func84 (by decide) rfl (fun _ h => by cases h) (nilEq_of (by kernel_rfl)))
def impl_isAmount (x : (Int × Unit)) (c : Unit) : (Option (Bool × Unit)) :=
  (Option.bind ((Option.bind (impl_within (x.1, (0, (20, ()))) ()) fun v0 => (some v0.1)) : (Option Bool)) fun v1 => (some (v1, ())))
def H_impl_isAmount : Hd := ⟨[.int .i64], [], none, .p, .bool, .p, []⟩
def T_impl_isAmount : FSig := ⟨H_impl_isAmount.ps, H_impl_isAmount.cs, H_impl_isAmount.io, H_impl_isAmount.im, H_impl_isAmount.R, H_impl_isAmount.m, impl_isAmount⟩
theorem E_impl_isAmount : fnOf tys [(84, T_impl_within)] Tryz.f179 H_impl_isAmount = T_impl_isAmount := by kernel_rfl
theorem K_impl_isAmount : SigOk Tryz.prog 179 T_impl_isAmount := (congrArg (SigOk Tryz.prog 179) E_impl_isAmount).mp (fnOf_ok rfl tysOk ⟨K_impl_within, trivial⟩ Tryz.func179 (by decide) rfl (fun _ h => by cases h) (nilEq_of (by kernel_rfl)))
def impl_areAmounts_L0 : (Int × (Int × ((List Int) × ((List Int) × (Int × Unit))))) → Option (Out (Int × (Int × ((List Int) × ((List Int) × (Int × Unit))))) ((Bool × (Int × (Int × ((List Int) × ((List Int) × (Int × Unit)))))) ⊕ Empty) (Bool × Unit)) :=
  (fun v0 => (if (ltZ v0.1 v0.2.1) = true then (Option.bind (getI v0.2.2.1 v0.1) fun v1 => (Option.bind ((Option.bind (impl_isAmount (v1, ()) ()) fun v2 => (some v2.1)) : (Option Bool)) fun v3 => (if (notB v3) = true then (some (Out.ret (false, ()))) else (some (Out.norm ((addZ .i64 v0.1 1), (v0.2.1, (v0.2.2.1, (v0.2.2.2.1, (v0.2.2.2.2.1, ())))))))))) else (some (Out.exit (Sum.inl ((ltZ v0.1 v0.2.1), (v0.1, (v0.2.1, (v0.2.2.1, (v0.2.2.2.1, (v0.2.2.2.2.1, ())))))))))))
def impl_areAmounts (x : ((List Int) × (Int × Unit))) (c : Unit) : (Option (Bool × Unit)) :=
  (Option.bind (loopN (A := (Int × (Int × ((List Int) × ((List Int) × (Int × Unit)))))) big impl_areAmounts_L0 (0, ((lenI x.1), (x.1, (x.1, (x.2.1, ())))))) fun v4 => (match v4 with | Out.norm v5 => none | Out.exit v6 => (match ((match v6 with | Sum.inl v9 => (Sum.inl (v9.2.2.2.2.1, (v9.2.2.2.2.2.1, ()))) | Sum.inr v10 => (Empty.elim v10)) : (((List Int) × (Int × Unit)) ⊕ Empty)) with | Sum.inl v7 => (some ((eqZ (lenI v7.1) v7.2.1), ())) | Sum.inr v8 => none) | Out.ret v11 => (some v11)))
def H_impl_areAmounts : Hd := ⟨[.sl 3 (.int .i64), .int .i64], [], none, .p, .bool, .p, []⟩
def T_impl_areAmounts : FSig := ⟨H_impl_areAmounts.ps, H_impl_areAmounts.cs, H_impl_areAmounts.io, H_impl_areAmounts.im, H_impl_areAmounts.R, H_impl_areAmounts.m, impl_areAmounts⟩
theorem E_impl_areAmounts : fnOf tys [(179, T_impl_isAmount)] Tryz.f178 H_impl_areAmounts = T_impl_areAmounts := by kernel_rfl
theorem K_impl_areAmounts : SigOk Tryz.prog 178 T_impl_areAmounts := (congrArg (SigOk Tryz.prog 178) E_impl_areAmounts).mp (fnOf_ok rfl tysOk ⟨K_impl_isAmount, trivial⟩ Tryz.func178 (by decide) rfl (fun _ h => by cases h) (nilEq_of (by kernel_rfl)))
def impl_ModeOk (x : (D_Mode × D_Step)) (c : Unit) : (Option (Bool × Unit)) :=
  (Option.bind ((Option.bind (impl_within (x.1.1, (1, (12, ()))) ()) fun v0 => (some v0.1)) : (Option Bool)) fun v1 => (Option.bind ((if v1 = true then (Option.bind ((Option.bind (impl_areAmounts (x.1.2.1, (x.2.1, ())) ()) fun v2 => (some v2.1)) : (Option Bool)) fun v3 => (Option.bind ((if v3 = true then (Option.bind ((Option.bind (impl_areAmounts (x.1.2.2.1, (x.2.2.1, ())) ()) fun v4 => (some v4.1)) : (Option Bool)) fun v5 => (some (v5, ()))) else (some (false, ()))) : (Option (Bool × Unit))) fun v6 => (some (v6.1, ())))) else (some (false, ()))) : (Option (Bool × Unit))) fun v7 => (some (v7.1, ()))))
def H_impl_ModeOk : Hd := ⟨[.st [.int .i64, .sl 3 (.int .i64), .sl 3 (.int .i64)], .int .i64, .int .i64], [], none, .p, .bool, .p, []⟩
def T_impl_ModeOk : FSig := ⟨H_impl_ModeOk.ps, H_impl_ModeOk.cs, H_impl_ModeOk.io, H_impl_ModeOk.im, H_impl_ModeOk.R, H_impl_ModeOk.m, impl_ModeOk⟩
theorem E_impl_ModeOk : fnOf tys [(84, T_impl_within), (178, T_impl_areAmounts)] Tryz.f166 H_impl_ModeOk = T_impl_ModeOk := by kernel_rfl
theorem K_impl_ModeOk : SigOk Tryz.prog 166 T_impl_ModeOk := (congrArg (SigOk Tryz.prog 166) E_impl_ModeOk).mp (fnOf_ok rfl tysOk ⟨K_impl_within, K_impl_areAmounts, trivial⟩ Tryz.func166 (by decide) rfl (fun _ h => by cases h) (nilEq_of (by kernel_rfl)))
def impl_IsName_L0 : (Int × (Int × ((List UInt8) × Unit))) → Option (Out (Int × (Int × ((List UInt8) × Unit))) ((Bool × (Int × (Int × ((List UInt8) × Unit)))) ⊕ Empty) (Bool × Unit)) :=
  (fun v0 => (if (ltZ v0.1 v0.2.1) = true then (Option.bind (byteAt v0.2.2.1 v0.1) fun v1 => (Option.bind ((if (leZ 97 v1) = true then (Option.bind (byteAt v0.2.2.1 v0.1) fun v2 => (some ((leZ v2 122), (v0.1, (v0.1, (v0.2.1, (v0.2.2.1, ()))))))) else (some (false, (v0.1, (v0.1, (v0.2.1, (v0.2.2.1, ()))))))) : (Option (Bool × (Int × (Int × (Int × ((List UInt8) × Unit))))))) fun v3 => (Option.bind ((if (notB v3.1) = true then (Option.bind ((if (eqZ v3.2.1 0) = true then (some (true, (v3.2.2.1, (v3.2.2.2.1, (v3.2.2.2.2.1, ()))))) else (Option.bind (byteAt v3.2.2.2.2.1 v3.2.1) fun v4 => (Option.bind ((if (ltZ v4 48) = true then (some (true, (v3.2.2.1, (v3.2.2.2.1, (v3.2.2.2.2.1, ()))))) else (Option.bind (byteAt v3.2.2.2.2.1 v3.2.1) fun v5 => (some ((ltZ 57 v5), (v3.2.2.1, (v3.2.2.2.1, (v3.2.2.2.2.1, ()))))))) : (Option (Bool × (Int × (Int × ((List UInt8) × Unit)))))) fun v6 => (some (v6.1, (v6.2.1, (v6.2.2.1, (v6.2.2.2.1, ())))))))) : (Option (Bool × (Int × (Int × ((List UInt8) × Unit)))))) fun v7 => (some (v7.1, (v7.2.1, (v7.2.2.1, (v7.2.2.2.1, ())))))) else (some (false, (v3.2.2.1, (v3.2.2.2.1, (v3.2.2.2.2.1, ())))))) : (Option (Bool × (Int × (Int × ((List UInt8) × Unit)))))) fun v8 => (if v8.1 = true then (some (Out.ret (false, ()))) else (some (Out.norm ((addZ .i64 v8.2.1 1), (v8.2.2.1, (v8.2.2.2.1, ()))))))))) else (some (Out.exit (Sum.inl ((ltZ v0.1 v0.2.1), (v0.1, (v0.2.1, (v0.2.2.1, ())))))))))
def impl_IsName (x : ((List UInt8) × Unit)) (c : Unit) : (Option (Bool × Unit)) :=
  (Option.bind (loopN (A := (Int × (Int × ((List UInt8) × Unit)))) big impl_IsName_L0 (0, ((lenI x.1), (x.1, ())))) fun v9 => (match v9 with | Out.norm v10 => none | Out.exit v11 => (match ((match v11 with | Sum.inl v16 => (Sum.inl (v16.2.2.2.1, ())) | Sum.inr v17 => (Empty.elim v17)) : (((List UInt8) × Unit) ⊕ Empty)) with | Sum.inl v12 => (Option.bind ((Option.bind (impl_within ((lenI v12.1), (1, (8, ()))) ()) fun v13 => (some v13.1)) : (Option Bool)) fun v14 => (some (v14, ()))) | Sum.inr v15 => none) | Out.ret v18 => (some v18)))
def H_impl_IsName : Hd := ⟨[.str], [], none, .p, .bool, .p, []⟩
def T_impl_IsName : FSig := ⟨H_impl_IsName.ps, H_impl_IsName.cs, H_impl_IsName.io, H_impl_IsName.im, H_impl_IsName.R, H_impl_IsName.m, impl_IsName⟩
theorem E_impl_IsName : fnOf tys [(84, T_impl_within)] Tryz.f167 H_impl_IsName = T_impl_IsName := by kernel_rfl
theorem K_impl_IsName : SigOk Tryz.prog 167 T_impl_IsName := (congrArg (SigOk Tryz.prog 167) E_impl_IsName).mp (fnOf_ok rfl tysOk ⟨K_impl_within, trivial⟩ Tryz.func167 (by decide) rfl (fun _ h => by cases h) (nilEq_of (by kernel_rfl)))
def impl_ActivityOk_L0 : (Int × (Int × ((List D_Mode) × (Int × (Int × (D_Activity × Unit)))))) → Option (Out (Int × (Int × ((List D_Mode) × (Int × (Int × (D_Activity × Unit)))))) ((Bool × (Int × (Int × ((List D_Mode) × (Int × (Int × (D_Activity × Unit))))))) ⊕ Empty) (Bool × Unit)) :=
  (fun v0 => (if (ltZ v0.1 v0.2.1) = true then (Option.bind (getI v0.2.2.1 v0.1) fun v1 => (Option.bind ((Option.bind (impl_ModeOk (v1, (v0.2.2.2.1, (v0.2.2.2.2.1, ()))) ()) fun v2 => (some v2.1)) : (Option Bool)) fun v3 => (if (notB v3) = true then (some (Out.ret (false, ()))) else (some (Out.norm ((addZ .i64 v0.1 1), (v0.2.1, (v0.2.2.1, (v0.2.2.2.1, (v0.2.2.2.2.1, (v0.2.2.2.2.2.1, ()))))))))))) else (some (Out.exit (Sum.inl ((ltZ v0.1 v0.2.1), (v0.1, (v0.2.1, (v0.2.2.1, (v0.2.2.2.1, (v0.2.2.2.2.1, (v0.2.2.2.2.2.1, ()))))))))))))
def impl_ActivityOk (x : (D_Activity × D_Step)) (c : Unit) : (Option (Bool × Unit)) :=
  (Option.bind (loopN (A := (Int × (Int × ((List D_Mode) × (Int × (Int × (D_Activity × Unit))))))) big impl_ActivityOk_L0 (0, ((lenI x.1.2.2.1), (x.1.2.2.1, (x.2.1, (x.2.2.1, (x.1, ()))))))) fun v4 => (match v4 with | Out.norm v5 => none | Out.exit v6 => (match ((match v6 with | Sum.inl v17 => (Sum.inl (v17.2.2.2.2.2.2.1, ())) | Sum.inr v18 => (Empty.elim v18)) : ((D_Activity × Unit) ⊕ Empty)) with | Sum.inl v7 => (Option.bind ((Option.bind (impl_IsName (v7.1.1, ()) ()) fun v8 => (some v8.1)) : (Option Bool)) fun v9 => (Option.bind ((if v9 = true then (Option.bind ((Option.bind (impl_within (v7.1.2.1, (0, (3, ()))) ()) fun v10 => (some v10.1)) : (Option Bool)) fun v11 => (Option.bind ((if v11 = true then (Option.bind ((Option.bind (impl_within ((lenI v7.1.2.2.1), (1, (3, ()))) ()) fun v12 => (some v12.1)) : (Option Bool)) fun v13 => (some (v13, ()))) else (some (false, ()))) : (Option (Bool × Unit))) fun v14 => (some (v14.1, ())))) else (some (false, ()))) : (Option (Bool × Unit))) fun v15 => (some (v15.1, ())))) | Sum.inr v16 => none) | Out.ret v19 => (some v19)))
def H_impl_ActivityOk : Hd := ⟨[.st [.str, .int .i64, .sl 105 (.st [.int .i64, .sl 3 (.int .i64), .sl 3 (.int .i64)])], .int .i64, .int .i64], [], none, .p, .bool, .p, []⟩
def T_impl_ActivityOk : FSig := ⟨H_impl_ActivityOk.ps, H_impl_ActivityOk.cs, H_impl_ActivityOk.io, H_impl_ActivityOk.im, H_impl_ActivityOk.R, H_impl_ActivityOk.m, impl_ActivityOk⟩
theorem E_impl_ActivityOk : fnOf tys [(84, T_impl_within), (166, T_impl_ModeOk), (167, T_impl_IsName)] Tryz.f142 H_impl_ActivityOk = T_impl_ActivityOk := by kernel_rfl
theorem K_impl_ActivityOk : SigOk Tryz.prog 142 T_impl_ActivityOk := (congrArg (SigOk Tryz.prog 142) E_impl_ActivityOk).mp (fnOf_ok rfl tysOk ⟨K_impl_within, K_impl_ModeOk, K_impl_IsName, trivial⟩ Tryz.func142 (by decide) rfl (fun _ h => by cases h) (nilEq_of (by kernel_rfl)))
def slices_IndexFunc_impl_Activity_impl_Activity_L0 : (Int × (Int × (((D_Activity × Unit) → (Option Bool)) × ((List D_Activity) × Unit)))) → Option (Out (Int × (Int × (((D_Activity × Unit) → (Option Bool)) × ((List D_Activity) × Unit)))) ((Bool × (Int × (Int × (((D_Activity × Unit) → (Option Bool)) × ((List D_Activity) × Unit))))) ⊕ Empty) (Int × Unit)) :=
  (fun v0 => (if (ltZ v0.1 v0.2.1) = true then (Option.bind (getI v0.2.2.2.1 v0.1) fun v1 => (Option.bind (v0.2.2.1 (v1, ())) fun v2 => (if v2 = true then (some (Out.ret (v0.1, ()))) else (some (Out.norm ((addZ .i64 v0.1 1), (v0.2.1, (v0.2.2.1, (v0.2.2.2.1, ()))))))))) else (some (Out.exit (Sum.inl ((ltZ v0.1 v0.2.1), (v0.1, (v0.2.1, (v0.2.2.1, (v0.2.2.2.1, ()))))))))))
def slices_IndexFunc_impl_Activity_impl_Activity (x : ((List D_Activity) × (((D_Activity × Unit) → (Option Bool)) × Unit))) (c : Unit) : (Option (Int × Unit)) :=
  (Option.bind (loopN (A := (Int × (Int × (((D_Activity × Unit) → (Option Bool)) × ((List D_Activity) × Unit))))) big slices_IndexFunc_impl_Activity_impl_Activity_L0 (0, ((lenI x.1), (x.2.1, (x.1, ()))))) fun v3 => (match v3 with | Out.norm v4 => none | Out.exit v5 => (match ((match v5 with | Sum.inl v8 => (Sum.inl ()) | Sum.inr v9 => (Empty.elim v9)) : (Unit ⊕ Empty)) with | Sum.inl v6 => (some ((-1), ())) | Sum.inr v7 => none) | Out.ret v10 => (some v10)))
def H_slices_IndexFunc_impl_Activity_impl_Activity : Hd := ⟨[.sl 74 (.st [.str, .int .i64, .sl 105 (.st [.int .i64, .sl 3 (.int .i64), .sl 3 (.int .i64)])]), .fn [.st [.str, .int .i64, .sl 105 (.st [.int .i64, .sl 3 (.int .i64), .sl 3 (.int .i64)])]] (.bool)], [], none, .p, .int .i64, .p, []⟩
def T_slices_IndexFunc_impl_Activity_impl_Activity : FSig := ⟨H_slices_IndexFunc_impl_Activity_impl_Activity.ps, H_slices_IndexFunc_impl_Activity_impl_Activity.cs, H_slices_IndexFunc_impl_Activity_impl_Activity.io, H_slices_IndexFunc_impl_Activity_impl_Activity.im, H_slices_IndexFunc_impl_Activity_impl_Activity.R, H_slices_IndexFunc_impl_Activity_impl_Activity.m, slices_IndexFunc_impl_Activity_impl_Activity⟩
theorem E_slices_IndexFunc_impl_Activity_impl_Activity : fnOf tys [] Tryz.f168 H_slices_IndexFunc_impl_Activity_impl_Activity = T_slices_IndexFunc_impl_Activity_impl_Activity := by kernel_rfl
theorem K_slices_IndexFunc_impl_Activity_impl_Activity : SigOk Tryz.prog 168 T_slices_IndexFunc_impl_Activity_impl_Activity := (congrArg (SigOk Tryz.prog 168) E_slices_IndexFunc_impl_Activity_impl_Activity).mp (fnOf_ok rfl tysOk trivial Tryz.func168 (by decide) rfl (fun _ h => by cases h) (nilEq_of (by kernel_rfl)))
def impl_ActivityIndex_1 (x : (D_Activity × Unit)) (c : ((List UInt8) × Unit)) : (Option (Bool × Unit)) :=
  (some ((eqS x.1.1 c.1), ()))
def H_impl_ActivityIndex_1 : Hd := ⟨[.st [.str, .int .i64, .sl 105 (.st [.int .i64, .sl 3 (.int .i64), .sl 3 (.int .i64)])]], [.str], none, .p, .bool, .p, []⟩
def T_impl_ActivityIndex_1 : FSig := ⟨H_impl_ActivityIndex_1.ps, H_impl_ActivityIndex_1.cs, H_impl_ActivityIndex_1.io, H_impl_ActivityIndex_1.im, H_impl_ActivityIndex_1.R, H_impl_ActivityIndex_1.m, impl_ActivityIndex_1⟩
theorem E_impl_ActivityIndex_1 : fnOf tys [] Tryz.f169 H_impl_ActivityIndex_1 = T_impl_ActivityIndex_1 := by kernel_rfl
theorem K_impl_ActivityIndex_1 : SigOk Tryz.prog 169 T_impl_ActivityIndex_1 := (congrArg (SigOk Tryz.prog 169) E_impl_ActivityIndex_1).mp (fnOf_ok rfl tysOk trivial Tryz.func169 (by decide) rfl (fun _ h => by cases h) (nilEq_of (by kernel_rfl)))
def impl_ActivityIndex (x : (D_Project × ((List UInt8) × Unit))) (c : Unit) : (Option (Int × Unit)) :=
  (Option.bind ((Option.bind (slices_IndexFunc_impl_Activity_impl_Activity (x.1.2.1, ((fun v0 => (Option.bind (impl_ActivityIndex_1 v0 (x.2.1, ())) fun v1 => (some v1.1))), ())) ()) fun v2 => (some v2.1)) : (Option Int)) fun v3 => (some (v3, ())))
def H_impl_ActivityIndex : Hd := ⟨[.st [.int .i64, .sl 74 (.st [.str, .int .i64, .sl 105 (.st [.int .i64, .sl 3 (.int .i64), .sl 3 (.int .i64)])]), .sl 109 (.st [.int .i64, .int .i64, .bool, .int .i64]), .sl 114 (.st [.sl 149 (.st [.int .i64, .int .i64]), .sl 25 (.sl 3 (.int .i64))]), .sl 3 (.int .i64)], .str], [], none, .p, .int .i64, .p, []⟩
def T_impl_ActivityIndex : FSig := ⟨H_impl_ActivityIndex.ps, H_impl_ActivityIndex.cs, H_impl_ActivityIndex.io, H_impl_ActivityIndex.im, H_impl_ActivityIndex.R, H_impl_ActivityIndex.m, impl_ActivityIndex⟩
theorem E_impl_ActivityIndex : fnOf tys [(168, T_slices_IndexFunc_impl_Activity_impl_Activity), (169, T_impl_ActivityIndex_1)] Tryz.f143 H_impl_ActivityIndex = T_impl_ActivityIndex := by kernel_rfl
theorem K_impl_ActivityIndex : SigOk Tryz.prog 143 T_impl_ActivityIndex := (congrArg (SigOk Tryz.prog 143) E_impl_ActivityIndex).mp (fnOf_ok rfl tysOk ⟨K_slices_IndexFunc_impl_Activity_impl_Activity, K_impl_ActivityIndex_1, trivial⟩ Tryz.func143 (by decide) rfl (fun _ h => by cases h) (nilEq_of (by kernel_rfl)))
def impl_isTime (x : (Int × Unit)) (c : Unit) : (Option (Bool × Unit)) :=
  (Option.bind ((Option.bind (impl_within (x.1, (0, (60, ()))) ()) fun v0 => (some v0.1)) : (Option Bool)) fun v1 => (some (v1, ())))
def H_impl_isTime : Hd := ⟨[.int .i64], [], none, .p, .bool, .p, []⟩
def T_impl_isTime : FSig := ⟨H_impl_isTime.ps, H_impl_isTime.cs, H_impl_isTime.io, H_impl_isTime.im, H_impl_isTime.R, H_impl_isTime.m, impl_isTime⟩
theorem E_impl_isTime : fnOf tys [(84, T_impl_within)] Tryz.f71 H_impl_isTime = T_impl_isTime := by kernel_rfl
theorem K_impl_isTime : SigOk Tryz.prog 71 T_impl_isTime := (congrArg (SigOk Tryz.prog 71) E_impl_isTime).mp (fnOf_ok rfl tysOk ⟨K_impl_within, trivial⟩ Tryz.func71 (by decide) rfl (fun _ h => by cases h) (nilEq_of (by kernel_rfl)))
def impl_StepsOk_L0 : (Int × (Int × ((List D_Step) × ((List D_Step) × Unit)))) → Option (Out (Int × (Int × ((List D_Step) × ((List D_Step) × Unit)))) ((Bool × (Int × (Int × ((List D_Step) × ((List D_Step) × Unit))))) ⊕ Empty) (Bool × Unit)) :=
  (fun v0 => (if (ltZ v0.1 v0.2.1) = true then (Option.bind (getI v0.2.2.1 v0.1) fun v1 => (Option.bind ((Option.bind (impl_isTime (v1.1, ()) ()) fun v2 => (some v2.1)) : (Option Bool)) fun v3 => (Option.bind ((if (notB v3) = true then (some (true, (v0.1, (v0.2.1, (v0.2.2.1, (v0.2.2.2.1, ())))))) else (Option.bind ((Option.bind (impl_isAmount (v1.2.1, ()) ()) fun v4 => (some v4.1)) : (Option Bool)) fun v5 => (Option.bind ((if (notB v5) = true then (some (true, (v0.1, (v0.2.1, (v0.2.2.1, (v0.2.2.2.1, ())))))) else (Option.bind ((if (eqZ v0.1 0) = true then (Option.bind ((if (notB (eqZ v1.1 0)) = true then (some (true, (v0.1, (v0.2.1, (v0.2.2.1, (v0.2.2.2.1, ())))))) else (Option.bind ((if (ltZ 0 v0.1) = true then (Option.bind (getI v0.2.2.2.1 (subZ .i64 v0.1 1)) fun v6 => (some ((leZ v1.1 v6.1), (v0.1, (v0.2.1, (v0.2.2.1, (v0.2.2.2.1, ()))))))) else (some (false, (v0.1, (v0.2.1, (v0.2.2.1, (v0.2.2.2.1, ()))))))) : (Option (Bool × (Int × (Int × ((List D_Step) × ((List D_Step) × Unit))))))) fun v7 => (some (v7.1, (v7.2.1, (v7.2.2.1, (v7.2.2.2.1, (v7.2.2.2.2.1, ())))))))) : (Option (Bool × (Int × (Int × ((List D_Step) × ((List D_Step) × Unit))))))) fun v8 => (some (v8.1, (v8.2.1, (v8.2.2.1, (v8.2.2.2.1, (v8.2.2.2.2.1, ()))))))) else (Option.bind ((Option.bind ((if (ltZ 0 v0.1) = true then (Option.bind (getI v0.2.2.2.1 (subZ .i64 v0.1 1)) fun v9 => (some ((leZ v1.1 v9.1), (v0.1, (v0.2.1, (v0.2.2.1, (v0.2.2.2.1, ()))))))) else (some (false, (v0.1, (v0.2.1, (v0.2.2.1, (v0.2.2.2.1, ()))))))) : (Option (Bool × (Int × (Int × ((List D_Step) × ((List D_Step) × Unit))))))) fun v10 => (some (v10.1, (v10.2.1, (v10.2.2.1, (v10.2.2.2.1, (v10.2.2.2.2.1, ()))))))) : (Option (Bool × (Int × (Int × ((List D_Step) × ((List D_Step) × Unit))))))) fun v11 => (some (v11.1, (v11.2.1, (v11.2.2.1, (v11.2.2.2.1, (v11.2.2.2.2.1, ())))))))) : (Option (Bool × (Int × (Int × ((List D_Step) × ((List D_Step) × Unit))))))) fun v12 => (some (v12.1, (v12.2.1, (v12.2.2.1, (v12.2.2.2.1, (v12.2.2.2.2.1, ())))))))) : (Option (Bool × (Int × (Int × ((List D_Step) × ((List D_Step) × Unit))))))) fun v13 => (some (v13.1, (v13.2.1, (v13.2.2.1, (v13.2.2.2.1, (v13.2.2.2.2.1, ()))))))))) : (Option (Bool × (Int × (Int × ((List D_Step) × ((List D_Step) × Unit))))))) fun v14 => (if v14.1 = true then (some (Out.ret (false, ()))) else (some (Out.norm ((addZ .i64 v14.2.1 1), (v14.2.2.1, (v14.2.2.2.1, (v14.2.2.2.2.1, ())))))))))) else (some (Out.exit (Sum.inl ((ltZ v0.1 v0.2.1), (v0.1, (v0.2.1, (v0.2.2.1, (v0.2.2.2.1, ()))))))))))
def impl_StepsOk (x : ((List D_Step) × Unit)) (c : Unit) : (Option (Bool × Unit)) :=
  (Option.bind (loopN (A := (Int × (Int × ((List D_Step) × ((List D_Step) × Unit))))) big impl_StepsOk_L0 (0, ((lenI x.1), (x.1, (x.1, ()))))) fun v15 => (match v15 with | Out.norm v16 => none | Out.exit v17 => (match ((match v17 with | Sum.inl v22 => (Sum.inl (v22.2.2.2.2.1, ())) | Sum.inr v23 => (Empty.elim v23)) : (((List D_Step) × Unit) ⊕ Empty)) with | Sum.inl v18 => (Option.bind ((Option.bind (impl_within ((lenI v18.1), (1, (8, ()))) ()) fun v19 => (some v19.1)) : (Option Bool)) fun v20 => (some (v20, ()))) | Sum.inr v21 => none) | Out.ret v24 => (some v24)))
def H_impl_StepsOk : Hd := ⟨[.sl 149 (.st [.int .i64, .int .i64])], [], none, .p, .bool, .p, []⟩
def T_impl_StepsOk : FSig := ⟨H_impl_StepsOk.ps, H_impl_StepsOk.cs, H_impl_StepsOk.io, H_impl_StepsOk.im, H_impl_StepsOk.R, H_impl_StepsOk.m, impl_StepsOk⟩
theorem E_impl_StepsOk : fnOf tys [(71, T_impl_isTime), (84, T_impl_within), (179, T_impl_isAmount)] Tryz.f170 H_impl_StepsOk = T_impl_StepsOk := by kernel_rfl
theorem K_impl_StepsOk : SigOk Tryz.prog 170 T_impl_StepsOk := (congrArg (SigOk Tryz.prog 170) E_impl_StepsOk).mp (fnOf_ok rfl tysOk ⟨K_impl_isTime, K_impl_within, K_impl_isAmount, trivial⟩ Tryz.func170 (by decide) rfl (fun _ h => by cases h) (nilEq_of (by kernel_rfl)))
def impl_ResourceOk_L0 : (Int × (Int × ((List Int) × (Int × (Int × ((List (List Int)) × (D_Resource × Unit))))))) → Option (Out (Int × (Int × ((List Int) × (Int × (Int × ((List (List Int)) × (D_Resource × Unit))))))) ((Bool × (Int × (Int × ((List Int) × (Int × (Int × ((List (List Int)) × (D_Resource × Unit)))))))) ⊕ Empty) (Bool × Unit)) :=
  (fun v2 => (if (ltZ v2.1 v2.2.1) = true then (Option.bind (getI v2.2.2.1 v2.1) fun v3 => (Option.bind ((Option.bind (impl_within (v3, (0, (12, ()))) ()) fun v4 => (some v4.1)) : (Option Bool)) fun v5 => (if (notB v5) = true then (some (Out.ret (false, ()))) else (some (Out.norm ((addZ .i64 v2.1 1), (v2.2.1, (v2.2.2.1, (v2.2.2.2.1, (v2.2.2.2.2.1, (v2.2.2.2.2.2.1, (v2.2.2.2.2.2.2.1, ())))))))))))) else (some (Out.exit (Sum.inl ((ltZ v2.1 v2.2.1), (v2.1, (v2.2.1, (v2.2.2.1, (v2.2.2.2.1, (v2.2.2.2.2.1, (v2.2.2.2.2.2.1, (v2.2.2.2.2.2.2.1, ())))))))))))))
def impl_ResourceOk_L1 : (Int × (Int × ((List (List Int)) × (D_Resource × Unit)))) → Option (Out (Int × (Int × ((List (List Int)) × (D_Resource × Unit)))) ((Bool × (Int × (Int × ((List (List Int)) × (D_Resource × Unit))))) ⊕ Empty) (Bool × Unit)) :=
  (fun v0 => (if (ltZ v0.1 v0.2.1) = true then (Option.bind (getI v0.2.2.1 v0.1) fun v1 => (if (notB (eqZ (lenI v1) 4)) = true then (some (Out.ret (false, ()))) else (Option.bind (loopN (A := (Int × (Int × ((List Int) × (Int × (Int × ((List (List Int)) × (D_Resource × Unit)))))))) big impl_ResourceOk_L0 (0, ((lenI v1), (v1, (v0.1, (v0.2.1, (v0.2.2.1, (v0.2.2.2.1, ())))))))) fun v6 => (match v6 with | Out.norm v7 => none | Out.exit v8 => (match ((match v8 with | Sum.inl v13 => (Sum.inl (v13.2.2.2.2.1, (v13.2.2.2.2.2.1, (v13.2.2.2.2.2.2.1, (v13.2.2.2.2.2.2.2.1, ()))))) | Sum.inr v14 => (Empty.elim v14)) : ((Int × (Int × ((List (List Int)) × (D_Resource × Unit)))) ⊕ Empty)) with | Sum.inl v9 => (some (Out.norm ((addZ .i64 v9.1 1), (v9.2.1, (v9.2.2.1, (v9.2.2.2.1, ())))))) | Sum.inr v10 => (match ((Empty.elim v10) : ((Int × (Int × ((List (List Int)) × (D_Resource × Unit)))) ⊕ Empty)) with | Sum.inl v11 => (some (Out.norm ((addZ .i64 v11.1 1), (v11.2.1, (v11.2.2.1, (v11.2.2.2.1, ())))))) | Sum.inr v12 => (some (Out.exit (Sum.inr (Empty.elim v12)))))) | Out.ret v15 => (some (Out.ret v15)))))) else (some (Out.exit (Sum.inl ((ltZ v0.1 v0.2.1), (v0.1, (v0.2.1, (v0.2.2.1, (v0.2.2.2.1, ()))))))))))
def impl_ResourceOk (x : (D_Resource × Unit)) (c : Unit) : (Option (Bool × Unit)) :=
  (Option.bind (loopN (A := (Int × (Int × ((List (List Int)) × (D_Resource × Unit))))) big impl_ResourceOk_L1 (0, ((lenI x.1.2.1), (x.1.2.1, (x.1, ()))))) fun v16 => (match v16 with | Out.norm v17 => none | Out.exit v18 => (match ((match v18 with | Sum.inl v25 => (Sum.inl (v25.2.2.2.2.1, ())) | Sum.inr v26 => (Empty.elim v26)) : ((D_Resource × Unit) ⊕ Empty)) with | Sum.inl v19 => (Option.bind ((Option.bind (impl_StepsOk (v19.1.1, ()) ()) fun v20 => (some v20.1)) : (Option Bool)) fun v21 => (Option.bind ((if v21 = true then (Option.bind ((if (eqZ (lenI v19.1.2.1) 0) = true then (some (true, ())) else (some ((eqZ (lenI v19.1.2.1) 4), ()))) : (Option (Bool × Unit))) fun v22 => (some (v22.1, ()))) else (some (false, ()))) : (Option (Bool × Unit))) fun v23 => (some (v23.1, ())))) | Sum.inr v24 => none) | Out.ret v27 => (some v27)))
def H_impl_ResourceOk : Hd := ⟨[.st [.sl 149 (.st [.int .i64, .int .i64]), .sl 25 (.sl 3 (.int .i64))]], [], none, .p, .bool, .p, []⟩
def T_impl_ResourceOk : FSig := ⟨H_impl_ResourceOk.ps, H_impl_ResourceOk.cs, H_impl_ResourceOk.io, H_impl_ResourceOk.im, H_impl_ResourceOk.R, H_impl_ResourceOk.m, impl_ResourceOk⟩
theorem E_impl_ResourceOk : fnOf tys [(84, T_impl_within), (170, T_impl_StepsOk)] Tryz.f144 H_impl_ResourceOk = T_impl_ResourceOk := by kernel_rfl
theorem K_impl_ResourceOk : SigOk Tryz.prog 144 T_impl_ResourceOk := (congrArg (SigOk Tryz.prog 144) E_impl_ResourceOk).mp (fnOf_ok rfl tysOk ⟨K_impl_within, K_impl_StepsOk, trivial⟩ Tryz.func144 (by decide) rfl (fun _ h => by cases h) (nilEq_of (by kernel_rfl)))
def slices_IndexFunc_impl_Link_impl_Link_L0 : (Int × (Int × (((D_Link × Unit) → (Option Bool)) × ((List D_Link) × Unit)))) → Option (Out (Int × (Int × (((D_Link × Unit) → (Option Bool)) × ((List D_Link) × Unit)))) ((Bool × (Int × (Int × (((D_Link × Unit) → (Option Bool)) × ((List D_Link) × Unit))))) ⊕ Empty) (Int × Unit)) :=
  (fun v0 => (if (ltZ v0.1 v0.2.1) = true then (Option.bind (getI v0.2.2.2.1 v0.1) fun v1 => (Option.bind (v0.2.2.1 (v1, ())) fun v2 => (if v2 = true then (some (Out.ret (v0.1, ()))) else (some (Out.norm ((addZ .i64 v0.1 1), (v0.2.1, (v0.2.2.1, (v0.2.2.2.1, ()))))))))) else (some (Out.exit (Sum.inl ((ltZ v0.1 v0.2.1), (v0.1, (v0.2.1, (v0.2.2.1, (v0.2.2.2.1, ()))))))))))
def slices_IndexFunc_impl_Link_impl_Link (x : ((List D_Link) × (((D_Link × Unit) → (Option Bool)) × Unit))) (c : Unit) : (Option (Int × Unit)) :=
  (Option.bind (loopN (A := (Int × (Int × (((D_Link × Unit) → (Option Bool)) × ((List D_Link) × Unit))))) big slices_IndexFunc_impl_Link_impl_Link_L0 (0, ((lenI x.1), (x.2.1, (x.1, ()))))) fun v3 => (match v3 with | Out.norm v4 => none | Out.exit v5 => (match ((match v5 with | Sum.inl v8 => (Sum.inl ()) | Sum.inr v9 => (Empty.elim v9)) : (Unit ⊕ Empty)) with | Sum.inl v6 => (some ((-1), ())) | Sum.inr v7 => none) | Out.ret v10 => (some v10)))
def H_slices_IndexFunc_impl_Link_impl_Link : Hd := ⟨[.sl 109 (.st [.int .i64, .int .i64, .bool, .int .i64]), .fn [.st [.int .i64, .int .i64, .bool, .int .i64]] (.bool)], [], none, .p, .int .i64, .p, []⟩
def T_slices_IndexFunc_impl_Link_impl_Link : FSig := ⟨H_slices_IndexFunc_impl_Link_impl_Link.ps, H_slices_IndexFunc_impl_Link_impl_Link.cs, H_slices_IndexFunc_impl_Link_impl_Link.io, H_slices_IndexFunc_impl_Link_impl_Link.im, H_slices_IndexFunc_impl_Link_impl_Link.R, H_slices_IndexFunc_impl_Link_impl_Link.m, slices_IndexFunc_impl_Link_impl_Link⟩
theorem E_slices_IndexFunc_impl_Link_impl_Link : fnOf tys [] Tryz.f171 H_slices_IndexFunc_impl_Link_impl_Link = T_slices_IndexFunc_impl_Link_impl_Link := by kernel_rfl
theorem K_slices_IndexFunc_impl_Link_impl_Link : SigOk Tryz.prog 171 T_slices_IndexFunc_impl_Link_impl_Link := (congrArg (SigOk Tryz.prog 171) E_slices_IndexFunc_impl_Link_impl_Link).mp (fnOf_ok rfl tysOk trivial Tryz.func171 (by decide) rfl (fun _ h => by cases h) (nilEq_of (by kernel_rfl)))
def slices_ContainsFunc_impl_Link_impl_Link (x : ((List D_Link) × (((D_Link × Unit) → (Option Bool)) × Unit))) (c : Unit) : (Option (Bool × Unit)) :=
  (Option.bind ((Option.bind (slices_IndexFunc_impl_Link_impl_Link (x.1, (x.2.1, ())) ()) fun v0 => (some v0.1)) : (Option Int)) fun v1 => (some ((leZ 0 v1), ())))
def H_slices_ContainsFunc_impl_Link_impl_Link : Hd := ⟨[.sl 109 (.st [.int .i64, .int .i64, .bool, .int .i64]), .fn [.st [.int .i64, .int .i64, .bool, .int .i64]] (.bool)], [], none, .p, .bool, .p, []⟩
def T_slices_ContainsFunc_impl_Link_impl_Link : FSig := ⟨H_slices_ContainsFunc_impl_Link_impl_Link.ps, H_slices_ContainsFunc_impl_Link_impl_Link.cs, H_slices_ContainsFunc_impl_Link_impl_Link.io, H_slices_ContainsFunc_impl_Link_impl_Link.im, H_slices_ContainsFunc_impl_Link_impl_Link.R, H_slices_ContainsFunc_impl_Link_impl_Link.m, slices_ContainsFunc_impl_Link_impl_Link⟩
theorem E_slices_ContainsFunc_impl_Link_impl_Link : fnOf tys [(171, T_slices_IndexFunc_impl_Link_impl_Link)] Tryz.f145 H_slices_ContainsFunc_impl_Link_impl_Link = T_slices_ContainsFunc_impl_Link_impl_Link := by kernel_rfl
theorem K_slices_ContainsFunc_impl_Link_impl_Link : SigOk Tryz.prog 145 T_slices_ContainsFunc_impl_Link_impl_Link := (congrArg (SigOk Tryz.prog 145) E_slices_ContainsFunc_impl_Link_impl_Link).mp (fnOf_ok rfl tysOk ⟨K_slices_IndexFunc_impl_Link_impl_Link, trivial⟩ Tryz.func145 (by decide) rfl (fun _ h => by cases h) (nilEq_of (by kernel_rfl)))
def impl_Project_hasActivity (x : (D_Project × (Int × Unit))) (c : Unit) : (Option (Bool × Unit)) :=
  (Option.bind ((Option.bind (impl_within (x.2.1, (0, ((subZ .i64 (lenI x.1.2.1) 1), ()))) ()) fun v0 => (some v0.1)) : (Option Bool)) fun v1 => (some (v1, ())))
def H_impl_Project_hasActivity : Hd := ⟨[.st [.int .i64, .sl 74 (.st [.str, .int .i64, .sl 105 (.st [.int .i64, .sl 3 (.int .i64), .sl 3 (.int .i64)])]), .sl 109 (.st [.int .i64, .int .i64, .bool, .int .i64]), .sl 114 (.st [.sl 149 (.st [.int .i64, .int .i64]), .sl 25 (.sl 3 (.int .i64))]), .sl 3 (.int .i64)], .int .i64], [], none, .p, .bool, .p, []⟩
def T_impl_Project_hasActivity : FSig := ⟨H_impl_Project_hasActivity.ps, H_impl_Project_hasActivity.cs, H_impl_Project_hasActivity.io, H_impl_Project_hasActivity.im, H_impl_Project_hasActivity.R, H_impl_Project_hasActivity.m, impl_Project_hasActivity⟩
theorem E_impl_Project_hasActivity : fnOf tys [(84, T_impl_within)] Tryz.f54 H_impl_Project_hasActivity = T_impl_Project_hasActivity := by kernel_rfl
theorem K_impl_Project_hasActivity : SigOk Tryz.prog 54 T_impl_Project_hasActivity := (congrArg (SigOk Tryz.prog 54) E_impl_Project_hasActivity).mp (fnOf_ok rfl tysOk ⟨K_impl_within, trivial⟩ Tryz.func54 (by decide) rfl (fun _ h => by cases h) (nilEq_of (by kernel_rfl)))
def impl_Project_linkOk (x : (D_Project × (D_Link × Unit))) (c : Unit) : (Option (Bool × Unit)) :=
  (Option.bind ((Option.bind (impl_Project_hasActivity (x.1, (x.2.1.1, ())) ()) fun v0 => (some v0.1)) : (Option Bool)) fun v1 => (Option.bind ((if v1 = true then (Option.bind ((Option.bind (impl_Project_hasActivity (x.1, (x.2.1.2.1, ())) ()) fun v2 => (some v2.1)) : (Option Bool)) fun v3 => (Option.bind ((if v3 = true then (Option.bind ((if (notB (eqZ x.2.1.1 x.2.1.2.1)) = true then (Option.bind ((Option.bind (impl_within (x.2.1.2.2.2.1, ((-60), (60, ()))) ()) fun v4 => (some v4.1)) : (Option Bool)) fun v5 => (some (v5, ()))) else (some (false, ()))) : (Option (Bool × Unit))) fun v6 => (some (v6.1, ()))) else (some (false, ()))) : (Option (Bool × Unit))) fun v7 => (some (v7.1, ())))) else (some (false, ()))) : (Option (Bool × Unit))) fun v8 => (some (v8.1, ()))))
def H_impl_Project_linkOk : Hd := ⟨[.st [.int .i64, .sl 74 (.st [.str, .int .i64, .sl 105 (.st [.int .i64, .sl 3 (.int .i64), .sl 3 (.int .i64)])]), .sl 109 (.st [.int .i64, .int .i64, .bool, .int .i64]), .sl 114 (.st [.sl 149 (.st [.int .i64, .int .i64]), .sl 25 (.sl 3 (.int .i64))]), .sl 3 (.int .i64)], .st [.int .i64, .int .i64, .bool, .int .i64]], [], none, .p, .bool, .p, []⟩
def T_impl_Project_linkOk : FSig := ⟨H_impl_Project_linkOk.ps, H_impl_Project_linkOk.cs, H_impl_Project_linkOk.io, H_impl_Project_linkOk.im, H_impl_Project_linkOk.R, H_impl_Project_linkOk.m, impl_Project_linkOk⟩
theorem E_impl_Project_linkOk : fnOf tys [(54, T_impl_Project_hasActivity), (84, T_impl_within)] Tryz.f147 H_impl_Project_linkOk = T_impl_Project_linkOk := by kernel_rfl
theorem K_impl_Project_linkOk : SigOk Tryz.prog 147 T_impl_Project_linkOk := (congrArg (SigOk Tryz.prog 147) E_impl_Project_linkOk).mp (fnOf_ok rfl tysOk ⟨K_impl_Project_hasActivity, K_impl_within, trivial⟩ Tryz.func147 (by decide) rfl (fun _ h => by cases h) (nilEq_of (by kernel_rfl)))
def impl_ProjectOk_1 (x : (D_Link × Unit)) (c : (D_Project × Unit)) : (Option (Bool × Unit)) :=
  (Option.bind ((Option.bind (impl_Project_linkOk (c.1, (x.1, ())) ()) fun v0 => (some v0.1)) : (Option Bool)) fun v1 => (some ((notB v1), ())))
def H_impl_ProjectOk_1 : Hd := ⟨[.st [.int .i64, .int .i64, .bool, .int .i64]], [.st [.int .i64, .sl 74 (.st [.str, .int .i64, .sl 105 (.st [.int .i64, .sl 3 (.int .i64), .sl 3 (.int .i64)])]), .sl 109 (.st [.int .i64, .int .i64, .bool, .int .i64]), .sl 114 (.st [.sl 149 (.st [.int .i64, .int .i64]), .sl 25 (.sl 3 (.int .i64))]), .sl 3 (.int .i64)]], none, .p, .bool, .p, []⟩
def T_impl_ProjectOk_1 : FSig := ⟨H_impl_ProjectOk_1.ps, H_impl_ProjectOk_1.cs, H_impl_ProjectOk_1.io, H_impl_ProjectOk_1.im, H_impl_ProjectOk_1.R, H_impl_ProjectOk_1.m, impl_ProjectOk_1⟩
theorem E_impl_ProjectOk_1 : fnOf tys [(147, T_impl_Project_linkOk)] Tryz.f146 H_impl_ProjectOk_1 = T_impl_ProjectOk_1 := by kernel_rfl
theorem K_impl_ProjectOk_1 : SigOk Tryz.prog 146 T_impl_ProjectOk_1 := (congrArg (SigOk Tryz.prog 146) E_impl_ProjectOk_1).mp (fnOf_ok rfl tysOk ⟨K_impl_Project_linkOk, trivial⟩ Tryz.func146 (by decide) rfl (fun _ h => by cases h) (nilEq_of (by kernel_rfl)))
def impl_ProjectOk_L0 : (Int × (Int × ((List D_Activity) × (D_Project × Unit)))) → Option (Out (Int × (Int × ((List D_Activity) × (D_Project × Unit)))) ((Bool × (Int × (Int × ((List D_Activity) × (D_Project × Unit))))) ⊕ Empty) (Bool × Unit)) :=
  (fun v8 => (if (ltZ v8.1 v8.2.1) = true then (Option.bind (getI v8.2.2.1 v8.1) fun v9 => (Option.bind ((Option.bind (impl_ActivityOk (v9, ((lenI v8.2.2.2.1.2.2.2.1), ((lenI v8.2.2.2.1.2.2.2.2.1), ()))) ()) fun v10 => (some v10.1)) : (Option Bool)) fun v11 => (Option.bind ((if (notB v11) = true then (some (true, (v8.1, (v8.2.1, (v8.2.2.1, (v8.2.2.2.1, ())))))) else (Option.bind ((Option.bind (impl_ActivityIndex (v8.2.2.2.1, (v9.1, ())) ()) fun v12 => (some v12.1)) : (Option Int)) fun v13 => (some ((notB (eqZ v13 v8.1)), (v8.1, (v8.2.1, (v8.2.2.1, (v8.2.2.2.1, ())))))))) : (Option (Bool × (Int × (Int × ((List D_Activity) × (D_Project × Unit))))))) fun v14 => (if v14.1 = true then (some (Out.ret (false, ()))) else (some (Out.norm ((addZ .i64 v14.2.1 1), (v14.2.2.1, (v14.2.2.2.1, (v14.2.2.2.2.1, ())))))))))) else (some (Out.exit (Sum.inl ((ltZ v8.1 v8.2.1), (v8.1, (v8.2.1, (v8.2.2.1, (v8.2.2.2.1, ()))))))))))
def impl_ProjectOk_L1 : (Int × (Int × ((List D_Resource) × (D_Project × Unit)))) → Option (Out (Int × (Int × ((List D_Resource) × (D_Project × Unit)))) ((Bool × (Int × (Int × ((List D_Resource) × (D_Project × Unit))))) ⊕ Empty) (Bool × Unit)) :=
  (fun v19 => (if (ltZ v19.1 v19.2.1) = true then (Option.bind (getI v19.2.2.1 v19.1) fun v20 => (Option.bind ((Option.bind (impl_ResourceOk (v20, ()) ()) fun v21 => (some v21.1)) : (Option Bool)) fun v22 => (if (notB v22) = true then (some (Out.ret (false, ()))) else (some (Out.norm ((addZ .i64 v19.1 1), (v19.2.1, (v19.2.2.1, (v19.2.2.2.1, ()))))))))) else (some (Out.exit (Sum.inl ((ltZ v19.1 v19.2.1), (v19.1, (v19.2.1, (v19.2.2.1, (v19.2.2.2.1, ()))))))))))
def impl_ProjectOk_L2 : (Int × (Int × ((List Int) × (D_Project × Unit)))) → Option (Out (Int × (Int × ((List Int) × (D_Project × Unit)))) ((Bool × (Int × (Int × ((List Int) × (D_Project × Unit))))) ⊕ Empty) (Bool × Unit)) :=
  (fun v27 => (if (ltZ v27.1 v27.2.1) = true then (Option.bind (getI v27.2.2.1 v27.1) fun v28 => (Option.bind ((Option.bind (impl_within (v28, (0, (100, ()))) ()) fun v29 => (some v29.1)) : (Option Bool)) fun v30 => (if (notB v30) = true then (some (Out.ret (false, ()))) else (some (Out.norm ((addZ .i64 v27.1 1), (v27.2.1, (v27.2.2.1, (v27.2.2.2.1, ()))))))))) else (some (Out.exit (Sum.inl ((ltZ v27.1 v27.2.1), (v27.1, (v27.2.1, (v27.2.2.1, (v27.2.2.2.1, ()))))))))))
def impl_ProjectOk (x : (D_Project × Unit)) (c : Unit) : (Option (Bool × Unit)) :=
  (Option.bind ((Option.bind (impl_within (x.1.1, (1, (60, ()))) ()) fun v0 => (some v0.1)) : (Option Bool)) fun v1 => (Option.bind ((if (notB v1) = true then (some (true, (x.1, ()))) else (Option.bind ((Option.bind (impl_within ((lenI x.1.2.1), (1, (6, ()))) ()) fun v2 => (some v2.1)) : (Option Bool)) fun v3 => (Option.bind ((if (notB v3) = true then (some (true, (x.1, ()))) else (Option.bind ((if (ltZ 3 (lenI x.1.2.2.2.1)) = true then (some (true, (x.1, ()))) else (Option.bind ((if (ltZ 2 (lenI x.1.2.2.2.2.1)) = true then (some (true, (x.1, ()))) else (some ((ltZ 12 (lenI x.1.2.2.1)), (x.1, ())))) : (Option (Bool × (D_Project × Unit)))) fun v4 => (some (v4.1, (v4.2.1, ()))))) : (Option (Bool × (D_Project × Unit)))) fun v5 => (some (v5.1, (v5.2.1, ()))))) : (Option (Bool × (D_Project × Unit)))) fun v6 => (some (v6.1, (v6.2.1, ())))))) : (Option (Bool × (D_Project × Unit)))) fun v7 => (if v7.1 = true then (some (false, ())) else (Option.bind (loopN (A := (Int × (Int × ((List D_Activity) × (D_Project × Unit))))) big impl_ProjectOk_L0 (0, ((lenI v7.2.1.2.1), (v7.2.1.2.1, (v7.2.1, ()))))) fun v15 => (match v15 with | Out.norm v16 => none | Out.exit v17 => (match ((match v17 with | Sum.inl v48 => (Sum.inl (v48.2.2.2.2.1, ())) | Sum.inr v49 => (Empty.elim v49)) : ((D_Project × Unit) ⊕ Empty)) with | Sum.inl v18 => (Option.bind (loopN (A := (Int × (Int × ((List D_Resource) × (D_Project × Unit))))) big impl_ProjectOk_L1 (0, ((lenI v18.1.2.2.2.1), (v18.1.2.2.2.1, (v18.1, ()))))) fun v23 => (match v23 with | Out.norm v24 => none | Out.exit v25 => (match ((match v25 with | Sum.inl v44 => (Sum.inl (v44.2.2.2.2.1, ())) | Sum.inr v45 => (Empty.elim v45)) : ((D_Project × Unit) ⊕ Empty)) with | Sum.inl v26 => (Option.bind (loopN (A := (Int × (Int × ((List Int) × (D_Project × Unit))))) big impl_ProjectOk_L2 (0, ((lenI v26.1.2.2.2.2.1), (v26.1.2.2.2.2.1, (v26.1, ()))))) fun v31 => (match v31 with | Out.norm v32 => none | Out.exit v33 => (match ((match v33 with | Sum.inl v40 => (Sum.inl (v40.2.2.2.2.1, ())) | Sum.inr v41 => (Empty.elim v41)) : ((D_Project × Unit) ⊕ Empty)) with | Sum.inl v34 => (Option.bind ((Option.bind (slices_ContainsFunc_impl_Link_impl_Link (v34.1.2.2.1, ((fun v35 => (Option.bind (impl_ProjectOk_1 v35 (v34.1, ())) fun v36 => (some v36.1))), ())) ()) fun v37 => (some v37.1)) : (Option Bool)) fun v38 => (some ((notB v38), ()))) | Sum.inr v39 => none) | Out.ret v42 => (some v42))) | Sum.inr v43 => none) | Out.ret v46 => (some v46))) | Sum.inr v47 => none) | Out.ret v50 => (some v50))))))
def H_impl_ProjectOk : Hd := ⟨[.st [.int .i64, .sl 74 (.st [.str, .int .i64, .sl 105 (.st [.int .i64, .sl 3 (.int .i64), .sl 3 (.int .i64)])]), .sl 109 (.st [.int .i64, .int .i64, .bool, .int .i64]), .sl 114 (.st [.sl 149 (.st [.int .i64, .int .i64]), .sl 25 (.sl 3 (.int .i64))]), .sl 3 (.int .i64)]], [], none, .p, .bool, .p, []⟩
def T_impl_ProjectOk : FSig := ⟨H_impl_ProjectOk.ps, H_impl_ProjectOk.cs, H_impl_ProjectOk.io, H_impl_ProjectOk.im, H_impl_ProjectOk.R, H_impl_ProjectOk.m, impl_ProjectOk⟩
theorem E_impl_ProjectOk : fnOf tys [(84, T_impl_within), (142, T_impl_ActivityOk), (143, T_impl_ActivityIndex), (144, T_impl_ResourceOk), (145, T_slices_ContainsFunc_impl_Link_impl_Link), (146, T_impl_ProjectOk_1)] Tryz.f113 H_impl_ProjectOk = T_impl_ProjectOk := by kernel_rfl
theorem K_impl_ProjectOk : SigOk Tryz.prog 113 T_impl_ProjectOk := (congrArg (SigOk Tryz.prog 113) E_impl_ProjectOk).mp (fnOf_ok rfl tysOk ⟨K_impl_within, K_impl_ActivityOk, K_impl_ActivityIndex, K_impl_ResourceOk, K_slices_ContainsFunc_impl_Link_impl_Link, K_impl_ProjectOk_1, trivial⟩ Tryz.func113 (by decide) rfl (fun _ h => by cases h) (nilEq_of (by kernel_rfl)))
def impl_isStart (x : (Int × Unit)) (c : Unit) : (Option (Bool × Unit)) :=
  (Option.bind ((Option.bind (impl_within (x.1, ((-2), (62, ()))) ()) fun v0 => (some v0.1)) : (Option Bool)) fun v1 => (some (v1, ())))
def H_impl_isStart : Hd := ⟨[.int .i64], [], none, .p, .bool, .p, []⟩
def T_impl_isStart : FSig := ⟨H_impl_isStart.ps, H_impl_isStart.cs, H_impl_isStart.io, H_impl_isStart.im, H_impl_isStart.R, H_impl_isStart.m, impl_isStart⟩
theorem E_impl_isStart : fnOf tys [(84, T_impl_within)] Tryz.f114 H_impl_isStart = T_impl_isStart := by kernel_rfl
theorem K_impl_isStart : SigOk Tryz.prog 114 T_impl_isStart := (congrArg (SigOk Tryz.prog 114) E_impl_isStart).mp (fnOf_ok rfl tysOk ⟨K_impl_within, trivial⟩ Tryz.func114 (by decide) rfl (fun _ h => by cases h) (nilEq_of (by kernel_rfl)))
def impl_SetOk_L0 : (Int × ((List Int) × Unit)) → Option (Out (Int × ((List Int) × Unit)) ((Bool × (Int × ((List Int) × Unit))) ⊕ Empty) (Bool × Unit)) :=
  (fun v0 => (if (ltZ v0.1 (lenI v0.2.1)) = true then (Option.bind (getI v0.2.1 v0.1) fun v1 => (Option.bind (getI v0.2.1 (subZ .i64 v0.1 1)) fun v2 => (if (leZ v1 v2) = true then (some (Out.ret (false, ()))) else (some (Out.norm ((addZ .i64 v0.1 1), (v0.2.1, ()))))))) else (some (Out.exit (Sum.inl ((ltZ v0.1 (lenI v0.2.1)), (v0.1, (v0.2.1, ()))))))))
def impl_SetOk (x : ((List Int) × Unit)) (c : Unit) : (Option (Bool × Unit)) :=
  (Option.bind (loopN (A := (Int × ((List Int) × Unit))) big impl_SetOk_L0 (1, (x.1, ()))) fun v3 => (match v3 with | Out.norm v4 => none | Out.exit v5 => (match ((match v5 with | Sum.inl v8 => (Sum.inl ()) | Sum.inr v9 => (Empty.elim v9)) : (Unit ⊕ Empty)) with | Sum.inl v6 => (some (true, ())) | Sum.inr v7 => none) | Out.ret v10 => (some v10)))
def H_impl_SetOk : Hd := ⟨[.sl 3 (.int .i64)], [], none, .p, .bool, .p, []⟩
def T_impl_SetOk : FSig := ⟨H_impl_SetOk.ps, H_impl_SetOk.cs, H_impl_SetOk.io, H_impl_SetOk.im, H_impl_SetOk.R, H_impl_SetOk.m, impl_SetOk⟩
theorem E_impl_SetOk : fnOf tys [] Tryz.f115 H_impl_SetOk = T_impl_SetOk := by kernel_rfl
theorem K_impl_SetOk : SigOk Tryz.prog 115 T_impl_SetOk := (congrArg (SigOk Tryz.prog 115) E_impl_SetOk).mp (fnOf_ok rfl tysOk trivial Tryz.func115 (by decide) rfl (fun _ h => by cases h) (nilEq_of (by kernel_rfl)))
def slices_Index_int_int_L0 : (Int × (Int × (Int × ((List Int) × Unit)))) → Option (Out (Int × (Int × (Int × ((List Int) × Unit)))) ((Bool × (Int × (Int × (Int × ((List Int) × Unit))))) ⊕ Empty) (Int × Unit)) :=
  (fun v0 => (if (ltZ v0.1 v0.2.1) = true then (Option.bind (getI v0.2.2.2.1 v0.1) fun v1 => (if (eqZ v0.2.2.1 v1) = true then (some (Out.ret (v0.1, ()))) else (some (Out.norm ((addZ .i64 v0.1 1), (v0.2.1, (v0.2.2.1, (v0.2.2.2.1, ())))))))) else (some (Out.exit (Sum.inl ((ltZ v0.1 v0.2.1), (v0.1, (v0.2.1, (v0.2.2.1, (v0.2.2.2.1, ()))))))))))
def slices_Index_int_int (x : ((List Int) × (Int × Unit))) (c : Unit) : (Option (Int × Unit)) :=
  (Option.bind (loopN (A := (Int × (Int × (Int × ((List Int) × Unit))))) big slices_Index_int_int_L0 (0, ((lenI x.1), (x.2.1, (x.1, ()))))) fun v2 => (match v2 with | Out.norm v3 => none | Out.exit v4 => (match ((match v4 with | Sum.inl v7 => (Sum.inl ()) | Sum.inr v8 => (Empty.elim v8)) : (Unit ⊕ Empty)) with | Sum.inl v5 => (some ((-1), ())) | Sum.inr v6 => none) | Out.ret v9 => (some v9)))
def H_slices_Index_int_int : Hd := ⟨[.sl 3 (.int .i64), .int .i64], [], none, .p, .int .i64, .p, []⟩
def T_slices_Index_int_int : FSig := ⟨H_slices_Index_int_int.ps, H_slices_Index_int_int.cs, H_slices_Index_int_int.io, H_slices_Index_int_int.im, H_slices_Index_int_int.R, H_slices_Index_int_int.m, slices_Index_int_int⟩
theorem E_slices_Index_int_int : fnOf tys [] Tryz.f172 H_slices_Index_int_int = T_slices_Index_int_int := by kernel_rfl
theorem K_slices_Index_int_int : SigOk Tryz.prog 172 T_slices_Index_int_int := (congrArg (SigOk Tryz.prog 172) E_slices_Index_int_int).mp (fnOf_ok rfl tysOk trivial Tryz.func172 (by decide) rfl (fun _ h => by cases h) (nilEq_of (by kernel_rfl)))
def slices_Contains_int_int (x : ((List Int) × (Int × Unit))) (c : Unit) : (Option (Bool × Unit)) :=
  (Option.bind ((Option.bind (slices_Index_int_int (x.1, (x.2.1, ())) ()) fun v0 => (some v0.1)) : (Option Int)) fun v1 => (some ((leZ 0 v1), ())))
def H_slices_Contains_int_int : Hd := ⟨[.sl 3 (.int .i64), .int .i64], [], none, .p, .bool, .p, []⟩
def T_slices_Contains_int_int : FSig := ⟨H_slices_Contains_int_int.ps, H_slices_Contains_int_int.cs, H_slices_Contains_int_int.io, H_slices_Contains_int_int.im, H_slices_Contains_int_int.R, H_slices_Contains_int_int.m, slices_Contains_int_int⟩
theorem E_slices_Contains_int_int : fnOf tys [(172, T_slices_Index_int_int)] Tryz.f150 H_slices_Contains_int_int = T_slices_Contains_int_int := by kernel_rfl
theorem K_slices_Contains_int_int : SigOk Tryz.prog 150 T_slices_Contains_int_int := (congrArg (SigOk Tryz.prog 150) E_slices_Contains_int_int).mp (fnOf_ok rfl tysOk ⟨K_slices_Index_int_int, trivial⟩ Tryz.func150 (by decide) rfl (fun _ h => by cases h) (nilEq_of (by kernel_rfl)))
def impl_SetHas (x : ((List Int) × (Int × Unit))) (c : Unit) : (Option (Bool × Unit)) :=
  (Option.bind ((Option.bind (slices_Contains_int_int (x.1, (x.2.1, ())) ()) fun v0 => (some v0.1)) : (Option Bool)) fun v1 => (some (v1, ())))
def H_impl_SetHas : Hd := ⟨[.sl 3 (.int .i64), .int .i64], [], none, .p, .bool, .p, []⟩
def T_impl_SetHas : FSig := ⟨H_impl_SetHas.ps, H_impl_SetHas.cs, H_impl_SetHas.io, H_impl_SetHas.im, H_impl_SetHas.R, H_impl_SetHas.m, impl_SetHas⟩
theorem E_impl_SetHas : fnOf tys [(150, T_slices_Contains_int_int)] Tryz.f121 H_impl_SetHas = T_impl_SetHas := by kernel_rfl
theorem K_impl_SetHas : SigOk Tryz.prog 121 T_impl_SetHas := (congrArg (SigOk Tryz.prog 121) E_impl_SetHas).mp (fnOf_ok rfl tysOk ⟨K_slices_Contains_int_int, trivial⟩ Tryz.func121 (by decide) rfl (fun _ h => by cases h) (nilEq_of (by kernel_rfl)))
def impl_SetSubset_L0 : (Int × D_Mode) → Option (Out (Int × D_Mode) ((Bool × (Int × D_Mode)) ⊕ Empty) (Bool × Unit)) :=
  (fun v0 => (if (ltZ v0.1 v0.2.1) = true then (Option.bind (getI v0.2.2.1 v0.1) fun v1 => (Option.bind ((Option.bind (impl_SetHas (v0.2.2.2.1, (v1, ())) ()) fun v2 => (some v2.1)) : (Option Bool)) fun v3 => (if (notB v3) = true then (some (Out.ret (false, ()))) else (some (Out.norm ((addZ .i64 v0.1 1), (v0.2.1, (v0.2.2.1, (v0.2.2.2.1, ()))))))))) else (some (Out.exit (Sum.inl ((ltZ v0.1 v0.2.1), (v0.1, (v0.2.1, (v0.2.2.1, (v0.2.2.2.1, ()))))))))))
def impl_SetSubset (x : ((List Int) × ((List Int) × Unit))) (c : Unit) : (Option (Bool × Unit)) :=
  (Option.bind (loopN (A := (Int × D_Mode)) big impl_SetSubset_L0 (0, ((lenI x.1), (x.1, (x.2.1, ()))))) fun v4 => (match v4 with | Out.norm v5 => none | Out.exit v6 => (match ((match v6 with | Sum.inl v9 => (Sum.inl ()) | Sum.inr v10 => (Empty.elim v10)) : (Unit ⊕ Empty)) with | Sum.inl v7 => (some (true, ())) | Sum.inr v8 => none) | Out.ret v11 => (some v11)))
def H_impl_SetSubset : Hd := ⟨[.sl 3 (.int .i64), .sl 3 (.int .i64)], [], none, .p, .bool, .p, []⟩
def T_impl_SetSubset : FSig := ⟨H_impl_SetSubset.ps, H_impl_SetSubset.cs, H_impl_SetSubset.io, H_impl_SetSubset.im, H_impl_SetSubset.R, H_impl_SetSubset.m, impl_SetSubset⟩
theorem E_impl_SetSubset : fnOf tys [(121, T_impl_SetHas)] Tryz.f116 H_impl_SetSubset = T_impl_SetSubset := by kernel_rfl
theorem K_impl_SetSubset : SigOk Tryz.prog 116 T_impl_SetSubset := (congrArg (SigOk Tryz.prog 116) E_impl_SetSubset).mp (fnOf_ok rfl tysOk ⟨K_impl_SetHas, trivial⟩ Tryz.func116 (by decide) rfl (fun _ h => by cases h) (nilEq_of (by kernel_rfl)))
def impl_IntRange_L0 : (Int × (Int × ((List Int) × Unit))) → Option (Out (Int × (Int × ((List Int) × Unit))) ((Bool × (Int × (Int × ((List Int) × Unit)))) ⊕ Empty) ((List Int) × Unit)) :=
  (fun v2 => (if (ltZ v2.1 v2.2.1) = true then (Option.bind (addI v2.2.2.1 (v2.1 :: [])) fun v3 => (some (Out.norm ((addZ .i64 v2.1 1), (v2.2.1, (v3, ())))))) else (some (Out.exit (Sum.inl ((ltZ v2.1 v2.2.1), (v2.1, (v2.2.1, (v2.2.2.1, ())))))))))
def impl_IntRange (x : (Int × Unit)) (c : Unit) : (Option ((List Int) × Unit)) :=
  (Option.bind ((Option.bind (impl_within (x.1, (0, (200, ()))) ()) fun v0 => (some v0.1)) : (Option Bool)) fun v1 => (if (notB v1) = true then (some ([], ())) else (Option.bind (loopN (A := (Int × (Int × ((List Int) × Unit)))) big impl_IntRange_L0 (0, (x.1, ([], ())))) fun v4 => (match v4 with | Out.norm v5 => none | Out.exit v6 => (match ((match v6 with | Sum.inl v9 => (Sum.inl (v9.2.2.2.1, ())) | Sum.inr v10 => (Empty.elim v10)) : (((List Int) × Unit) ⊕ Empty)) with | Sum.inl v7 => (some (v7.1, ())) | Sum.inr v8 => none) | Out.ret v11 => (some v11)))))
def H_impl_IntRange : Hd := ⟨[.int .i64], [], none, .p, .sl 3 (.int .i64), (Ty.all (.sl 3 (.int .i64))), []⟩
def T_impl_IntRange : FSig := ⟨H_impl_IntRange.ps, H_impl_IntRange.cs, H_impl_IntRange.io, H_impl_IntRange.im, H_impl_IntRange.R, H_impl_IntRange.m, impl_IntRange⟩
theorem E_impl_IntRange : fnOf tys [(84, T_impl_within)] Tryz.f148 H_impl_IntRange = T_impl_IntRange := by kernel_rfl
theorem K_impl_IntRange : SigOk Tryz.prog 148 T_impl_IntRange := (congrArg (SigOk Tryz.prog 148) E_impl_IntRange).mp (fnOf_ok rfl tysOk ⟨K_impl_within, trivial⟩ Tryz.func148 (by decide) rfl (fun _ h => by cases h) (nilEq_of (by kernel_rfl)))
def impl_ModeIndexes (x : (D_Activity × Unit)) (c : Unit) : (Option ((List Int) × Unit)) :=
  (Option.bind ((Option.bind (impl_IntRange ((lenI x.1.2.2.1), ()) ()) fun v0 => (some v0.1)) : (Option (List Int))) fun v1 => (some (v1, ())))
def H_impl_ModeIndexes : Hd := ⟨[.st [.str, .int .i64, .sl 105 (.st [.int .i64, .sl 3 (.int .i64), .sl 3 (.int .i64)])]], [], none, .p, .sl 3 (.int .i64), (Ty.all (.sl 3 (.int .i64))), []⟩
def T_impl_ModeIndexes : FSig := ⟨H_impl_ModeIndexes.ps, H_impl_ModeIndexes.cs, H_impl_ModeIndexes.io, H_impl_ModeIndexes.im, H_impl_ModeIndexes.R, H_impl_ModeIndexes.m, impl_ModeIndexes⟩
theorem E_impl_ModeIndexes : fnOf tys [(148, T_impl_IntRange)] Tryz.f117 H_impl_ModeIndexes = T_impl_ModeIndexes := by kernel_rfl
theorem K_impl_ModeIndexes : SigOk Tryz.prog 117 T_impl_ModeIndexes := (congrArg (SigOk Tryz.prog 117) E_impl_ModeIndexes).mp (fnOf_ok rfl tysOk ⟨K_impl_IntRange, trivial⟩ Tryz.func117 (by decide) rfl (fun _ h => by cases h) (nilEq_of (by kernel_rfl)))
def impl_DomainForm_L0 : (Int × (Int × ((List (List Int)) × (D_Domain × (D_Project × Unit))))) → Option (Out (Int × (Int × ((List (List Int)) × (D_Domain × (D_Project × Unit))))) ((Bool × (Int × (Int × ((List (List Int)) × (D_Domain × (D_Project × Unit)))))) ⊕ Empty) (Bool × Unit)) :=
  (fun v5 => (if (ltZ v5.1 v5.2.1) = true then (Option.bind (getI v5.2.2.1 v5.1) fun v6 => (Option.bind (getI v5.2.2.2.1.1 v5.1) fun v7 => (Option.bind ((Option.bind (impl_isStart (v7, ()) ()) fun v8 => (some v8.1)) : (Option Bool)) fun v9 => (Option.bind ((if (notB v9) = true then (some (true, (v5.1, (v5.2.1, (v5.2.2.1, (v5.2.2.2.1, (v5.2.2.2.2.1, ()))))))) else (Option.bind (getI v5.2.2.2.1.2.1 v5.1) fun v10 => (Option.bind ((Option.bind (impl_isStart (v10, ()) ()) fun v11 => (some v11.1)) : (Option Bool)) fun v12 => (Option.bind ((if (notB v12) = true then (some (true, (v5.1, (v5.2.1, (v5.2.2.1, (v5.2.2.2.1, (v5.2.2.2.2.1, ()))))))) else (Option.bind ((Option.bind (impl_SetOk (v6, ()) ()) fun v13 => (some v13.1)) : (Option Bool)) fun v14 => (Option.bind ((if (notB v14) = true then (some (true, (v5.1, (v5.2.1, (v5.2.2.1, (v5.2.2.2.1, (v5.2.2.2.2.1, ()))))))) else (Option.bind (getI v5.2.2.2.2.1.2.1 v5.1) fun v15 => (Option.bind ((Option.bind (impl_ModeIndexes (v15, ()) ()) fun v16 => (some v16.1)) : (Option (List Int))) fun v17 => (Option.bind ((Option.bind (impl_SetSubset (v6, (v17, ())) ()) fun v18 => (some v18.1)) : (Option Bool)) fun v19 => (some ((notB v19), (v5.1, (v5.2.1, (v5.2.2.1, (v5.2.2.2.1, (v5.2.2.2.2.1, ()))))))))))) : (Option (Bool × (Int × (Int × ((List (List Int)) × (D_Domain × (D_Project × Unit)))))))) fun v20 => (some (v20.1, (v20.2.1, (v20.2.2.1, (v20.2.2.2.1, (v20.2.2.2.2.1, (v20.2.2.2.2.2.1, ())))))))))) : (Option (Bool × (Int × (Int × ((List (List Int)) × (D_Domain × (D_Project × Unit)))))))) fun v21 => (some (v21.1, (v21.2.1, (v21.2.2.1, (v21.2.2.2.1, (v21.2.2.2.2.1, (v21.2.2.2.2.2.1, ()))))))))))) : (Option (Bool × (Int × (Int × ((List (List Int)) × (D_Domain × (D_Project × Unit)))))))) fun v22 => (if v22.1 = true then (some (Out.ret (false, ()))) else (some (Out.norm ((addZ .i64 v22.2.1 1), (v22.2.2.1, (v22.2.2.2.1, (v22.2.2.2.2.1, (v22.2.2.2.2.2.1, ())))))))))))) else (some (Out.exit (Sum.inl ((ltZ v5.1 v5.2.1), (v5.1, (v5.2.1, (v5.2.2.1, (v5.2.2.2.1, (v5.2.2.2.2.1, ())))))))))))
def impl_DomainForm (x : (D_Project × (D_Domain × Unit))) (c : Unit) : (Option (Bool × Unit)) :=
  (Option.bind ((Option.bind (impl_ProjectOk (x.1, ()) ()) fun v0 => (some v0.1)) : (Option Bool)) fun v1 => (Option.bind ((if (notB v1) = true then (some (true, (x.2.1, (x.1, ())))) else (Option.bind ((if (notB (eqZ (lenI x.2.1.1) (lenI x.1.2.1))) = true then (some (true, (x.2.1, (x.1, ())))) else (Option.bind ((if (notB (eqZ (lenI x.2.1.2.1) (lenI x.1.2.1))) = true then (some (true, (x.2.1, (x.1, ())))) else (some ((notB (eqZ (lenI x.2.1.2.2.1) (lenI x.1.2.1))), (x.2.1, (x.1, ()))))) : (Option (Bool × (D_Domain × (D_Project × Unit))))) fun v2 => (some (v2.1, (v2.2.1, (v2.2.2.1, ())))))) : (Option (Bool × (D_Domain × (D_Project × Unit))))) fun v3 => (some (v3.1, (v3.2.1, (v3.2.2.1, ())))))) : (Option (Bool × (D_Domain × (D_Project × Unit))))) fun v4 => (if v4.1 = true then (some (false, ())) else (Option.bind (loopN (A := (Int × (Int × ((List (List Int)) × (D_Domain × (D_Project × Unit)))))) big impl_DomainForm_L0 (0, ((lenI v4.2.1.2.2.1), (v4.2.1.2.2.1, (v4.2.1, (v4.2.2.1, ())))))) fun v23 => (match v23 with | Out.norm v24 => none | Out.exit v25 => (match ((match v25 with | Sum.inl v28 => (Sum.inl ()) | Sum.inr v29 => (Empty.elim v29)) : (Unit ⊕ Empty)) with | Sum.inl v26 => (some (true, ())) | Sum.inr v27 => none) | Out.ret v30 => (some v30))))))
def H_impl_DomainForm : Hd := ⟨[.st [.int .i64, .sl 74 (.st [.str, .int .i64, .sl 105 (.st [.int .i64, .sl 3 (.int .i64), .sl 3 (.int .i64)])]), .sl 109 (.st [.int .i64, .int .i64, .bool, .int .i64]), .sl 114 (.st [.sl 149 (.st [.int .i64, .int .i64]), .sl 25 (.sl 3 (.int .i64))]), .sl 3 (.int .i64)], .st [.sl 3 (.int .i64), .sl 3 (.int .i64), .sl 25 (.sl 3 (.int .i64))]], [], none, .p, .bool, .p, []⟩
def T_impl_DomainForm : FSig := ⟨H_impl_DomainForm.ps, H_impl_DomainForm.cs, H_impl_DomainForm.io, H_impl_DomainForm.im, H_impl_DomainForm.R, H_impl_DomainForm.m, impl_DomainForm⟩
theorem E_impl_DomainForm : fnOf tys [(113, T_impl_ProjectOk), (114, T_impl_isStart), (115, T_impl_SetOk), (116, T_impl_SetSubset), (117, T_impl_ModeIndexes)] Tryz.f82 H_impl_DomainForm = T_impl_DomainForm := by kernel_rfl
theorem K_impl_DomainForm : SigOk Tryz.prog 82 T_impl_DomainForm := (congrArg (SigOk Tryz.prog 82) E_impl_DomainForm).mp (fnOf_ok rfl tysOk ⟨K_impl_ProjectOk, K_impl_isStart, K_impl_SetOk, K_impl_SetSubset, K_impl_ModeIndexes, trivial⟩ Tryz.func82 (by decide) rfl (fun _ h => by cases h) (nilEq_of (by kernel_rfl)))
def slices_IndexFunc_int_int_L0 : (Int × (Int × ((((List Int) × Unit) → (Option Bool)) × ((List (List Int)) × Unit)))) → Option (Out (Int × (Int × ((((List Int) × Unit) → (Option Bool)) × ((List (List Int)) × Unit)))) ((Bool × (Int × (Int × ((((List Int) × Unit) → (Option Bool)) × ((List (List Int)) × Unit))))) ⊕ Empty) (Int × Unit)) :=
  (fun v0 => (if (ltZ v0.1 v0.2.1) = true then (Option.bind (getI v0.2.2.2.1 v0.1) fun v1 => (Option.bind (v0.2.2.1 (v1, ())) fun v2 => (if v2 = true then (some (Out.ret (v0.1, ()))) else (some (Out.norm ((addZ .i64 v0.1 1), (v0.2.1, (v0.2.2.1, (v0.2.2.2.1, ()))))))))) else (some (Out.exit (Sum.inl ((ltZ v0.1 v0.2.1), (v0.1, (v0.2.1, (v0.2.2.1, (v0.2.2.2.1, ()))))))))))
def slices_IndexFunc_int_int (x : ((List (List Int)) × ((((List Int) × Unit) → (Option Bool)) × Unit))) (c : Unit) : (Option (Int × Unit)) :=
  (Option.bind (loopN (A := (Int × (Int × ((((List Int) × Unit) → (Option Bool)) × ((List (List Int)) × Unit))))) big slices_IndexFunc_int_int_L0 (0, ((lenI x.1), (x.2.1, (x.1, ()))))) fun v3 => (match v3 with | Out.norm v4 => none | Out.exit v5 => (match ((match v5 with | Sum.inl v8 => (Sum.inl ()) | Sum.inr v9 => (Empty.elim v9)) : (Unit ⊕ Empty)) with | Sum.inl v6 => (some ((-1), ())) | Sum.inr v7 => none) | Out.ret v10 => (some v10)))
def H_slices_IndexFunc_int_int : Hd := ⟨[.sl 25 (.sl 3 (.int .i64)), .fn [.sl 3 (.int .i64)] (.bool)], [], none, .p, .int .i64, .p, []⟩
def T_slices_IndexFunc_int_int : FSig := ⟨H_slices_IndexFunc_int_int.ps, H_slices_IndexFunc_int_int.cs, H_slices_IndexFunc_int_int.io, H_slices_IndexFunc_int_int.im, H_slices_IndexFunc_int_int.R, H_slices_IndexFunc_int_int.m, slices_IndexFunc_int_int⟩
theorem E_slices_IndexFunc_int_int : fnOf tys [] Tryz.f149 H_slices_IndexFunc_int_int = T_slices_IndexFunc_int_int := by kernel_rfl
theorem K_slices_IndexFunc_int_int : SigOk Tryz.prog 149 T_slices_IndexFunc_int_int := (congrArg (SigOk Tryz.prog 149) E_slices_IndexFunc_int_int).mp (fnOf_ok rfl tysOk trivial Tryz.func149 (by decide) rfl (fun _ h => by cases h) (nilEq_of (by kernel_rfl)))
def slices_ContainsFunc_int_int (x : ((List (List Int)) × ((((List Int) × Unit) → (Option Bool)) × Unit))) (c : Unit) : (Option (Bool × Unit)) :=
  (Option.bind ((Option.bind (slices_IndexFunc_int_int (x.1, (x.2.1, ())) ()) fun v0 => (some v0.1)) : (Option Int)) fun v1 => (some ((leZ 0 v1), ())))
def H_slices_ContainsFunc_int_int : Hd := ⟨[.sl 25 (.sl 3 (.int .i64)), .fn [.sl 3 (.int .i64)] (.bool)], [], none, .p, .bool, .p, []⟩
def T_slices_ContainsFunc_int_int : FSig := ⟨H_slices_ContainsFunc_int_int.ps, H_slices_ContainsFunc_int_int.cs, H_slices_ContainsFunc_int_int.io, H_slices_ContainsFunc_int_int.im, H_slices_ContainsFunc_int_int.R, H_slices_ContainsFunc_int_int.m, slices_ContainsFunc_int_int⟩
theorem E_slices_ContainsFunc_int_int : fnOf tys [(149, T_slices_IndexFunc_int_int)] Tryz.f118 H_slices_ContainsFunc_int_int = T_slices_ContainsFunc_int_int := by kernel_rfl
theorem K_slices_ContainsFunc_int_int : SigOk Tryz.prog 118 T_slices_ContainsFunc_int_int := (congrArg (SigOk Tryz.prog 118) E_slices_ContainsFunc_int_int).mp (fnOf_ok rfl tysOk ⟨K_slices_IndexFunc_int_int, trivial⟩ Tryz.func118 (by decide) rfl (fun _ h => by cases h) (nilEq_of (by kernel_rfl)))
def impl_DomainEmpty_1 (x : ((List Int) × Unit)) (c : Unit) : (Option (Bool × Unit)) :=
  (some ((eqZ (lenI x.1) 0), ()))
def H_impl_DomainEmpty_1 : Hd := ⟨[.sl 3 (.int .i64)], [], none, .p, .bool, .p, []⟩
def T_impl_DomainEmpty_1 : FSig := ⟨H_impl_DomainEmpty_1.ps, H_impl_DomainEmpty_1.cs, H_impl_DomainEmpty_1.io, H_impl_DomainEmpty_1.im, H_impl_DomainEmpty_1.R, H_impl_DomainEmpty_1.m, impl_DomainEmpty_1⟩
theorem E_impl_DomainEmpty_1 : fnOf tys [] Tryz.f119 H_impl_DomainEmpty_1 = T_impl_DomainEmpty_1 := by kernel_rfl
theorem K_impl_DomainEmpty_1 : SigOk Tryz.prog 119 T_impl_DomainEmpty_1 := (congrArg (SigOk Tryz.prog 119) E_impl_DomainEmpty_1).mp (fnOf_ok rfl tysOk trivial Tryz.func119 (by decide) rfl (fun _ h => by cases h) (nilEq_of (by kernel_rfl)))
def impl_DomainEmpty_L0 : (Int × (Int × ((List Int) × (D_Domain × Unit)))) → Option (Out (Int × (Int × ((List Int) × (D_Domain × Unit)))) ((Bool × (Int × (Int × ((List Int) × (D_Domain × Unit))))) ⊕ Empty) (Bool × Unit)) :=
  (fun v0 => (if (ltZ v0.1 v0.2.1) = true then (Option.bind (getI v0.2.2.1 v0.1) fun v1 => (Option.bind ((if (ltZ v0.1 (lenI v0.2.2.2.1.2.1)) = true then (Option.bind (getI v0.2.2.2.1.2.1 v0.1) fun v2 => (some ((ltZ v2 v1), (v0.1, (v0.2.1, (v0.2.2.1, (v0.2.2.2.1, ()))))))) else (some (false, (v0.1, (v0.2.1, (v0.2.2.1, (v0.2.2.2.1, ()))))))) : (Option (Bool × (Int × (Int × ((List Int) × (D_Domain × Unit))))))) fun v3 => (if v3.1 = true then (some (Out.ret (true, ()))) else (some (Out.norm ((addZ .i64 v3.2.1 1), (v3.2.2.1, (v3.2.2.2.1, (v3.2.2.2.2.1, ()))))))))) else (some (Out.exit (Sum.inl ((ltZ v0.1 v0.2.1), (v0.1, (v0.2.1, (v0.2.2.1, (v0.2.2.2.1, ()))))))))))
def impl_DomainEmpty (x : (D_Domain × Unit)) (c : Unit) : (Option (Bool × Unit)) :=
  (Option.bind (loopN (A := (Int × (Int × ((List Int) × (D_Domain × Unit))))) big impl_DomainEmpty_L0 (0, ((lenI x.1.1), (x.1.1, (x.1, ()))))) fun v4 => (match v4 with | Out.norm v5 => none | Out.exit v6 => (match ((match v6 with | Sum.inl v13 => (Sum.inl (v13.2.2.2.2.1, ())) | Sum.inr v14 => (Empty.elim v14)) : ((D_Domain × Unit) ⊕ Empty)) with | Sum.inl v7 => (Option.bind ((Option.bind (slices_ContainsFunc_int_int (v7.1.2.2.1, ((fun v8 => (Option.bind (impl_DomainEmpty_1 v8 ()) fun v9 => (some v9.1))), ())) ()) fun v10 => (some v10.1)) : (Option Bool)) fun v11 => (some (v11, ()))) | Sum.inr v12 => none) | Out.ret v15 => (some v15)))
def H_impl_DomainEmpty : Hd := ⟨[.st [.sl 3 (.int .i64), .sl 3 (.int .i64), .sl 25 (.sl 3 (.int .i64))]], [], none, .p, .bool, .p, []⟩
def T_impl_DomainEmpty : FSig := ⟨H_impl_DomainEmpty.ps, H_impl_DomainEmpty.cs, H_impl_DomainEmpty.io, H_impl_DomainEmpty.im, H_impl_DomainEmpty.R, H_impl_DomainEmpty.m, impl_DomainEmpty⟩
theorem E_impl_DomainEmpty : fnOf tys [(118, T_slices_ContainsFunc_int_int), (119, T_impl_DomainEmpty_1)] Tryz.f83 H_impl_DomainEmpty = T_impl_DomainEmpty := by kernel_rfl
theorem K_impl_DomainEmpty : SigOk Tryz.prog 83 T_impl_DomainEmpty := (congrArg (SigOk Tryz.prog 83) E_impl_DomainEmpty).mp (fnOf_ok rfl tysOk ⟨K_slices_ContainsFunc_int_int, K_impl_DomainEmpty_1, trivial⟩ Tryz.func83 (by decide) rfl (fun _ h => by cases h) (nilEq_of (by kernel_rfl)))
def impl_isUsable (x : (D_Project × (D_Domain × Unit))) (c : Unit) : (Option (Bool × Unit)) :=
  (Option.bind ((Option.bind (impl_DomainForm (x.1, (x.2.1, ())) ()) fun v0 => (some v0.1)) : (Option Bool)) fun v1 => (Option.bind ((if v1 = true then (Option.bind ((Option.bind (impl_DomainEmpty (x.2.1, ()) ()) fun v2 => (some v2.1)) : (Option Bool)) fun v3 => (some ((notB v3), ()))) else (some (false, ()))) : (Option (Bool × Unit))) fun v4 => (some (v4.1, ()))))
def H_impl_isUsable : Hd := ⟨[.st [.int .i64, .sl 74 (.st [.str, .int .i64, .sl 105 (.st [.int .i64, .sl 3 (.int .i64), .sl 3 (.int .i64)])]), .sl 109 (.st [.int .i64, .int .i64, .bool, .int .i64]), .sl 114 (.st [.sl 149 (.st [.int .i64, .int .i64]), .sl 25 (.sl 3 (.int .i64))]), .sl 3 (.int .i64)], .st [.sl 3 (.int .i64), .sl 3 (.int .i64), .sl 25 (.sl 3 (.int .i64))]], [], none, .p, .bool, .p, []⟩
def T_impl_isUsable : FSig := ⟨H_impl_isUsable.ps, H_impl_isUsable.cs, H_impl_isUsable.io, H_impl_isUsable.im, H_impl_isUsable.R, H_impl_isUsable.m, impl_isUsable⟩
theorem E_impl_isUsable : fnOf tys [(82, T_impl_DomainForm), (83, T_impl_DomainEmpty)] Tryz.f53 H_impl_isUsable = T_impl_isUsable := by kernel_rfl
theorem K_impl_isUsable : SigOk Tryz.prog 53 T_impl_isUsable := (congrArg (SigOk Tryz.prog 53) E_impl_isUsable).mp (fnOf_ok rfl tysOk ⟨K_impl_DomainForm, K_impl_DomainEmpty, trivial⟩ Tryz.func53 (by decide) rfl (fun _ h => by cases h) (nilEq_of (by kernel_rfl)))
def impl_chosen_L0 : (Int × (Int × ((List D_Mode) × ((List Int) × ((List D_Mode) × Unit))))) → Option (Out (Int × (Int × ((List D_Mode) × ((List Int) × ((List D_Mode) × Unit))))) ((Bool × (Int × (Int × ((List D_Mode) × ((List Int) × ((List D_Mode) × Unit)))))) ⊕ Empty) ((List D_Mode) × Unit)) :=
  (fun v0 => (if (ltZ v0.1 v0.2.1) = true then (Option.bind (getI v0.2.2.1 v0.1) fun v1 => (Option.bind ((Option.bind (impl_SetHas (v0.2.2.2.1, (v0.1, ())) ()) fun v2 => (some v2.1)) : (Option Bool)) fun v3 => (Option.bind ((if v3 = true then (Option.bind (addI v0.2.2.2.2.1 (v1 :: [])) fun v4 => (some (Out.norm (v0.1, (v0.2.1, (v0.2.2.1, (v0.2.2.2.1, (v4, ())))))))) else (some (Out.norm (v0.1, (v0.2.1, (v0.2.2.1, (v0.2.2.2.1, (v0.2.2.2.2.1, ())))))))) : (Option (Out (Int × (Int × ((List D_Mode) × ((List Int) × ((List D_Mode) × Unit))))) Empty ((List D_Mode) × Unit)))) fun v5 => (match ((match ((match v5 with | Out.norm v14 => (Out.norm v14) | Out.exit v15 => (Out.exit v15) | Out.ret v16 => (Out.ret v16)) : (Out (Int × (Int × ((List D_Mode) × ((List Int) × ((List D_Mode) × Unit))))) Empty ((List D_Mode) × Unit))) with | Out.norm v11 => (Out.norm v11) | Out.exit v12 => (Out.exit v12) | Out.ret v13 => (Out.ret v13)) : (Out (Int × (Int × ((List D_Mode) × ((List Int) × ((List D_Mode) × Unit))))) Empty ((List D_Mode) × Unit))) with | Out.norm v6 => (some (Out.norm ((addZ .i64 v6.1 1), (v6.2.1, (v6.2.2.1, (v6.2.2.2.1, (v6.2.2.2.2.1, ()))))))) | Out.exit v7 => (match ((Empty.elim v7) : ((Int × (Int × ((List D_Mode) × ((List Int) × ((List D_Mode) × Unit))))) ⊕ Empty)) with | Sum.inl v8 => (some (Out.norm ((addZ .i64 v8.1 1), (v8.2.1, (v8.2.2.1, (v8.2.2.2.1, (v8.2.2.2.2.1, ()))))))) | Sum.inr v9 => (some (Out.exit (Sum.inr (Empty.elim v9))))) | Out.ret v10 => (some (Out.ret v10)))))) else (some (Out.exit (Sum.inl ((ltZ v0.1 v0.2.1), (v0.1, (v0.2.1, (v0.2.2.1, (v0.2.2.2.1, (v0.2.2.2.2.1, ())))))))))))
def impl_chosen (x : (D_Activity × ((List Int) × Unit))) (c : Unit) : (Option ((List D_Mode) × Unit)) :=
  (Option.bind (loopN (A := (Int × (Int × ((List D_Mode) × ((List Int) × ((List D_Mode) × Unit)))))) big impl_chosen_L0 (0, ((lenI x.1.2.2.1), (x.1.2.2.1, (x.2.1, ([], ())))))) fun v17 => (match v17 with | Out.norm v18 => none | Out.exit v19 => (match ((match v19 with | Sum.inl v22 => (Sum.inl (v22.2.2.2.2.2.1, ())) | Sum.inr v23 => (Empty.elim v23)) : (((List D_Mode) × Unit) ⊕ Empty)) with | Sum.inl v20 => (some (v20.1, ())) | Sum.inr v21 => none) | Out.ret v24 => (some v24)))
def H_impl_chosen : Hd := ⟨[.st [.str, .int .i64, .sl 105 (.st [.int .i64, .sl 3 (.int .i64), .sl 3 (.int .i64)])], .sl 3 (.int .i64)], [], none, .p, .sl 105 (.st [.int .i64, .sl 3 (.int .i64), .sl 3 (.int .i64)]), .p, [(5, .u .p)]⟩
def T_impl_chosen : FSig := ⟨H_impl_chosen.ps, H_impl_chosen.cs, H_impl_chosen.io, H_impl_chosen.im, H_impl_chosen.R, H_impl_chosen.m, impl_chosen⟩
theorem E_impl_chosen : fnOf tys [(121, T_impl_SetHas)] Tryz.f86 H_impl_chosen = T_impl_chosen := by kernel_rfl
theorem K_impl_chosen : SigOk Tryz.prog 86 T_impl_chosen := (congrArg (SigOk Tryz.prog 86) E_impl_chosen).mp (fnOf_ok rfl tysOk ⟨K_impl_SetHas, trivial⟩ Tryz.func86 (by decide) rfl (fun _ h => by cases h) (nilEq_of (by kernel_rfl)))
def impl_MinDuration_L0 : (Int × (Int × ((List D_Mode) × (Int × Unit)))) → Option (Out (Int × (Int × ((List D_Mode) × (Int × Unit)))) ((Bool × (Int × (Int × ((List D_Mode) × (Int × Unit))))) ⊕ Empty) (Int × Unit)) :=
  (fun v2 => (if (ltZ v2.1 v2.2.1) = true then (Option.bind (getI v2.2.2.1 v2.1) fun v3 => (Option.bind ((if (eqZ v2.1 0) = true then (some (true, (v3, (v2.1, (v2.2.1, (v2.2.2.1, (v2.2.2.2.1, ()))))))) else (some ((ltZ v3.1 v2.2.2.2.1), (v3, (v2.1, (v2.2.1, (v2.2.2.1, (v2.2.2.2.1, ())))))))) : (Option (Bool × (D_Mode × (Int × (Int × ((List D_Mode) × (Int × Unit)))))))) fun v4 => (Option.bind ((if v4.1 = true then (some (Out.norm (v4.2.2.1, (v4.2.2.2.1, (v4.2.2.2.2.1, (v4.2.1.1, ())))))) else (some (Out.norm (v4.2.2.1, (v4.2.2.2.1, (v4.2.2.2.2.1, (v4.2.2.2.2.2.1, ()))))))) : (Option (Out (Int × (Int × ((List D_Mode) × (Int × Unit)))) Empty (Int × Unit)))) fun v5 => (match ((match ((match v5 with | Out.norm v14 => (Out.norm v14) | Out.exit v15 => (Out.exit v15) | Out.ret v16 => (Out.ret v16)) : (Out (Int × (Int × ((List D_Mode) × (Int × Unit)))) Empty (Int × Unit))) with | Out.norm v11 => (Out.norm v11) | Out.exit v12 => (Out.exit v12) | Out.ret v13 => (Out.ret v13)) : (Out (Int × (Int × ((List D_Mode) × (Int × Unit)))) Empty (Int × Unit))) with | Out.norm v6 => (some (Out.norm ((addZ .i64 v6.1 1), (v6.2.1, (v6.2.2.1, (v6.2.2.2.1, ())))))) | Out.exit v7 => (match ((Empty.elim v7) : ((Int × (Int × ((List D_Mode) × (Int × Unit)))) ⊕ Empty)) with | Sum.inl v8 => (some (Out.norm ((addZ .i64 v8.1 1), (v8.2.1, (v8.2.2.1, (v8.2.2.2.1, ())))))) | Sum.inr v9 => (some (Out.exit (Sum.inr (Empty.elim v9))))) | Out.ret v10 => (some (Out.ret v10)))))) else (some (Out.exit (Sum.inl ((ltZ v2.1 v2.2.1), (v2.1, (v2.2.1, (v2.2.2.1, (v2.2.2.2.1, ()))))))))))
def impl_MinDuration (x : (D_Activity × ((List Int) × Unit))) (c : Unit) : (Option (Int × Unit)) :=
  (Option.bind ((Option.bind (impl_chosen (x.1, (x.2.1, ())) ()) fun v0 => (some v0.1)) : (Option (List D_Mode))) fun v1 => (Option.bind (loopN (A := (Int × (Int × ((List D_Mode) × (Int × Unit))))) big impl_MinDuration_L0 (0, ((lenI v1), (v1, (0, ()))))) fun v17 => (match v17 with | Out.norm v18 => none | Out.exit v19 => (match ((match v19 with | Sum.inl v22 => (Sum.inl (v22.2.2.2.2.1, ())) | Sum.inr v23 => (Empty.elim v23)) : ((Int × Unit) ⊕ Empty)) with | Sum.inl v20 => (some (v20.1, ())) | Sum.inr v21 => none) | Out.ret v24 => (some v24))))
def H_impl_MinDuration : Hd := ⟨[.st [.str, .int .i64, .sl 105 (.st [.int .i64, .sl 3 (.int .i64), .sl 3 (.int .i64)])], .sl 3 (.int .i64)], [], none, .p, .int .i64, .p, []⟩
def T_impl_MinDuration : FSig := ⟨H_impl_MinDuration.ps, H_impl_MinDuration.cs, H_impl_MinDuration.io, H_impl_MinDuration.im, H_impl_MinDuration.R, H_impl_MinDuration.m, impl_MinDuration⟩
theorem E_impl_MinDuration : fnOf tys [(86, T_impl_chosen)] Tryz.f120 H_impl_MinDuration = T_impl_MinDuration := by kernel_rfl
theorem K_impl_MinDuration : SigOk Tryz.prog 120 T_impl_MinDuration := (congrArg (SigOk Tryz.prog 120) E_impl_MinDuration).mp (fnOf_ok rfl tysOk ⟨K_impl_chosen, trivial⟩ Tryz.func120 (by decide) rfl (fun _ h => by cases h) (nilEq_of (by kernel_rfl)))
def impl_Project_duration (x : (D_Project × (D_Domain × (Int × Unit)))) (c : Unit) : (Option (Int × Unit)) :=
  (Option.bind (getI x.1.2.1 x.2.2.1) fun v0 => (Option.bind (getI x.2.1.2.2.1 x.2.2.1) fun v1 => (Option.bind ((Option.bind (impl_MinDuration (v0, (v1, ())) ()) fun v2 => (some v2.1)) : (Option Int)) fun v3 => (some (v3, ())))))
def H_impl_Project_duration : Hd := ⟨[.st [.int .i64, .sl 74 (.st [.str, .int .i64, .sl 105 (.st [.int .i64, .sl 3 (.int .i64), .sl 3 (.int .i64)])]), .sl 109 (.st [.int .i64, .int .i64, .bool, .int .i64]), .sl 114 (.st [.sl 149 (.st [.int .i64, .int .i64]), .sl 25 (.sl 3 (.int .i64))]), .sl 3 (.int .i64)], .st [.sl 3 (.int .i64), .sl 3 (.int .i64), .sl 25 (.sl 3 (.int .i64))], .int .i64], [], none, .p, .int .i64, .p, []⟩
def T_impl_Project_duration : FSig := ⟨H_impl_Project_duration.ps, H_impl_Project_duration.cs, H_impl_Project_duration.io, H_impl_Project_duration.im, H_impl_Project_duration.R, H_impl_Project_duration.m, impl_Project_duration⟩
theorem E_impl_Project_duration : fnOf tys [(120, T_impl_MinDuration)] Tryz.f85 H_impl_Project_duration = T_impl_Project_duration := by kernel_rfl
theorem K_impl_Project_duration : SigOk Tryz.prog 85 T_impl_Project_duration := (congrArg (SigOk Tryz.prog 85) E_impl_Project_duration).mp (fnOf_ok rfl tysOk ⟨K_impl_MinDuration, trivial⟩ Tryz.func85 (by decide) rfl (fun _ h => by cases h) (nilEq_of (by kernel_rfl)))
def impl_Project_compulsory (x : (D_Project × (D_Domain × (Int × Unit)))) (c : Unit) : (Option (D_Step × Unit)) :=
  (Option.bind (getI x.2.1.2.1 x.2.2.1) fun v0 => (Option.bind (getI x.2.1.1 x.2.2.1) fun v1 => (Option.bind ((Option.bind (impl_Project_duration (x.1, (x.2.1, (x.2.2.1, ()))) ()) fun v2 => (some v2.1)) : (Option Int)) fun v3 => (some ((v0, ((addZ .i64 v1 v3), ())), ())))))
def H_impl_Project_compulsory : Hd := ⟨[.st [.int .i64, .sl 74 (.st [.str, .int .i64, .sl 105 (.st [.int .i64, .sl 3 (.int .i64), .sl 3 (.int .i64)])]), .sl 109 (.st [.int .i64, .int .i64, .bool, .int .i64]), .sl 114 (.st [.sl 149 (.st [.int .i64, .int .i64]), .sl 25 (.sl 3 (.int .i64))]), .sl 3 (.int .i64)], .st [.sl 3 (.int .i64), .sl 3 (.int .i64), .sl 25 (.sl 3 (.int .i64))], .int .i64], [], none, .p, .tup [.int .i64, .int .i64], .p, []⟩
def T_impl_Project_compulsory : FSig := ⟨H_impl_Project_compulsory.ps, H_impl_Project_compulsory.cs, H_impl_Project_compulsory.io, H_impl_Project_compulsory.im, H_impl_Project_compulsory.R, H_impl_Project_compulsory.m, impl_Project_compulsory⟩
theorem E_impl_Project_compulsory : fnOf tys [(85, T_impl_Project_duration)] Tryz.f55 H_impl_Project_compulsory = T_impl_Project_compulsory := by kernel_rfl
theorem K_impl_Project_compulsory : SigOk Tryz.prog 55 T_impl_Project_compulsory := (congrArg (SigOk Tryz.prog 55) E_impl_Project_compulsory).mp (fnOf_ok rfl tysOk ⟨K_impl_Project_duration, trivial⟩ Tryz.func55 (by decide) rfl (fun _ h => by cases h) (nilEq_of (by kernel_rfl)))
def impl_MaxDuration_L0 : (Int × (Int × ((List D_Mode) × (Int × Unit)))) → Option (Out (Int × (Int × ((List D_Mode) × (Int × Unit)))) ((Bool × (Int × (Int × ((List D_Mode) × (Int × Unit))))) ⊕ Empty) (Int × Unit)) :=
  (fun v2 => (if (ltZ v2.1 v2.2.1) = true then (Option.bind (getI v2.2.2.1 v2.1) fun v3 => (Option.bind ((if (eqZ v2.1 0) = true then (some (true, (v3, (v2.1, (v2.2.1, (v2.2.2.1, (v2.2.2.2.1, ()))))))) else (some ((ltZ v2.2.2.2.1 v3.1), (v3, (v2.1, (v2.2.1, (v2.2.2.1, (v2.2.2.2.1, ())))))))) : (Option (Bool × (D_Mode × (Int × (Int × ((List D_Mode) × (Int × Unit)))))))) fun v4 => (Option.bind ((if v4.1 = true then (some (Out.norm (v4.2.2.1, (v4.2.2.2.1, (v4.2.2.2.2.1, (v4.2.1.1, ())))))) else (some (Out.norm (v4.2.2.1, (v4.2.2.2.1, (v4.2.2.2.2.1, (v4.2.2.2.2.2.1, ()))))))) : (Option (Out (Int × (Int × ((List D_Mode) × (Int × Unit)))) Empty (Int × Unit)))) fun v5 => (match ((match ((match v5 with | Out.norm v14 => (Out.norm v14) | Out.exit v15 => (Out.exit v15) | Out.ret v16 => (Out.ret v16)) : (Out (Int × (Int × ((List D_Mode) × (Int × Unit)))) Empty (Int × Unit))) with | Out.norm v11 => (Out.norm v11) | Out.exit v12 => (Out.exit v12) | Out.ret v13 => (Out.ret v13)) : (Out (Int × (Int × ((List D_Mode) × (Int × Unit)))) Empty (Int × Unit))) with | Out.norm v6 => (some (Out.norm ((addZ .i64 v6.1 1), (v6.2.1, (v6.2.2.1, (v6.2.2.2.1, ())))))) | Out.exit v7 => (match ((Empty.elim v7) : ((Int × (Int × ((List D_Mode) × (Int × Unit)))) ⊕ Empty)) with | Sum.inl v8 => (some (Out.norm ((addZ .i64 v8.1 1), (v8.2.1, (v8.2.2.1, (v8.2.2.2.1, ())))))) | Sum.inr v9 => (some (Out.exit (Sum.inr (Empty.elim v9))))) | Out.ret v10 => (some (Out.ret v10)))))) else (some (Out.exit (Sum.inl ((ltZ v2.1 v2.2.1), (v2.1, (v2.2.1, (v2.2.2.1, (v2.2.2.2.1, ()))))))))))
def impl_MaxDuration (x : (D_Activity × ((List Int) × Unit))) (c : Unit) : (Option (Int × Unit)) :=
  (Option.bind ((Option.bind (impl_chosen (x.1, (x.2.1, ())) ()) fun v0 => (some v0.1)) : (Option (List D_Mode))) fun v1 => (Option.bind (loopN (A := (Int × (Int × ((List D_Mode) × (Int × Unit))))) big impl_MaxDuration_L0 (0, ((lenI v1), (v1, (0, ()))))) fun v17 => (match v17 with | Out.norm v18 => none | Out.exit v19 => (match ((match v19 with | Sum.inl v22 => (Sum.inl (v22.2.2.2.2.1, ())) | Sum.inr v23 => (Empty.elim v23)) : ((Int × Unit) ⊕ Empty)) with | Sum.inl v20 => (some (v20.1, ())) | Sum.inr v21 => none) | Out.ret v24 => (some v24))))
def H_impl_MaxDuration : Hd := ⟨[.st [.str, .int .i64, .sl 105 (.st [.int .i64, .sl 3 (.int .i64), .sl 3 (.int .i64)])], .sl 3 (.int .i64)], [], none, .p, .int .i64, .p, []⟩
def T_impl_MaxDuration : FSig := ⟨H_impl_MaxDuration.ps, H_impl_MaxDuration.cs, H_impl_MaxDuration.io, H_impl_MaxDuration.im, H_impl_MaxDuration.R, H_impl_MaxDuration.m, impl_MaxDuration⟩
theorem E_impl_MaxDuration : fnOf tys [(86, T_impl_chosen)] Tryz.f56 H_impl_MaxDuration = T_impl_MaxDuration := by kernel_rfl
theorem K_impl_MaxDuration : SigOk Tryz.prog 56 T_impl_MaxDuration := (congrArg (SigOk Tryz.prog 56) E_impl_MaxDuration).mp (fnOf_ok rfl tysOk ⟨K_impl_chosen, trivial⟩ Tryz.func56 (by decide) rfl (fun _ h => by cases h) (nilEq_of (by kernel_rfl)))
def impl_DomainRow_L0 : (Int × (Int × (Int × (Int × (D_Domain × (Int × (Int × ((List UInt8) × Unit)))))))) → Option (Out (Int × (Int × (Int × (Int × (D_Domain × (Int × (Int × ((List UInt8) × Unit)))))))) ((Bool × (Int × (Int × (Int × (Int × (D_Domain × (Int × (Int × ((List UInt8) × Unit))))))))) ⊕ Empty) ((List UInt8) × Unit)) :=
  (fun v12 => (if (ltZ v12.1 v12.2.1) = true then (Option.bind ((if (leZ v12.2.2.1 v12.1) = true then (some ((ltZ v12.1 v12.2.2.2.1), (v12.1, (v12.2.2.2.2.2.2.2.1, (v12.1, (v12.2.1, (v12.2.2.1, (v12.2.2.2.1, (v12.2.2.2.2.1, (v12.2.2.2.2.2.1, (v12.2.2.2.2.2.2.1, ()))))))))))) else (some (false, (v12.1, (v12.2.2.2.2.2.2.2.1, (v12.1, (v12.2.1, (v12.2.2.1, (v12.2.2.2.1, (v12.2.2.2.2.1, (v12.2.2.2.2.2.1, (v12.2.2.2.2.2.2.1, ())))))))))))) : (Option (Bool × (Int × ((List UInt8) × (Int × (Int × (Int × (Int × (D_Domain × D_Step)))))))))) fun v13 => (Option.bind ((if v13.1 = true then (Option.bind (addI v13.2.2.1 [35]) fun v14 => (some (Out.norm (v13.2.2.2.1, (v13.2.2.2.2.1, (v13.2.2.2.2.2.1, (v13.2.2.2.2.2.2.1, (v13.2.2.2.2.2.2.2.1, (v13.2.2.2.2.2.2.2.2.1, (v13.2.2.2.2.2.2.2.2.2.1, (v14, ()))))))))))) else (Option.bind (getI v13.2.2.2.2.2.2.2.1.1 v13.2.2.2.2.2.2.2.2.1) fun v15 => (Option.bind ((if (leZ v15 v13.2.1) = true then (some ((ltZ v13.2.1 v13.2.2.2.2.2.2.2.2.2.1), (v13.2.2.1, (v13.2.2.2.1, (v13.2.2.2.2.1, (v13.2.2.2.2.2.1, (v13.2.2.2.2.2.2.1, (v13.2.2.2.2.2.2.2.1, (v13.2.2.2.2.2.2.2.2.1, (v13.2.2.2.2.2.2.2.2.2.1, ())))))))))) else (some (false, (v13.2.2.1, (v13.2.2.2.1, (v13.2.2.2.2.1, (v13.2.2.2.2.2.1, (v13.2.2.2.2.2.2.1, (v13.2.2.2.2.2.2.2.1, (v13.2.2.2.2.2.2.2.2.1, (v13.2.2.2.2.2.2.2.2.2.1, ()))))))))))) : (Option (Bool × ((List UInt8) × (Int × (Int × (Int × (Int × (D_Domain × D_Step))))))))) fun v16 => (Option.bind ((if v16.1 = true then (Option.bind (addI v16.2.1 [45]) fun v17 => (some (Out.norm (v16.2.2.1, (v16.2.2.2.1, (v16.2.2.2.2.1, (v16.2.2.2.2.2.1, (v16.2.2.2.2.2.2.1, (v16.2.2.2.2.2.2.2.1, (v16.2.2.2.2.2.2.2.2.1, (v17, ()))))))))))) else (Option.bind (addI v16.2.1 [46]) fun v18 => (some (Out.norm (v16.2.2.1, (v16.2.2.2.1, (v16.2.2.2.2.1, (v16.2.2.2.2.2.1, (v16.2.2.2.2.2.2.1, (v16.2.2.2.2.2.2.2.1, (v16.2.2.2.2.2.2.2.2.1, (v18, ())))))))))))) : (Option (Out (Int × (Int × (Int × (Int × (D_Domain × (Int × (Int × ((List UInt8) × Unit)))))))) Empty ((List UInt8) × Unit)))) fun v19 => (match ((match v19 with | Out.norm v23 => (Out.norm v23) | Out.exit v24 => (Out.exit v24) | Out.ret v25 => (Out.ret v25)) : (Out (Int × (Int × (Int × (Int × (D_Domain × (Int × (Int × ((List UInt8) × Unit)))))))) Empty ((List UInt8) × Unit))) with | Out.norm v20 => (some (Out.norm (v20.1, (v20.2.1, (v20.2.2.1, (v20.2.2.2.1, (v20.2.2.2.2.1, (v20.2.2.2.2.2.1, (v20.2.2.2.2.2.2.1, (v20.2.2.2.2.2.2.2.1, ())))))))))) | Out.exit v21 => (some (Out.exit v21)) | Out.ret v22 => (some (Out.ret v22))))))) : (Option (Out (Int × (Int × (Int × (Int × (D_Domain × (Int × (Int × ((List UInt8) × Unit)))))))) Empty ((List UInt8) × Unit)))) fun v26 => (match ((match v26 with | Out.norm v34 => (Out.norm v34) | Out.exit v35 => (Out.exit v35) | Out.ret v36 => (Out.ret v36)) : (Out (Int × (Int × (Int × (Int × (D_Domain × (Int × (Int × ((List UInt8) × Unit)))))))) Empty ((List UInt8) × Unit))) with | Out.norm v27 => (some (Out.norm ((addZ .i64 v27.1 1), (v27.2.1, (v27.2.2.1, (v27.2.2.2.1, (v27.2.2.2.2.1, (v27.2.2.2.2.2.1, (v27.2.2.2.2.2.2.1, (v27.2.2.2.2.2.2.2.1, ())))))))))) | Out.exit v28 => (match ((Empty.elim v28) : ((Int × (Int × (Int × (Int × (D_Domain × (Int × (Int × ((List UInt8) × Unit)))))))) ⊕ Empty)) with | Sum.inl v29 => (some (Out.norm ((addZ .i64 v29.1 1), (v29.2.1, (v29.2.2.1, (v29.2.2.2.1, (v29.2.2.2.2.1, (v29.2.2.2.2.2.1, (v29.2.2.2.2.2.2.1, (v29.2.2.2.2.2.2.2.1, ())))))))))) | Sum.inr v30 => (match ((Empty.elim v30) : ((Int × (Int × (Int × (Int × (D_Domain × (Int × (Int × ((List UInt8) × Unit)))))))) ⊕ Empty)) with | Sum.inl v31 => (some (Out.norm ((addZ .i64 v31.1 1), (v31.2.1, (v31.2.2.1, (v31.2.2.2.1, (v31.2.2.2.2.1, (v31.2.2.2.2.2.1, (v31.2.2.2.2.2.2.1, (v31.2.2.2.2.2.2.2.1, ())))))))))) | Sum.inr v32 => (some (Out.exit (Sum.inr (Empty.elim v32)))))) | Out.ret v33 => (some (Out.ret v33))))) else (some (Out.exit (Sum.inl ((ltZ v12.1 v12.2.1), (v12.1, (v12.2.1, (v12.2.2.1, (v12.2.2.2.1, (v12.2.2.2.2.1, (v12.2.2.2.2.2.1, (v12.2.2.2.2.2.2.1, (v12.2.2.2.2.2.2.2.1, ()))))))))))))))
def impl_DomainRow (x : (D_Project × (D_Domain × (Int × Unit)))) (c : Unit) : (Option ((List UInt8) × Unit)) :=
  (Option.bind ((Option.bind (impl_isUsable (x.1, (x.2.1, ())) ()) fun v0 => (some v0.1)) : (Option Bool)) fun v1 => (Option.bind ((if (notB v1) = true then (some (true, (x.1, (x.2.1, (x.2.2.1, ()))))) else (Option.bind ((Option.bind (impl_Project_hasActivity (x.1, (x.2.2.1, ())) ()) fun v2 => (some v2.1)) : (Option Bool)) fun v3 => (some ((notB v3), (x.1, (x.2.1, (x.2.2.1, ()))))))) : (Option (Bool × (D_Project × (D_Domain × (Int × Unit)))))) fun v4 => (if v4.1 = true then (some ([], ())) else (Option.bind ((Option.bind (impl_Project_compulsory (v4.2.1, (v4.2.2.1, (v4.2.2.2.1, ()))) ()) fun v5 => (some v5.1)) : (Option D_Step)) fun v6 => (Option.bind (getI v4.2.2.1.2.1 v4.2.2.2.1) fun v7 => (Option.bind (getI v4.2.1.2.1 v4.2.2.2.1) fun v8 => (Option.bind (getI v4.2.2.1.2.2.1 v4.2.2.2.1) fun v9 => (Option.bind ((Option.bind (impl_MaxDuration (v8, (v9, ())) ()) fun v10 => (some v10.1)) : (Option Int)) fun v11 => (Option.bind (loopN (A := (Int × (Int × (Int × (Int × (D_Domain × (Int × (Int × ((List UInt8) × Unit))))))))) big impl_DomainRow_L0 (0, (v4.2.1.1, (v6.1, (v6.2.1, (v4.2.2.1, (v4.2.2.2.1, ((addZ .i64 v7 v11), ([], ()))))))))) fun v37 => (match v37 with | Out.norm v38 => none | Out.exit v39 => (match ((match v39 with | Sum.inl v42 => (Sum.inl (v42.2.2.2.2.2.2.2.2.1, ())) | Sum.inr v43 => (Empty.elim v43)) : (((List UInt8) × Unit) ⊕ Empty)) with | Sum.inl v40 => (some (v40.1, ())) | Sum.inr v41 => none) | Out.ret v44 => (some v44)))))))))))
def H_impl_DomainRow : Hd := ⟨[.st [.int .i64, .sl 74 (.st [.str, .int .i64, .sl 105 (.st [.int .i64, .sl 3 (.int .i64), .sl 3 (.int .i64)])]), .sl 109 (.st [.int .i64, .int .i64, .bool, .int .i64]), .sl 114 (.st [.sl 149 (.st [.int .i64, .int .i64]), .sl 25 (.sl 3 (.int .i64))]), .sl 3 (.int .i64)], .st [.sl 3 (.int .i64), .sl 3 (.int .i64), .sl 25 (.sl 3 (.int .i64))], .int .i64], [], none, .p, .str, .p, []⟩
def T_impl_DomainRow : FSig := ⟨H_impl_DomainRow.ps, H_impl_DomainRow.cs, H_impl_DomainRow.io, H_impl_DomainRow.im, H_impl_DomainRow.R, H_impl_DomainRow.m, impl_DomainRow⟩
theorem E_impl_DomainRow : fnOf tys [(53, T_impl_isUsable), (54, T_impl_Project_hasActivity), (55, T_impl_Project_compulsory), (56, T_impl_MaxDuration)] Tryz.f15 H_impl_DomainRow = T_impl_DomainRow := by kernel_rfl
theorem K_impl_DomainRow : SigOk Tryz.prog 15 T_impl_DomainRow := (congrArg (SigOk Tryz.prog 15) E_impl_DomainRow).mp (fnOf_ok rfl tysOk ⟨K_impl_isUsable, K_impl_Project_hasActivity, K_impl_Project_compulsory, K_impl_MaxDuration, trivial⟩ Tryz.func15 (by decide) rfl (fun _ h => by cases h) (nilEq_of (by kernel_rfl)))
def laws_eqIntS_L0 : D_Mode → Option (Out D_Mode ((Bool × D_Mode) ⊕ Empty) (Bool × Unit)) :=
  (fun v0 => (if (ltZ v0.1 (lenI v0.2.1)) = true then (Option.bind (getI v0.2.1 v0.1) fun v1 => (Option.bind (getI v0.2.2.1 v0.1) fun v2 => (if (notB (eqZ v1 v2)) = true then (some (Out.ret (false, ()))) else (some (Out.norm ((addZ .i64 v0.1 1), (v0.2.1, (v0.2.2.1, ())))))))) else (some (Out.exit (Sum.inl ((ltZ v0.1 (lenI v0.2.1)), (v0.1, (v0.2.1, (v0.2.2.1, ())))))))))
def laws_eqIntS (x : ((List Int) × ((List Int) × Unit))) (c : Unit) : (Option (Bool × Unit)) :=
  (if (notB (eqZ (lenI x.1) (lenI x.2.1))) = true then (some (false, ())) else (Option.bind (loopN (A := D_Mode) big laws_eqIntS_L0 (0, (x.1, (x.2.1, ())))) fun v3 => (match v3 with | Out.norm v4 => none | Out.exit v5 => (match ((match v5 with | Sum.inl v8 => (Sum.inl ()) | Sum.inr v9 => (Empty.elim v9)) : (Unit ⊕ Empty)) with | Sum.inl v6 => (some (true, ())) | Sum.inr v7 => none) | Out.ret v10 => (some v10))))
def H_laws_eqIntS : Hd := ⟨[.sl 3 (.int .i64), .sl 3 (.int .i64)], [], none, .p, .bool, .p, []⟩
def T_laws_eqIntS : FSig := ⟨H_laws_eqIntS.ps, H_laws_eqIntS.cs, H_laws_eqIntS.io, H_laws_eqIntS.im, H_laws_eqIntS.R, H_laws_eqIntS.m, laws_eqIntS⟩
theorem E_laws_eqIntS : fnOf tys [] Tryz.f29 H_laws_eqIntS = T_laws_eqIntS := by kernel_rfl
theorem K_laws_eqIntS : SigOk Tryz.prog 29 T_laws_eqIntS := (congrArg (SigOk Tryz.prog 29) E_laws_eqIntS).mp (fnOf_ok rfl tysOk trivial Tryz.func29 (by decide) rfl (fun _ h => by cases h) (nilEq_of (by kernel_rfl)))
def laws_eqMode (x : (D_Mode × (D_Mode × Unit))) (c : Unit) : (Option (Bool × Unit)) :=
  (if (notB (eqZ x.1.1 x.2.1.1)) = true then (some (false, ())) else (Option.bind ((Option.bind (laws_eqIntS (x.1.2.1, (x.2.1.2.1, ())) ()) fun v0 => (some v0.1)) : (Option Bool)) fun v1 => (if (notB v1) = true then (some (false, ())) else (Option.bind ((Option.bind (laws_eqIntS (x.1.2.2.1, (x.2.1.2.2.1, ())) ()) fun v2 => (some v2.1)) : (Option Bool)) fun v3 => (if (notB v3) = true then (some (false, ())) else (some (true, ())))))))
def H_laws_eqMode : Hd := ⟨[.st [.int .i64, .sl 3 (.int .i64), .sl 3 (.int .i64)], .st [.int .i64, .sl 3 (.int .i64), .sl 3 (.int .i64)]], [], none, .p, .bool, .p, []⟩
def T_laws_eqMode : FSig := ⟨H_laws_eqMode.ps, H_laws_eqMode.cs, H_laws_eqMode.io, H_laws_eqMode.im, H_laws_eqMode.R, H_laws_eqMode.m, laws_eqMode⟩
theorem E_laws_eqMode : fnOf tys [(29, T_laws_eqIntS)] Tryz.f151 H_laws_eqMode = T_laws_eqMode := by kernel_rfl
theorem K_laws_eqMode : SigOk Tryz.prog 151 T_laws_eqMode := (congrArg (SigOk Tryz.prog 151) E_laws_eqMode).mp (fnOf_ok rfl tysOk ⟨K_laws_eqIntS, trivial⟩ Tryz.func151 (by decide) rfl (fun _ h => by cases h) (nilEq_of (by kernel_rfl)))
def laws_eqModeS_L0 : (Int × ((List D_Mode) × ((List D_Mode) × Unit))) → Option (Out (Int × ((List D_Mode) × ((List D_Mode) × Unit))) ((Bool × (Int × ((List D_Mode) × ((List D_Mode) × Unit)))) ⊕ Empty) (Bool × Unit)) :=
  (fun v0 => (if (ltZ v0.1 (lenI v0.2.1)) = true then (Option.bind (getI v0.2.1 v0.1) fun v1 => (Option.bind (getI v0.2.2.1 v0.1) fun v2 => (Option.bind ((Option.bind (laws_eqMode (v1, (v2, ())) ()) fun v3 => (some v3.1)) : (Option Bool)) fun v4 => (if (notB v4) = true then (some (Out.ret (false, ()))) else (some (Out.norm ((addZ .i64 v0.1 1), (v0.2.1, (v0.2.2.1, ()))))))))) else (some (Out.exit (Sum.inl ((ltZ v0.1 (lenI v0.2.1)), (v0.1, (v0.2.1, (v0.2.2.1, ())))))))))
def laws_eqModeS (x : ((List D_Mode) × ((List D_Mode) × Unit))) (c : Unit) : (Option (Bool × Unit)) :=
  (if (notB (eqZ (lenI x.1) (lenI x.2.1))) = true then (some (false, ())) else (Option.bind (loopN (A := (Int × ((List D_Mode) × ((List D_Mode) × Unit)))) big laws_eqModeS_L0 (0, (x.1, (x.2.1, ())))) fun v5 => (match v5 with | Out.norm v6 => none | Out.exit v7 => (match ((match v7 with | Sum.inl v10 => (Sum.inl ()) | Sum.inr v11 => (Empty.elim v11)) : (Unit ⊕ Empty)) with | Sum.inl v8 => (some (true, ())) | Sum.inr v9 => none) | Out.ret v12 => (some v12))))
def H_laws_eqModeS : Hd := ⟨[.sl 105 (.st [.int .i64, .sl 3 (.int .i64), .sl 3 (.int .i64)]), .sl 105 (.st [.int .i64, .sl 3 (.int .i64), .sl 3 (.int .i64)])], [], none, .p, .bool, .p, []⟩
def T_laws_eqModeS : FSig := ⟨H_laws_eqModeS.ps, H_laws_eqModeS.cs, H_laws_eqModeS.io, H_laws_eqModeS.im, H_laws_eqModeS.R, H_laws_eqModeS.m, laws_eqModeS⟩
theorem E_laws_eqModeS : fnOf tys [(151, T_laws_eqMode)] Tryz.f122 H_laws_eqModeS = T_laws_eqModeS := by kernel_rfl
theorem K_laws_eqModeS : SigOk Tryz.prog 122 T_laws_eqModeS := (congrArg (SigOk Tryz.prog 122) E_laws_eqModeS).mp (fnOf_ok rfl tysOk ⟨K_laws_eqMode, trivial⟩ Tryz.func122 (by decide) rfl (fun _ h => by cases h) (nilEq_of (by kernel_rfl)))
def laws_eqActivity (x : (D_Activity × (D_Activity × Unit))) (c : Unit) : (Option (Bool × Unit)) :=
  (if (notB (eqS x.1.1 x.2.1.1)) = true then (some (false, ())) else (if (notB (eqZ x.1.2.1 x.2.1.2.1)) = true then (some (false, ())) else (Option.bind ((Option.bind (laws_eqModeS (x.1.2.2.1, (x.2.1.2.2.1, ())) ()) fun v0 => (some v0.1)) : (Option Bool)) fun v1 => (if (notB v1) = true then (some (false, ())) else (some (true, ()))))))
def H_laws_eqActivity : Hd := ⟨[.st [.str, .int .i64, .sl 105 (.st [.int .i64, .sl 3 (.int .i64), .sl 3 (.int .i64)])], .st [.str, .int .i64, .sl 105 (.st [.int .i64, .sl 3 (.int .i64), .sl 3 (.int .i64)])]], [], none, .p, .bool, .p, []⟩
def T_laws_eqActivity : FSig := ⟨H_laws_eqActivity.ps, H_laws_eqActivity.cs, H_laws_eqActivity.io, H_laws_eqActivity.im, H_laws_eqActivity.R, H_laws_eqActivity.m, laws_eqActivity⟩
theorem E_laws_eqActivity : fnOf tys [(122, T_laws_eqModeS)] Tryz.f87 H_laws_eqActivity = T_laws_eqActivity := by kernel_rfl
theorem K_laws_eqActivity : SigOk Tryz.prog 87 T_laws_eqActivity := (congrArg (SigOk Tryz.prog 87) E_laws_eqActivity).mp (fnOf_ok rfl tysOk ⟨K_laws_eqModeS, trivial⟩ Tryz.func87 (by decide) rfl (fun _ h => by cases h) (nilEq_of (by kernel_rfl)))
def laws_eqActivityS_L0 : (Int × ((List D_Activity) × ((List D_Activity) × Unit))) → Option (Out (Int × ((List D_Activity) × ((List D_Activity) × Unit))) ((Bool × (Int × ((List D_Activity) × ((List D_Activity) × Unit)))) ⊕ Empty) (Bool × Unit)) :=
  (fun v0 => (if (ltZ v0.1 (lenI v0.2.1)) = true then (Option.bind (getI v0.2.1 v0.1) fun v1 => (Option.bind (getI v0.2.2.1 v0.1) fun v2 => (Option.bind ((Option.bind (laws_eqActivity (v1, (v2, ())) ()) fun v3 => (some v3.1)) : (Option Bool)) fun v4 => (if (notB v4) = true then (some (Out.ret (false, ()))) else (some (Out.norm ((addZ .i64 v0.1 1), (v0.2.1, (v0.2.2.1, ()))))))))) else (some (Out.exit (Sum.inl ((ltZ v0.1 (lenI v0.2.1)), (v0.1, (v0.2.1, (v0.2.2.1, ())))))))))
def laws_eqActivityS (x : ((List D_Activity) × ((List D_Activity) × Unit))) (c : Unit) : (Option (Bool × Unit)) :=
  (if (notB (eqZ (lenI x.1) (lenI x.2.1))) = true then (some (false, ())) else (Option.bind (loopN (A := (Int × ((List D_Activity) × ((List D_Activity) × Unit)))) big laws_eqActivityS_L0 (0, (x.1, (x.2.1, ())))) fun v5 => (match v5 with | Out.norm v6 => none | Out.exit v7 => (match ((match v7 with | Sum.inl v10 => (Sum.inl ()) | Sum.inr v11 => (Empty.elim v11)) : (Unit ⊕ Empty)) with | Sum.inl v8 => (some (true, ())) | Sum.inr v9 => none) | Out.ret v12 => (some v12))))
def H_laws_eqActivityS : Hd := ⟨[.sl 74 (.st [.str, .int .i64, .sl 105 (.st [.int .i64, .sl 3 (.int .i64), .sl 3 (.int .i64)])]), .sl 74 (.st [.str, .int .i64, .sl 105 (.st [.int .i64, .sl 3 (.int .i64), .sl 3 (.int .i64)])])], [], none, .p, .bool, .p, []⟩
def T_laws_eqActivityS : FSig := ⟨H_laws_eqActivityS.ps, H_laws_eqActivityS.cs, H_laws_eqActivityS.io, H_laws_eqActivityS.im, H_laws_eqActivityS.R, H_laws_eqActivityS.m, laws_eqActivityS⟩
theorem E_laws_eqActivityS : fnOf tys [(87, T_laws_eqActivity)] Tryz.f57 H_laws_eqActivityS = T_laws_eqActivityS := by kernel_rfl
theorem K_laws_eqActivityS : SigOk Tryz.prog 57 T_laws_eqActivityS := (congrArg (SigOk Tryz.prog 57) E_laws_eqActivityS).mp (fnOf_ok rfl tysOk ⟨K_laws_eqActivity, trivial⟩ Tryz.func57 (by decide) rfl (fun _ h => by cases h) (nilEq_of (by kernel_rfl)))
def laws_eqLink (x : (D_Link × (D_Link × Unit))) (c : Unit) : (Option (Bool × Unit)) :=
  (if (notB (eqZ x.1.1 x.2.1.1)) = true then (some (false, ())) else (if (notB (eqZ x.1.2.1 x.2.1.2.1)) = true then (some (false, ())) else (if (notB (eqB x.1.2.2.1 x.2.1.2.2.1)) = true then (some (false, ())) else (if (notB (eqZ x.1.2.2.2.1 x.2.1.2.2.2.1)) = true then (some (false, ())) else (some (true, ()))))))
def H_laws_eqLink : Hd := ⟨[.st [.int .i64, .int .i64, .bool, .int .i64], .st [.int .i64, .int .i64, .bool, .int .i64]], [], none, .p, .bool, .p, []⟩
def T_laws_eqLink : FSig := ⟨H_laws_eqLink.ps, H_laws_eqLink.cs, H_laws_eqLink.io, H_laws_eqLink.im, H_laws_eqLink.R, H_laws_eqLink.m, laws_eqLink⟩
theorem E_laws_eqLink : fnOf tys [] Tryz.f88 H_laws_eqLink = T_laws_eqLink := by kernel_rfl
theorem K_laws_eqLink : SigOk Tryz.prog 88 T_laws_eqLink := (congrArg (SigOk Tryz.prog 88) E_laws_eqLink).mp (fnOf_ok rfl tysOk trivial Tryz.func88 (by decide) rfl (fun _ h => by cases h) (nilEq_of (by kernel_rfl)))
def laws_eqLinkS_L0 : (Int × ((List D_Link) × ((List D_Link) × Unit))) → Option (Out (Int × ((List D_Link) × ((List D_Link) × Unit))) ((Bool × (Int × ((List D_Link) × ((List D_Link) × Unit)))) ⊕ Empty) (Bool × Unit)) :=
  (fun v0 => (if (ltZ v0.1 (lenI v0.2.1)) = true then (Option.bind (getI v0.2.1 v0.1) fun v1 => (Option.bind (getI v0.2.2.1 v0.1) fun v2 => (Option.bind ((Option.bind (laws_eqLink (v1, (v2, ())) ()) fun v3 => (some v3.1)) : (Option Bool)) fun v4 => (if (notB v4) = true then (some (Out.ret (false, ()))) else (some (Out.norm ((addZ .i64 v0.1 1), (v0.2.1, (v0.2.2.1, ()))))))))) else (some (Out.exit (Sum.inl ((ltZ v0.1 (lenI v0.2.1)), (v0.1, (v0.2.1, (v0.2.2.1, ())))))))))
def laws_eqLinkS (x : ((List D_Link) × ((List D_Link) × Unit))) (c : Unit) : (Option (Bool × Unit)) :=
  (if (notB (eqZ (lenI x.1) (lenI x.2.1))) = true then (some (false, ())) else (Option.bind (loopN (A := (Int × ((List D_Link) × ((List D_Link) × Unit)))) big laws_eqLinkS_L0 (0, (x.1, (x.2.1, ())))) fun v5 => (match v5 with | Out.norm v6 => none | Out.exit v7 => (match ((match v7 with | Sum.inl v10 => (Sum.inl ()) | Sum.inr v11 => (Empty.elim v11)) : (Unit ⊕ Empty)) with | Sum.inl v8 => (some (true, ())) | Sum.inr v9 => none) | Out.ret v12 => (some v12))))
def H_laws_eqLinkS : Hd := ⟨[.sl 109 (.st [.int .i64, .int .i64, .bool, .int .i64]), .sl 109 (.st [.int .i64, .int .i64, .bool, .int .i64])], [], none, .p, .bool, .p, []⟩
def T_laws_eqLinkS : FSig := ⟨H_laws_eqLinkS.ps, H_laws_eqLinkS.cs, H_laws_eqLinkS.io, H_laws_eqLinkS.im, H_laws_eqLinkS.R, H_laws_eqLinkS.m, laws_eqLinkS⟩
theorem E_laws_eqLinkS : fnOf tys [(88, T_laws_eqLink)] Tryz.f58 H_laws_eqLinkS = T_laws_eqLinkS := by kernel_rfl
theorem K_laws_eqLinkS : SigOk Tryz.prog 58 T_laws_eqLinkS := (congrArg (SigOk Tryz.prog 58) E_laws_eqLinkS).mp (fnOf_ok rfl tysOk ⟨K_laws_eqLink, trivial⟩ Tryz.func58 (by decide) rfl (fun _ h => by cases h) (nilEq_of (by kernel_rfl)))
def laws_eqIntSS_L0 : (Int × ((List (List Int)) × ((List (List Int)) × Unit))) → Option (Out (Int × ((List (List Int)) × ((List (List Int)) × Unit))) ((Bool × (Int × ((List (List Int)) × ((List (List Int)) × Unit)))) ⊕ Empty) (Bool × Unit)) :=
  (fun v0 => (if (ltZ v0.1 (lenI v0.2.1)) = true then (Option.bind (getI v0.2.1 v0.1) fun v1 => (Option.bind (getI v0.2.2.1 v0.1) fun v2 => (Option.bind ((Option.bind (laws_eqIntS (v1, (v2, ())) ()) fun v3 => (some v3.1)) : (Option Bool)) fun v4 => (if (notB v4) = true then (some (Out.ret (false, ()))) else (some (Out.norm ((addZ .i64 v0.1 1), (v0.2.1, (v0.2.2.1, ()))))))))) else (some (Out.exit (Sum.inl ((ltZ v0.1 (lenI v0.2.1)), (v0.1, (v0.2.1, (v0.2.2.1, ())))))))))
def laws_eqIntSS (x : ((List (List Int)) × ((List (List Int)) × Unit))) (c : Unit) : (Option (Bool × Unit)) :=
  (if (notB (eqZ (lenI x.1) (lenI x.2.1))) = true then (some (false, ())) else (Option.bind (loopN (A := (Int × ((List (List Int)) × ((List (List Int)) × Unit)))) big laws_eqIntSS_L0 (0, (x.1, (x.2.1, ())))) fun v5 => (match v5 with | Out.norm v6 => none | Out.exit v7 => (match ((match v7 with | Sum.inl v10 => (Sum.inl ()) | Sum.inr v11 => (Empty.elim v11)) : (Unit ⊕ Empty)) with | Sum.inl v8 => (some (true, ())) | Sum.inr v9 => none) | Out.ret v12 => (some v12))))
def H_laws_eqIntSS : Hd := ⟨[.sl 25 (.sl 3 (.int .i64)), .sl 25 (.sl 3 (.int .i64))], [], none, .p, .bool, .p, []⟩
def T_laws_eqIntSS : FSig := ⟨H_laws_eqIntSS.ps, H_laws_eqIntSS.cs, H_laws_eqIntSS.io, H_laws_eqIntSS.im, H_laws_eqIntSS.R, H_laws_eqIntSS.m, laws_eqIntSS⟩
theorem E_laws_eqIntSS : fnOf tys [(29, T_laws_eqIntS)] Tryz.f60 H_laws_eqIntSS = T_laws_eqIntSS := by kernel_rfl
theorem K_laws_eqIntSS : SigOk Tryz.prog 60 T_laws_eqIntSS := (congrArg (SigOk Tryz.prog 60) E_laws_eqIntSS).mp (fnOf_ok rfl tysOk ⟨K_laws_eqIntS, trivial⟩ Tryz.func60 (by decide) rfl (fun _ h => by cases h) (nilEq_of (by kernel_rfl)))
def laws_eqStep (x : (D_Step × (D_Step × Unit))) (c : Unit) : (Option (Bool × Unit)) :=
  (if (notB (eqZ x.1.1 x.2.1.1)) = true then (some (false, ())) else (if (notB (eqZ x.1.2.1 x.2.1.2.1)) = true then (some (false, ())) else (some (true, ()))))
def H_laws_eqStep : Hd := ⟨[.st [.int .i64, .int .i64], .st [.int .i64, .int .i64]], [], none, .p, .bool, .p, []⟩
def T_laws_eqStep : FSig := ⟨H_laws_eqStep.ps, H_laws_eqStep.cs, H_laws_eqStep.io, H_laws_eqStep.im, H_laws_eqStep.R, H_laws_eqStep.m, laws_eqStep⟩
theorem E_laws_eqStep : fnOf tys [] Tryz.f152 H_laws_eqStep = T_laws_eqStep := by kernel_rfl
theorem K_laws_eqStep : SigOk Tryz.prog 152 T_laws_eqStep := (congrArg (SigOk Tryz.prog 152) E_laws_eqStep).mp (fnOf_ok rfl tysOk trivial Tryz.func152 (by decide) rfl (fun _ h => by cases h) (nilEq_of (by kernel_rfl)))
def laws_eqStepS_L0 : (Int × ((List D_Step) × ((List D_Step) × Unit))) → Option (Out (Int × ((List D_Step) × ((List D_Step) × Unit))) ((Bool × (Int × ((List D_Step) × ((List D_Step) × Unit)))) ⊕ Empty) (Bool × Unit)) :=
  (fun v0 => (if (ltZ v0.1 (lenI v0.2.1)) = true then (Option.bind (getI v0.2.1 v0.1) fun v1 => (Option.bind (getI v0.2.2.1 v0.1) fun v2 => (Option.bind ((Option.bind (laws_eqStep (v1, (v2, ())) ()) fun v3 => (some v3.1)) : (Option Bool)) fun v4 => (if (notB v4) = true then (some (Out.ret (false, ()))) else (some (Out.norm ((addZ .i64 v0.1 1), (v0.2.1, (v0.2.2.1, ()))))))))) else (some (Out.exit (Sum.inl ((ltZ v0.1 (lenI v0.2.1)), (v0.1, (v0.2.1, (v0.2.2.1, ())))))))))
def laws_eqStepS (x : ((List D_Step) × ((List D_Step) × Unit))) (c : Unit) : (Option (Bool × Unit)) :=
  (if (notB (eqZ (lenI x.1) (lenI x.2.1))) = true then (some (false, ())) else (Option.bind (loopN (A := (Int × ((List D_Step) × ((List D_Step) × Unit)))) big laws_eqStepS_L0 (0, (x.1, (x.2.1, ())))) fun v5 => (match v5 with | Out.norm v6 => none | Out.exit v7 => (match ((match v7 with | Sum.inl v10 => (Sum.inl ()) | Sum.inr v11 => (Empty.elim v11)) : (Unit ⊕ Empty)) with | Sum.inl v8 => (some (true, ())) | Sum.inr v9 => none) | Out.ret v12 => (some v12))))
def H_laws_eqStepS : Hd := ⟨[.sl 149 (.st [.int .i64, .int .i64]), .sl 149 (.st [.int .i64, .int .i64])], [], none, .p, .bool, .p, []⟩
def T_laws_eqStepS : FSig := ⟨H_laws_eqStepS.ps, H_laws_eqStepS.cs, H_laws_eqStepS.io, H_laws_eqStepS.im, H_laws_eqStepS.R, H_laws_eqStepS.m, laws_eqStepS⟩
theorem E_laws_eqStepS : fnOf tys [(152, T_laws_eqStep)] Tryz.f123 H_laws_eqStepS = T_laws_eqStepS := by kernel_rfl
theorem K_laws_eqStepS : SigOk Tryz.prog 123 T_laws_eqStepS := (congrArg (SigOk Tryz.prog 123) E_laws_eqStepS).mp (fnOf_ok rfl tysOk ⟨K_laws_eqStep, trivial⟩ Tryz.func123 (by decide) rfl (fun _ h => by cases h) (nilEq_of (by kernel_rfl)))
def laws_eqResource (x : (D_Resource × (D_Resource × Unit))) (c : Unit) : (Option (Bool × Unit)) :=
  (Option.bind ((Option.bind (laws_eqStepS (x.1.1, (x.2.1.1, ())) ()) fun v0 => (some v0.1)) : (Option Bool)) fun v1 => (if (notB v1) = true then (some (false, ())) else (Option.bind ((Option.bind (laws_eqIntSS (x.1.2.1, (x.2.1.2.1, ())) ()) fun v2 => (some v2.1)) : (Option Bool)) fun v3 => (if (notB v3) = true then (some (false, ())) else (some (true, ()))))))
def H_laws_eqResource : Hd := ⟨[.st [.sl 149 (.st [.int .i64, .int .i64]), .sl 25 (.sl 3 (.int .i64))], .st [.sl 149 (.st [.int .i64, .int .i64]), .sl 25 (.sl 3 (.int .i64))]], [], none, .p, .bool, .p, []⟩
def T_laws_eqResource : FSig := ⟨H_laws_eqResource.ps, H_laws_eqResource.cs, H_laws_eqResource.io, H_laws_eqResource.im, H_laws_eqResource.R, H_laws_eqResource.m, laws_eqResource⟩
theorem E_laws_eqResource : fnOf tys [(60, T_laws_eqIntSS), (123, T_laws_eqStepS)] Tryz.f89 H_laws_eqResource = T_laws_eqResource := by kernel_rfl
theorem K_laws_eqResource : SigOk Tryz.prog 89 T_laws_eqResource := (congrArg (SigOk Tryz.prog 89) E_laws_eqResource).mp (fnOf_ok rfl tysOk ⟨K_laws_eqIntSS, K_laws_eqStepS, trivial⟩ Tryz.func89 (by decide) rfl (fun _ h => by cases h) (nilEq_of (by kernel_rfl)))
def laws_eqResourceS_L0 : (Int × ((List D_Resource) × ((List D_Resource) × Unit))) → Option (Out (Int × ((List D_Resource) × ((List D_Resource) × Unit))) ((Bool × (Int × ((List D_Resource) × ((List D_Resource) × Unit)))) ⊕ Empty) (Bool × Unit)) :=
  (fun v0 => (if (ltZ v0.1 (lenI v0.2.1)) = true then (Option.bind (getI v0.2.1 v0.1) fun v1 => (Option.bind (getI v0.2.2.1 v0.1) fun v2 => (Option.bind ((Option.bind (laws_eqResource (v1, (v2, ())) ()) fun v3 => (some v3.1)) : (Option Bool)) fun v4 => (if (notB v4) = true then (some (Out.ret (false, ()))) else (some (Out.norm ((addZ .i64 v0.1 1), (v0.2.1, (v0.2.2.1, ()))))))))) else (some (Out.exit (Sum.inl ((ltZ v0.1 (lenI v0.2.1)), (v0.1, (v0.2.1, (v0.2.2.1, ())))))))))
def laws_eqResourceS (x : ((List D_Resource) × ((List D_Resource) × Unit))) (c : Unit) : (Option (Bool × Unit)) :=
  (if (notB (eqZ (lenI x.1) (lenI x.2.1))) = true then (some (false, ())) else (Option.bind (loopN (A := (Int × ((List D_Resource) × ((List D_Resource) × Unit)))) big laws_eqResourceS_L0 (0, (x.1, (x.2.1, ())))) fun v5 => (match v5 with | Out.norm v6 => none | Out.exit v7 => (match ((match v7 with | Sum.inl v10 => (Sum.inl ()) | Sum.inr v11 => (Empty.elim v11)) : (Unit ⊕ Empty)) with | Sum.inl v8 => (some (true, ())) | Sum.inr v9 => none) | Out.ret v12 => (some v12))))
def H_laws_eqResourceS : Hd := ⟨[.sl 114 (.st [.sl 149 (.st [.int .i64, .int .i64]), .sl 25 (.sl 3 (.int .i64))]), .sl 114 (.st [.sl 149 (.st [.int .i64, .int .i64]), .sl 25 (.sl 3 (.int .i64))])], [], none, .p, .bool, .p, []⟩
def T_laws_eqResourceS : FSig := ⟨H_laws_eqResourceS.ps, H_laws_eqResourceS.cs, H_laws_eqResourceS.io, H_laws_eqResourceS.im, H_laws_eqResourceS.R, H_laws_eqResourceS.m, laws_eqResourceS⟩
theorem E_laws_eqResourceS : fnOf tys [(89, T_laws_eqResource)] Tryz.f59 H_laws_eqResourceS = T_laws_eqResourceS := by kernel_rfl
theorem K_laws_eqResourceS : SigOk Tryz.prog 59 T_laws_eqResourceS := (congrArg (SigOk Tryz.prog 59) E_laws_eqResourceS).mp (fnOf_ok rfl tysOk ⟨K_laws_eqResource, trivial⟩ Tryz.func59 (by decide) rfl (fun _ h => by cases h) (nilEq_of (by kernel_rfl)))
def laws_eqProject (x : (D_Project × (D_Project × Unit))) (c : Unit) : (Option (Bool × Unit)) :=
  (if (notB (eqZ x.1.1 x.2.1.1)) = true then (some (false, ())) else (Option.bind ((Option.bind (laws_eqActivityS (x.1.2.1, (x.2.1.2.1, ())) ()) fun v0 => (some v0.1)) : (Option Bool)) fun v1 => (if (notB v1) = true then (some (false, ())) else (Option.bind ((Option.bind (laws_eqLinkS (x.1.2.2.1, (x.2.1.2.2.1, ())) ()) fun v2 => (some v2.1)) : (Option Bool)) fun v3 => (if (notB v3) = true then (some (false, ())) else (Option.bind ((Option.bind (laws_eqResourceS (x.1.2.2.2.1, (x.2.1.2.2.2.1, ())) ()) fun v4 => (some v4.1)) : (Option Bool)) fun v5 => (if (notB v5) = true then (some (false, ())) else (Option.bind ((Option.bind (laws_eqIntS (x.1.2.2.2.2.1, (x.2.1.2.2.2.2.1, ())) ()) fun v6 => (some v6.1)) : (Option Bool)) fun v7 => (if (notB v7) = true then (some (false, ())) else (some (true, ())))))))))))
def H_laws_eqProject : Hd := ⟨[.st [.int .i64, .sl 74 (.st [.str, .int .i64, .sl 105 (.st [.int .i64, .sl 3 (.int .i64), .sl 3 (.int .i64)])]), .sl 109 (.st [.int .i64, .int .i64, .bool, .int .i64]), .sl 114 (.st [.sl 149 (.st [.int .i64, .int .i64]), .sl 25 (.sl 3 (.int .i64))]), .sl 3 (.int .i64)], .st [.int .i64, .sl 74 (.st [.str, .int .i64, .sl 105 (.st [.int .i64, .sl 3 (.int .i64), .sl 3 (.int .i64)])]), .sl 109 (.st [.int .i64, .int .i64, .bool, .int .i64]), .sl 114 (.st [.sl 149 (.st [.int .i64, .int .i64]), .sl 25 (.sl 3 (.int .i64))]), .sl 3 (.int .i64)]], [], none, .p, .bool, .p, []⟩
def T_laws_eqProject : FSig := ⟨H_laws_eqProject.ps, H_laws_eqProject.cs, H_laws_eqProject.io, H_laws_eqProject.im, H_laws_eqProject.R, H_laws_eqProject.m, laws_eqProject⟩
theorem E_laws_eqProject : fnOf tys [(29, T_laws_eqIntS), (57, T_laws_eqActivityS), (58, T_laws_eqLinkS), (59, T_laws_eqResourceS)] Tryz.f16 H_laws_eqProject = T_laws_eqProject := by kernel_rfl
theorem K_laws_eqProject : SigOk Tryz.prog 16 T_laws_eqProject := (congrArg (SigOk Tryz.prog 16) E_laws_eqProject).mp (fnOf_ok rfl tysOk ⟨K_laws_eqIntS, K_laws_eqActivityS, K_laws_eqLinkS, K_laws_eqResourceS, trivial⟩ Tryz.func16 (by decide) rfl (fun _ h => by cases h) (nilEq_of (by kernel_rfl)))
def laws_eqDomain (x : (D_Domain × (D_Domain × Unit))) (c : Unit) : (Option (Bool × Unit)) :=
  (Option.bind ((Option.bind (laws_eqIntS (x.1.1, (x.2.1.1, ())) ()) fun v0 => (some v0.1)) : (Option Bool)) fun v1 => (if (notB v1) = true then (some (false, ())) else (Option.bind ((Option.bind (laws_eqIntS (x.1.2.1, (x.2.1.2.1, ())) ()) fun v2 => (some v2.1)) : (Option Bool)) fun v3 => (if (notB v3) = true then (some (false, ())) else (Option.bind ((Option.bind (laws_eqIntSS (x.1.2.2.1, (x.2.1.2.2.1, ())) ()) fun v4 => (some v4.1)) : (Option Bool)) fun v5 => (if (notB v5) = true then (some (false, ())) else (some (true, ()))))))))
def H_laws_eqDomain : Hd := ⟨[.st [.sl 3 (.int .i64), .sl 3 (.int .i64), .sl 25 (.sl 3 (.int .i64))], .st [.sl 3 (.int .i64), .sl 3 (.int .i64), .sl 25 (.sl 3 (.int .i64))]], [], none, .p, .bool, .p, []⟩
def T_laws_eqDomain : FSig := ⟨H_laws_eqDomain.ps, H_laws_eqDomain.cs, H_laws_eqDomain.io, H_laws_eqDomain.im, H_laws_eqDomain.R, H_laws_eqDomain.m, laws_eqDomain⟩
theorem E_laws_eqDomain : fnOf tys [(29, T_laws_eqIntS), (60, T_laws_eqIntSS)] Tryz.f17 H_laws_eqDomain = T_laws_eqDomain := by kernel_rfl
theorem K_laws_eqDomain : SigOk Tryz.prog 17 T_laws_eqDomain := (congrArg (SigOk Tryz.prog 17) E_laws_eqDomain).mp (fnOf_ok rfl tysOk ⟨K_laws_eqIntS, K_laws_eqIntSS, trivial⟩ Tryz.func17 (by decide) rfl (fun _ h => by cases h) (nilEq_of (by kernel_rfl)))
def laws_FnExactDomainRow (x : (D_Project × (D_Domain × (Int × Unit)))) (c : Unit) : (Option (Bool × Unit)) :=
  (Option.bind ((Option.bind (laws_szProject (x.1, (1048576, ())) ()) fun v0 => (some v0.1)) : (Option Int)) fun v1 => (if (ltZ v1 0) = true then (some (true, ())) else (Option.bind ((Option.bind (laws_szDomain (x.2.1, (v1, ())) ()) fun v2 => (some v2.1)) : (Option Int)) fun v3 => (if (ltZ v3 0) = true then (some (true, ())) else (Option.bind ((Option.bind (laws_toProject (x.1, ()) ()) fun v4 => (some v4.1)) : (Option D_Project)) fun v5 => (Option.bind ((Option.bind (laws_toDomain (x.2.1, ()) ()) fun v6 => (some v6.1)) : (Option D_Domain)) fun v7 => (Option.bind ((Option.bind (spec_DomainRow (v5, (v7, (x.2.2.1, ()))) ()) fun v8 => (some v8.1)) : (Option (List UInt8))) fun v9 => (Option.bind ((Option.bind (laws_toProject (x.1, ()) ()) fun v10 => (some v10.1)) : (Option D_Project)) fun v11 => (Option.bind ((Option.bind (laws_toDomain (x.2.1, ()) ()) fun v12 => (some v12.1)) : (Option D_Domain)) fun v13 => (Option.bind ((Option.bind (impl_DomainRow (v11, (v13, (x.2.2.1, ()))) ()) fun v14 => (some v14.1)) : (Option (List UInt8))) fun v15 => (if (notB (eqS v15 v9)) = true then (some (false, ())) else (Option.bind ((Option.bind (laws_toProject (x.1, ()) ()) fun v16 => (some v16.1)) : (Option D_Project)) fun v17 => (Option.bind ((Option.bind (laws_eqProject (v11, (v17, ())) ()) fun v18 => (some v18.1)) : (Option Bool)) fun v19 => (if (notB v19) = true then (some (false, ())) else (Option.bind ((Option.bind (laws_toDomain (x.2.1, ()) ()) fun v20 => (some v20.1)) : (Option D_Domain)) fun v21 => (Option.bind ((Option.bind (laws_eqDomain (v13, (v21, ())) ()) fun v22 => (some v22.1)) : (Option Bool)) fun v23 => (if (notB v23) = true then (some (false, ())) else (some (true, ())))))))))))))))))))
def H_laws_FnExactDomainRow : Hd := ⟨[.st [.int .i64, .sl 97 (.st [.str, .int .i64, .sl 153 (.st [.int .i64, .sl 3 (.int .i64), .sl 3 (.int .i64)])]), .sl 111 (.st [.int .i64, .int .i64, .bool, .int .i64]), .sl 101 (.st [.sl 160 (.st [.int .i64, .int .i64]), .sl 25 (.sl 3 (.int .i64))]), .sl 3 (.int .i64)], .st [.sl 3 (.int .i64), .sl 3 (.int .i64), .sl 25 (.sl 3 (.int .i64))], .int .i64], [], none, .p, .bool, .p, []⟩
def T_laws_FnExactDomainRow : FSig := ⟨H_laws_FnExactDomainRow.ps, H_laws_FnExactDomainRow.cs, H_laws_FnExactDomainRow.io, H_laws_FnExactDomainRow.im, H_laws_FnExactDomainRow.R, H_laws_FnExactDomainRow.m, laws_FnExactDomainRow⟩
theorem E_laws_FnExactDomainRow : fnOf tys [(10, T_laws_szProject), (11, T_laws_szDomain), (12, T_spec_DomainRow), (13, T_laws_toProject), (14, T_laws_toDomain), (15, T_impl_DomainRow), (16, T_laws_eqProject), (17, T_laws_eqDomain)] Tryz.f3 H_laws_FnExactDomainRow = T_laws_FnExactDomainRow := by kernel_rfl
theorem K_laws_FnExactDomainRow : SigOk Tryz.prog 3 T_laws_FnExactDomainRow := (congrArg (SigOk Tryz.prog 3) E_laws_FnExactDomainRow).mp (fnOf_ok rfl tysOk ⟨K_laws_szProject, K_laws_szDomain, K_spec_DomainRow, K_laws_toProject, K_laws_toDomain, K_impl_DomainRow, K_laws_eqProject, K_laws_eqDomain, trivial⟩ Tryz.func3 (by decide) rfl (fun _ h => by cases h) (nilEq_of (by kernel_rfl)))
end Go.Proofs.YtdjajoebpdnhnaaGreat
