/-
  The functions of this seat as plain Lean functions, and that the program computes them. No condition.
-/
import Derived.Test.YtjhpeeapijjgjaaGreatN37
import Derived.Test.YtjhpeeapijjgjaaGreatProg
import Derived.KernelRfl
namespace Go.Proofs.YtjhpeeapijjgjaaGreat
open Go.Abs
set_option linter.unusedVariables false
set_option maxRecDepth 100000
abbrev D_Mode : Type := (Int × ((List Int) × ((List Int) × Unit)))
abbrev D_Activity : Type := ((List UInt8) × (Int × ((List D_Mode) × Unit)))
abbrev D_Link : Type := (Int × (Int × (Bool × (Int × Unit))))
abbrev D_Step : Type := (Int × (Int × Unit))
abbrev D_Resource : Type := ((List D_Step) × ((List (List Int)) × Unit))
abbrev D_Project : Type := (Int × ((List D_Activity) × ((List D_Link) × ((List D_Resource) × ((List Int) × Unit)))))
abbrev D_Domain : Type := ((List Int) × ((List Int) × ((List (List Int)) × Unit)))
abbrev D_Schedule : Type := ((List Int) × ((List Int) × Unit))
abbrev D_Rule : Type := (Int × (Int × D_Step))
abbrev D_l01Cur : Type := ((List Int) × D_Step)
theorem tn3 : TnOk Tryz.prog 3 (.int .i64) := ⟨Tryz.underlying3, fun _ h => (by cases h), Tryz.t3, rfl, rfl, fun _ _ => rfl⟩
theorem tn4 : TnOk Tryz.prog 4 (.bool) := ⟨Tryz.underlying4, fun _ h => (by cases h), Tryz.t4, rfl, rfl, fun _ _ => rfl⟩
theorem tn5 : TnOk Tryz.prog 5 (.int .u8) := ⟨Tryz.underlying5, fun _ h => (by cases h), Tryz.t5, rfl, rfl, fun _ _ => rfl⟩
theorem tn9 : TnOk Tryz.prog 9 (.str) := ⟨Tryz.underlying9, fun _ h => (by cases h), Tryz.t9, rfl, rfl, fun _ _ => rfl⟩
theorem tn22 : TnOk Tryz.prog 22 (.sl 5 (.int .u8)) := ⟨⟨Tryz.underlying22, Tryz.t5, _, rfl, rfl, rfl, rfl, by decide, by decide, fun _ _ => rfl, fun k h => by cases h; exact Tryz.underlying5⟩, fun _ h => (by cases h), Tryz.t22, rfl, rfl, fun _ _ => rfl⟩
theorem tn23 : TnOk Tryz.prog 23 (.sl 88 (.st [.str, .int .i64, .sl 153 (.st [.int .i64, .sl 3 (.int .i64), .sl 3 (.int .i64)])])) := ⟨⟨Tryz.underlying23, Tryz.t88, _, rfl, rfl, rfl, rfl, by decide, by decide, fun _ _ => rfl, fun k h => by cases h⟩, fun _ h => (by cases h), Tryz.t23, rfl, rfl, fun _ _ => rfl⟩
theorem tn24 : TnOk Tryz.prog 24 (.sl 128 (.st [.int .i64, .int .i64, .bool, .int .i64])) := ⟨⟨Tryz.underlying24, Tryz.t128, _, rfl, rfl, rfl, rfl, by decide, by decide, fun _ _ => rfl, fun k h => by cases h⟩, fun _ h => (by cases h), Tryz.t24, rfl, rfl, fun _ _ => rfl⟩
theorem tn25 : TnOk Tryz.prog 25 (.sl 95 (.st [.sl 124 (.st [.int .i64, .int .i64]), .sl 26 (.sl 3 (.int .i64))])) := ⟨⟨Tryz.underlying25, Tryz.t95, _, rfl, rfl, rfl, rfl, by decide, by decide, fun _ _ => rfl, fun k h => by cases h⟩, fun _ h => (by cases h), Tryz.t25, rfl, rfl, fun _ _ => rfl⟩
theorem tn26 : TnOk Tryz.prog 26 (.sl 3 (.int .i64)) := ⟨⟨Tryz.underlying26, Tryz.t3, _, rfl, rfl, rfl, rfl, by decide, by decide, fun _ _ => rfl, fun k h => by cases h; exact Tryz.underlying3⟩, fun _ h => (by cases h), Tryz.t26, rfl, rfl, fun _ _ => rfl⟩
theorem tn27 : TnOk Tryz.prog 27 (.st [.int .i64, .sl 88 (.st [.str, .int .i64, .sl 153 (.st [.int .i64, .sl 3 (.int .i64), .sl 3 (.int .i64)])]), .sl 128 (.st [.int .i64, .int .i64, .bool, .int .i64]), .sl 95 (.st [.sl 124 (.st [.int .i64, .int .i64]), .sl 26 (.sl 3 (.int .i64))]), .sl 3 (.int .i64)]) := ⟨⟨_, Tryz.underlying27, Tryz.eqGuardType27, Tryz.stoodInHeld27, rfl, fun j τ h => by
    cases j with
    | zero => cases h; exact ⟨_, _, rfl, rfl, by decide, by decide, Tryz.underlying3, rfl, fun us h => by cases h⟩
    | succ j =>
     cases j with
     | zero => cases h; exact ⟨_, _, rfl, rfl, by decide, by decide, Tryz.underlying23, rfl, fun us h => by cases h⟩
     | succ j =>
      cases j with
      | zero => cases h; exact ⟨_, _, rfl, rfl, by decide, by decide, Tryz.underlying24, rfl, fun us h => by cases h⟩
      | succ j =>
       cases j with
       | zero => cases h; exact ⟨_, _, rfl, rfl, by decide, by decide, Tryz.underlying25, rfl, fun us h => by cases h⟩
       | succ j =>
        cases j with
        | zero => cases h; exact ⟨_, _, rfl, rfl, by decide, by decide, Tryz.underlying26, rfl, fun us h => by cases h⟩
        | succ j =>
         cases h⟩, (fun us hus fs hfs j τ h f hf => by
    cases hus
    rw [Tryz.underlying27] at hfs
    cases hfs
    cases j with
    | zero => cases h; cases hf; exact ⟨fun k e => by cases e; exact Tryz.underlying3, fun e => (by cases e), fun e => (by cases e)⟩
    | succ j =>
     cases j with
     | zero => cases h; cases hf; exact ⟨fun k e => (by cases e), fun e => (by cases e), fun e => (by cases e)⟩
     | succ j =>
      cases j with
      | zero => cases h; cases hf; exact ⟨fun k e => (by cases e), fun e => (by cases e), fun e => (by cases e)⟩
      | succ j =>
       cases j with
       | zero => cases h; cases hf; exact ⟨fun k e => (by cases e), fun e => (by cases e), fun e => (by cases e)⟩
       | succ j =>
        cases j with
        | zero => cases h; cases hf; exact ⟨fun k e => (by cases e), fun e => (by cases e), fun e => (by cases e)⟩
        | succ j =>
         cases h), Tryz.t27, rfl, rfl, fun _ _ => rfl⟩
theorem tn28 : TnOk Tryz.prog 28 (.st [.int .i64, .sl 88 (.st [.str, .int .i64, .sl 153 (.st [.int .i64, .sl 3 (.int .i64), .sl 3 (.int .i64)])]), .sl 128 (.st [.int .i64, .int .i64, .bool, .int .i64]), .sl 95 (.st [.sl 124 (.st [.int .i64, .int .i64]), .sl 26 (.sl 3 (.int .i64))]), .sl 3 (.int .i64)]) := ⟨⟨_, Tryz.underlying28, Tryz.eqGuardType28, Tryz.stoodInHeld28, rfl, fun j τ h => by
    cases j with
    | zero => cases h; exact ⟨_, _, rfl, rfl, by decide, by decide, Tryz.underlying3, rfl, fun us h => by cases h⟩
    | succ j =>
     cases j with
     | zero => cases h; exact ⟨_, _, rfl, rfl, by decide, by decide, Tryz.underlying23, rfl, fun us h => by cases h⟩
     | succ j =>
      cases j with
      | zero => cases h; exact ⟨_, _, rfl, rfl, by decide, by decide, Tryz.underlying24, rfl, fun us h => by cases h⟩
      | succ j =>
       cases j with
       | zero => cases h; exact ⟨_, _, rfl, rfl, by decide, by decide, Tryz.underlying25, rfl, fun us h => by cases h⟩
       | succ j =>
        cases j with
        | zero => cases h; exact ⟨_, _, rfl, rfl, by decide, by decide, Tryz.underlying26, rfl, fun us h => by cases h⟩
        | succ j =>
         cases h⟩, (fun us hus fs hfs j τ h f hf => by
    cases hus
    rw [Tryz.underlying28] at hfs
    cases hfs
    cases j with
    | zero => cases h; cases hf; exact ⟨fun k e => by cases e; exact Tryz.underlying3, fun e => (by cases e), fun e => (by cases e)⟩
    | succ j =>
     cases j with
     | zero => cases h; cases hf; exact ⟨fun k e => (by cases e), fun e => (by cases e), fun e => (by cases e)⟩
     | succ j =>
      cases j with
      | zero => cases h; cases hf; exact ⟨fun k e => (by cases e), fun e => (by cases e), fun e => (by cases e)⟩
      | succ j =>
       cases j with
       | zero => cases h; cases hf; exact ⟨fun k e => (by cases e), fun e => (by cases e), fun e => (by cases e)⟩
       | succ j =>
        cases j with
        | zero => cases h; cases hf; exact ⟨fun k e => (by cases e), fun e => (by cases e), fun e => (by cases e)⟩
        | succ j =>
         cases h), Tryz.t28, rfl, rfl, fun _ _ => rfl⟩
theorem tn29 : TnOk Tryz.prog 29 (.sl 26 (.sl 3 (.int .i64))) := ⟨⟨Tryz.underlying29, Tryz.t26, _, rfl, rfl, rfl, rfl, by decide, by decide, fun _ _ => rfl, fun k h => by cases h⟩, fun _ h => (by cases h), Tryz.t29, rfl, rfl, fun _ _ => rfl⟩
theorem tn30 : TnOk Tryz.prog 30 (.st [.sl 3 (.int .i64), .sl 3 (.int .i64), .sl 26 (.sl 3 (.int .i64))]) := ⟨⟨_, Tryz.underlying30, Tryz.eqGuardType30, Tryz.stoodInHeld30, rfl, fun j τ h => by
    cases j with
    | zero => cases h; exact ⟨_, _, rfl, rfl, by decide, by decide, Tryz.underlying26, rfl, fun us h => by cases h⟩
    | succ j =>
     cases j with
     | zero => cases h; exact ⟨_, _, rfl, rfl, by decide, by decide, Tryz.underlying26, rfl, fun us h => by cases h⟩
     | succ j =>
      cases j with
      | zero => cases h; exact ⟨_, _, rfl, rfl, by decide, by decide, Tryz.underlying29, rfl, fun us h => by cases h⟩
      | succ j =>
       cases h⟩, (fun us hus fs hfs j τ h f hf => by
    cases hus
    rw [Tryz.underlying30] at hfs
    cases hfs
    cases j with
    | zero => cases h; cases hf; exact ⟨fun k e => (by cases e), fun e => (by cases e), fun e => (by cases e)⟩
    | succ j =>
     cases j with
     | zero => cases h; cases hf; exact ⟨fun k e => (by cases e), fun e => (by cases e), fun e => (by cases e)⟩
     | succ j =>
      cases j with
      | zero => cases h; cases hf; exact ⟨fun k e => (by cases e), fun e => (by cases e), fun e => (by cases e)⟩
      | succ j =>
       cases h), Tryz.t30, rfl, rfl, fun _ _ => rfl⟩
theorem tn31 : TnOk Tryz.prog 31 (.st [.sl 3 (.int .i64), .sl 3 (.int .i64), .sl 26 (.sl 3 (.int .i64))]) := ⟨⟨_, Tryz.underlying31, Tryz.eqGuardType31, Tryz.stoodInHeld31, rfl, fun j τ h => by
    cases j with
    | zero => cases h; exact ⟨_, _, rfl, rfl, by decide, by decide, Tryz.underlying26, rfl, fun us h => by cases h⟩
    | succ j =>
     cases j with
     | zero => cases h; exact ⟨_, _, rfl, rfl, by decide, by decide, Tryz.underlying26, rfl, fun us h => by cases h⟩
     | succ j =>
      cases j with
      | zero => cases h; exact ⟨_, _, rfl, rfl, by decide, by decide, Tryz.underlying29, rfl, fun us h => by cases h⟩
      | succ j =>
       cases h⟩, (fun us hus fs hfs j τ h f hf => by
    cases hus
    rw [Tryz.underlying31] at hfs
    cases hfs
    cases j with
    | zero => cases h; cases hf; exact ⟨fun k e => (by cases e), fun e => (by cases e), fun e => (by cases e)⟩
    | succ j =>
     cases j with
     | zero => cases h; cases hf; exact ⟨fun k e => (by cases e), fun e => (by cases e), fun e => (by cases e)⟩
     | succ j =>
      cases j with
      | zero => cases h; cases hf; exact ⟨fun k e => (by cases e), fun e => (by cases e), fun e => (by cases e)⟩
      | succ j =>
       cases h), Tryz.t31, rfl, rfl, fun _ _ => rfl⟩
theorem tn33 : TnOk Tryz.prog 33 (.fn [.sl 5 (.int .u8)] (.tup [.st [.int .i64, .sl 88 (.st [.str, .int .i64, .sl 153 (.st [.int .i64, .sl 3 (.int .i64), .sl 3 (.int .i64)])]), .sl 128 (.st [.int .i64, .int .i64, .bool, .int .i64]), .sl 95 (.st [.sl 124 (.st [.int .i64, .int .i64]), .sl 26 (.sl 3 (.int .i64))]), .sl 3 (.int .i64)], .st [.sl 3 (.int .i64), .sl 3 (.int .i64), .sl 26 (.sl 3 (.int .i64))]])) := ⟨⟨_, _, _, Tryz.underlying33⟩, fun _ h => (by cases h), Tryz.t33, rfl, rfl, fun _ h => by cases h⟩
theorem tn34 : TnOk Tryz.prog 34 (.fn [.st [.int .i64, .sl 88 (.st [.str, .int .i64, .sl 153 (.st [.int .i64, .sl 3 (.int .i64), .sl 3 (.int .i64)])]), .sl 128 (.st [.int .i64, .int .i64, .bool, .int .i64]), .sl 95 (.st [.sl 124 (.st [.int .i64, .int .i64]), .sl 26 (.sl 3 (.int .i64))]), .sl 3 (.int .i64)], .st [.sl 3 (.int .i64), .sl 3 (.int .i64), .sl 26 (.sl 3 (.int .i64))]] (.bool)) := ⟨⟨_, _, _, Tryz.underlying34⟩, fun _ h => (by cases h), Tryz.t34, rfl, rfl, fun _ h => by cases h⟩
theorem tn35 : TnOk Tryz.prog 35 (.fn [.st [.int .i64, .sl 88 (.st [.str, .int .i64, .sl 153 (.st [.int .i64, .sl 3 (.int .i64), .sl 3 (.int .i64)])]), .sl 128 (.st [.int .i64, .int .i64, .bool, .int .i64]), .sl 95 (.st [.sl 124 (.st [.int .i64, .int .i64]), .sl 26 (.sl 3 (.int .i64))]), .sl 3 (.int .i64)], .int .i64] (.bool)) := ⟨⟨_, _, _, Tryz.underlying35⟩, fun _ h => (by cases h), Tryz.t35, rfl, rfl, fun _ h => by cases h⟩
theorem tn36 : TnOk Tryz.prog 36 (.sl 39 (.st [.sl 3 (.int .i64), .sl 3 (.int .i64)])) := ⟨⟨Tryz.underlying36, Tryz.t39, _, rfl, rfl, rfl, rfl, by decide, by decide, fun _ _ => rfl, fun k h => by cases h⟩, fun _ h => (by cases h), Tryz.t36, rfl, rfl, fun _ _ => rfl⟩
theorem tn37 : TnOk Tryz.prog 37 (.fn [.st [.int .i64, .sl 88 (.st [.str, .int .i64, .sl 153 (.st [.int .i64, .sl 3 (.int .i64), .sl 3 (.int .i64)])]), .sl 128 (.st [.int .i64, .int .i64, .bool, .int .i64]), .sl 95 (.st [.sl 124 (.st [.int .i64, .int .i64]), .sl 26 (.sl 3 (.int .i64))]), .sl 3 (.int .i64)], .int .i64] (.sl 39 (.st [.sl 3 (.int .i64), .sl 3 (.int .i64)]))) := ⟨⟨_, _, _, Tryz.underlying37⟩, fun _ h => (by cases h), Tryz.t37, rfl, rfl, fun _ h => by cases h⟩
theorem tn38 : TnOk Tryz.prog 38 (.st [.sl 3 (.int .i64), .sl 3 (.int .i64)]) := ⟨⟨_, Tryz.underlying38, Tryz.eqGuardType38, Tryz.stoodInHeld38, rfl, fun j τ h => by
    cases j with
    | zero => cases h; exact ⟨_, _, rfl, rfl, by decide, by decide, Tryz.underlying26, rfl, fun us h => by cases h⟩
    | succ j =>
     cases j with
     | zero => cases h; exact ⟨_, _, rfl, rfl, by decide, by decide, Tryz.underlying26, rfl, fun us h => by cases h⟩
     | succ j =>
      cases h⟩, (fun us hus fs hfs j τ h f hf => by
    cases hus
    rw [Tryz.underlying38] at hfs
    cases hfs
    cases j with
    | zero => cases h; cases hf; exact ⟨fun k e => (by cases e), fun e => (by cases e), fun e => (by cases e)⟩
    | succ j =>
     cases j with
     | zero => cases h; cases hf; exact ⟨fun k e => (by cases e), fun e => (by cases e), fun e => (by cases e)⟩
     | succ j =>
      cases h), Tryz.t38, rfl, rfl, fun _ _ => rfl⟩
theorem tn39 : TnOk Tryz.prog 39 (.st [.sl 3 (.int .i64), .sl 3 (.int .i64)]) := ⟨⟨_, Tryz.underlying39, Tryz.eqGuardType39, Tryz.stoodInHeld39, rfl, fun j τ h => by
    cases j with
    | zero => cases h; exact ⟨_, _, rfl, rfl, by decide, by decide, Tryz.underlying26, rfl, fun us h => by cases h⟩
    | succ j =>
     cases j with
     | zero => cases h; exact ⟨_, _, rfl, rfl, by decide, by decide, Tryz.underlying26, rfl, fun us h => by cases h⟩
     | succ j =>
      cases h⟩, (fun us hus fs hfs j τ h f hf => by
    cases hus
    rw [Tryz.underlying39] at hfs
    cases hfs
    cases j with
    | zero => cases h; cases hf; exact ⟨fun k e => (by cases e), fun e => (by cases e), fun e => (by cases e)⟩
    | succ j =>
     cases j with
     | zero => cases h; cases hf; exact ⟨fun k e => (by cases e), fun e => (by cases e), fun e => (by cases e)⟩
     | succ j =>
      cases h), Tryz.t39, rfl, rfl, fun _ _ => rfl⟩
theorem tn40 : TnOk Tryz.prog 40 (.fn [.st [.sl 3 (.int .i64), .sl 3 (.int .i64), .sl 26 (.sl 3 (.int .i64))], .st [.sl 3 (.int .i64), .sl 3 (.int .i64)]] (.bool)) := ⟨⟨_, _, _, Tryz.underlying40⟩, fun _ h => (by cases h), Tryz.t40, rfl, rfl, fun _ h => by cases h⟩
theorem tn41 : TnOk Tryz.prog 41 (.fn [.st [.int .i64, .sl 88 (.st [.str, .int .i64, .sl 153 (.st [.int .i64, .sl 3 (.int .i64), .sl 3 (.int .i64)])]), .sl 128 (.st [.int .i64, .int .i64, .bool, .int .i64]), .sl 95 (.st [.sl 124 (.st [.int .i64, .int .i64]), .sl 26 (.sl 3 (.int .i64))]), .sl 3 (.int .i64)], .st [.sl 3 (.int .i64), .sl 3 (.int .i64), .sl 26 (.sl 3 (.int .i64))], .int .i64, .int .i64, .int .i64] (.bool)) := ⟨⟨_, _, _, Tryz.underlying41⟩, fun _ h => (by cases h), Tryz.t41, rfl, rfl, fun _ h => by cases h⟩
theorem tn42 : TnOk Tryz.prog 42 (.fn [.st [.int .i64, .sl 88 (.st [.str, .int .i64, .sl 153 (.st [.int .i64, .sl 3 (.int .i64), .sl 3 (.int .i64)])]), .sl 128 (.st [.int .i64, .int .i64, .bool, .int .i64]), .sl 95 (.st [.sl 124 (.st [.int .i64, .int .i64]), .sl 26 (.sl 3 (.int .i64))]), .sl 3 (.int .i64)], .st [.sl 3 (.int .i64), .sl 3 (.int .i64), .sl 26 (.sl 3 (.int .i64))], .int .i64, .int .i64, .int .i64] (.int .i64)) := ⟨⟨_, _, _, Tryz.underlying42⟩, fun _ h => (by cases h), Tryz.t42, rfl, rfl, fun _ h => by cases h⟩
theorem tn43 : TnOk Tryz.prog 43 (.fn [.st [.int .i64, .sl 88 (.st [.str, .int .i64, .sl 153 (.st [.int .i64, .sl 3 (.int .i64), .sl 3 (.int .i64)])]), .sl 128 (.st [.int .i64, .int .i64, .bool, .int .i64]), .sl 95 (.st [.sl 124 (.st [.int .i64, .int .i64]), .sl 26 (.sl 3 (.int .i64))]), .sl 3 (.int .i64)], .st [.sl 3 (.int .i64), .sl 3 (.int .i64)], .int .i64] (.int .i64)) := ⟨⟨_, _, _, Tryz.underlying43⟩, fun _ h => (by cases h), Tryz.t43, rfl, rfl, fun _ h => by cases h⟩
theorem tn44 : TnOk Tryz.prog 44 (.fn [.st [.int .i64, .sl 88 (.st [.str, .int .i64, .sl 153 (.st [.int .i64, .sl 3 (.int .i64), .sl 3 (.int .i64)])]), .sl 128 (.st [.int .i64, .int .i64, .bool, .int .i64]), .sl 95 (.st [.sl 124 (.st [.int .i64, .int .i64]), .sl 26 (.sl 3 (.int .i64))]), .sl 3 (.int .i64)], .st [.sl 3 (.int .i64), .sl 3 (.int .i64), .sl 26 (.sl 3 (.int .i64))], .int .i64] (.int .i64)) := ⟨⟨_, _, _, Tryz.underlying44⟩, fun _ h => (by cases h), Tryz.t44, rfl, rfl, fun _ h => by cases h⟩
theorem tn45 : TnOk Tryz.prog 45 (.fn [.st [.int .i64, .sl 88 (.st [.str, .int .i64, .sl 153 (.st [.int .i64, .sl 3 (.int .i64), .sl 3 (.int .i64)])]), .sl 128 (.st [.int .i64, .int .i64, .bool, .int .i64]), .sl 95 (.st [.sl 124 (.st [.int .i64, .int .i64]), .sl 26 (.sl 3 (.int .i64))]), .sl 3 (.int .i64)], .st [.sl 3 (.int .i64), .sl 3 (.int .i64)]] (.int .i64)) := ⟨⟨_, _, _, Tryz.underlying45⟩, fun _ h => (by cases h), Tryz.t45, rfl, rfl, fun _ h => by cases h⟩
theorem tn46 : TnOk Tryz.prog 46 (.fn [.st [.int .i64, .sl 88 (.st [.str, .int .i64, .sl 153 (.st [.int .i64, .sl 3 (.int .i64), .sl 3 (.int .i64)])]), .sl 128 (.st [.int .i64, .int .i64, .bool, .int .i64]), .sl 95 (.st [.sl 124 (.st [.int .i64, .int .i64]), .sl 26 (.sl 3 (.int .i64))]), .sl 3 (.int .i64)], .st [.sl 3 (.int .i64), .sl 3 (.int .i64), .sl 26 (.sl 3 (.int .i64))], .int .i64] (.sl 3 (.int .i64))) := ⟨⟨_, _, _, Tryz.underlying46⟩, fun _ h => (by cases h), Tryz.t46, rfl, rfl, fun _ h => by cases h⟩
theorem tn47 : TnOk Tryz.prog 47 (.fn [.st [.int .i64, .sl 88 (.st [.str, .int .i64, .sl 153 (.st [.int .i64, .sl 3 (.int .i64), .sl 3 (.int .i64)])]), .sl 128 (.st [.int .i64, .int .i64, .bool, .int .i64]), .sl 95 (.st [.sl 124 (.st [.int .i64, .int .i64]), .sl 26 (.sl 3 (.int .i64))]), .sl 3 (.int .i64)], .int .i64, .int .i64, .int .i64] (.int .i64)) := ⟨⟨_, _, _, Tryz.underlying47⟩, fun _ h => (by cases h), Tryz.t47, rfl, rfl, fun _ h => by cases h⟩
theorem tn48 : TnOk Tryz.prog 48 (.fn [.sl 5 (.int .u8)] (.bool)) := ⟨⟨_, _, _, Tryz.underlying48⟩, fun _ h => (by cases h), Tryz.t48, rfl, rfl, fun _ h => by cases h⟩
theorem tn56 : TnOk Tryz.prog 56 (.sl 59 (.st [.int .i64, .int .i64, .int .i64, .int .i64])) := ⟨⟨Tryz.underlying56, Tryz.t59, _, rfl, rfl, rfl, rfl, by decide, by decide, fun _ _ => rfl, fun k h => by cases h⟩, fun _ h => (by cases h), Tryz.t56, rfl, rfl, fun _ _ => rfl⟩
theorem tn58 : TnOk Tryz.prog 58 (.st [.int .i64, .int .i64, .int .i64, .int .i64]) := ⟨⟨_, Tryz.underlying58, Tryz.eqGuardType58, Tryz.stoodInHeld58, rfl, fun j τ h => by
    cases j with
    | zero => cases h; exact ⟨_, _, rfl, rfl, by decide, by decide, Tryz.underlying3, rfl, fun us h => by cases h⟩
    | succ j =>
     cases j with
     | zero => cases h; exact ⟨_, _, rfl, rfl, by decide, by decide, Tryz.underlying3, rfl, fun us h => by cases h⟩
     | succ j =>
      cases j with
      | zero => cases h; exact ⟨_, _, rfl, rfl, by decide, by decide, Tryz.underlying3, rfl, fun us h => by cases h⟩
      | succ j =>
       cases j with
       | zero => cases h; exact ⟨_, _, rfl, rfl, by decide, by decide, Tryz.underlying3, rfl, fun us h => by cases h⟩
       | succ j =>
        cases h⟩, (fun us hus fs hfs j τ h f hf => by
    cases hus
    rw [Tryz.underlying58] at hfs
    cases hfs
    cases j with
    | zero => cases h; cases hf; exact ⟨fun k e => by cases e; exact Tryz.underlying3, fun e => (by cases e), fun e => (by cases e)⟩
    | succ j =>
     cases j with
     | zero => cases h; cases hf; exact ⟨fun k e => by cases e; exact Tryz.underlying3, fun e => (by cases e), fun e => (by cases e)⟩
     | succ j =>
      cases j with
      | zero => cases h; cases hf; exact ⟨fun k e => by cases e; exact Tryz.underlying3, fun e => (by cases e), fun e => (by cases e)⟩
      | succ j =>
       cases j with
       | zero => cases h; cases hf; exact ⟨fun k e => by cases e; exact Tryz.underlying3, fun e => (by cases e), fun e => (by cases e)⟩
       | succ j =>
        cases h), Tryz.t58, rfl, rfl, fun _ _ => rfl⟩
theorem tn59 : TnOk Tryz.prog 59 (.st [.int .i64, .int .i64, .int .i64, .int .i64]) := ⟨⟨_, Tryz.underlying59, Tryz.eqGuardType59, Tryz.stoodInHeld59, rfl, fun j τ h => by
    cases j with
    | zero => cases h; exact ⟨_, _, rfl, rfl, by decide, by decide, Tryz.underlying3, rfl, fun us h => by cases h⟩
    | succ j =>
     cases j with
     | zero => cases h; exact ⟨_, _, rfl, rfl, by decide, by decide, Tryz.underlying3, rfl, fun us h => by cases h⟩
     | succ j =>
      cases j with
      | zero => cases h; exact ⟨_, _, rfl, rfl, by decide, by decide, Tryz.underlying3, rfl, fun us h => by cases h⟩
      | succ j =>
       cases j with
       | zero => cases h; exact ⟨_, _, rfl, rfl, by decide, by decide, Tryz.underlying3, rfl, fun us h => by cases h⟩
       | succ j =>
        cases h⟩, (fun us hus fs hfs j τ h f hf => by
    cases hus
    rw [Tryz.underlying59] at hfs
    cases hfs
    cases j with
    | zero => cases h; cases hf; exact ⟨fun k e => by cases e; exact Tryz.underlying3, fun e => (by cases e), fun e => (by cases e)⟩
    | succ j =>
     cases j with
     | zero => cases h; cases hf; exact ⟨fun k e => by cases e; exact Tryz.underlying3, fun e => (by cases e), fun e => (by cases e)⟩
     | succ j =>
      cases j with
      | zero => cases h; cases hf; exact ⟨fun k e => by cases e; exact Tryz.underlying3, fun e => (by cases e), fun e => (by cases e)⟩
      | succ j =>
       cases j with
       | zero => cases h; cases hf; exact ⟨fun k e => by cases e; exact Tryz.underlying3, fun e => (by cases e), fun e => (by cases e)⟩
       | succ j =>
        cases h), Tryz.t59, rfl, rfl, fun _ _ => rfl⟩
theorem tn71 : TnOk Tryz.prog 71 (.fn [.st [.int .i64, .sl 88 (.st [.str, .int .i64, .sl 153 (.st [.int .i64, .sl 3 (.int .i64), .sl 3 (.int .i64)])]), .sl 128 (.st [.int .i64, .int .i64, .bool, .int .i64]), .sl 95 (.st [.sl 124 (.st [.int .i64, .int .i64]), .sl 26 (.sl 3 (.int .i64))]), .sl 3 (.int .i64)]] (.bool)) := ⟨⟨_, _, _, Tryz.underlying71⟩, fun _ h => (by cases h), Tryz.t71, rfl, rfl, fun _ h => by cases h⟩
theorem tn75 : TnOk Tryz.prog 75 (.fn [.st [.int .i64, .sl 88 (.st [.str, .int .i64, .sl 153 (.st [.int .i64, .sl 3 (.int .i64), .sl 3 (.int .i64)])]), .sl 128 (.st [.int .i64, .int .i64, .bool, .int .i64]), .sl 95 (.st [.sl 124 (.st [.int .i64, .int .i64]), .sl 26 (.sl 3 (.int .i64))]), .sl 3 (.int .i64)], .st [.sl 3 (.int .i64), .sl 3 (.int .i64)]] (.bool)) := ⟨⟨_, _, _, Tryz.underlying75⟩, fun _ h => (by cases h), Tryz.t75, rfl, rfl, fun _ h => by cases h⟩
theorem tn80 : TnOk Tryz.prog 80 (.fn [.sl 3 (.int .i64), .sl 3 (.int .i64)] (.bool)) := ⟨⟨_, _, _, Tryz.underlying80⟩, fun _ h => (by cases h), Tryz.t80, rfl, rfl, fun _ h => by cases h⟩
theorem tn81 : TnOk Tryz.prog 81 (.fn [.sl 3 (.int .i64)] (.sl 3 (.int .i64))) := ⟨⟨_, _, _, Tryz.underlying81⟩, fun _ h => (by cases h), Tryz.t81, rfl, rfl, fun _ h => by cases h⟩
theorem tn82 : TnOk Tryz.prog 82 (.fn [.int .i64] (.sl 3 (.int .i64))) := ⟨⟨_, _, _, Tryz.underlying82⟩, fun _ h => (by cases h), Tryz.t82, rfl, rfl, fun _ h => by cases h⟩
theorem tn86 : TnOk Tryz.prog 86 (.sl 153 (.st [.int .i64, .sl 3 (.int .i64), .sl 3 (.int .i64)])) := ⟨⟨Tryz.underlying86, Tryz.t153, _, rfl, rfl, rfl, rfl, by decide, by decide, fun _ _ => rfl, fun k h => by cases h⟩, fun _ h => (by cases h), Tryz.t86, rfl, rfl, fun _ _ => rfl⟩
theorem tn87 : TnOk Tryz.prog 87 (.st [.str, .int .i64, .sl 153 (.st [.int .i64, .sl 3 (.int .i64), .sl 3 (.int .i64)])]) := ⟨⟨_, Tryz.underlying87, Tryz.eqGuardType87, Tryz.stoodInHeld87, rfl, fun j τ h => by
    cases j with
    | zero => cases h; exact ⟨_, _, rfl, rfl, by decide, by decide, Tryz.underlying9, rfl, fun us h => by cases h⟩
    | succ j =>
     cases j with
     | zero => cases h; exact ⟨_, _, rfl, rfl, by decide, by decide, Tryz.underlying3, rfl, fun us h => by cases h⟩
     | succ j =>
      cases j with
      | zero => cases h; exact ⟨_, _, rfl, rfl, by decide, by decide, Tryz.underlying86, rfl, fun us h => by cases h⟩
      | succ j =>
       cases h⟩, (fun us hus fs hfs j τ h f hf => by
    cases hus
    rw [Tryz.underlying87] at hfs
    cases hfs
    cases j with
    | zero => cases h; cases hf; exact ⟨fun k e => (by cases e), fun e => (by cases e), fun _ => Tryz.underlying9⟩
    | succ j =>
     cases j with
     | zero => cases h; cases hf; exact ⟨fun k e => by cases e; exact Tryz.underlying3, fun e => (by cases e), fun e => (by cases e)⟩
     | succ j =>
      cases j with
      | zero => cases h; cases hf; exact ⟨fun k e => (by cases e), fun e => (by cases e), fun e => (by cases e)⟩
      | succ j =>
       cases h), Tryz.t87, rfl, rfl, fun _ _ => rfl⟩
theorem tn88 : TnOk Tryz.prog 88 (.st [.str, .int .i64, .sl 153 (.st [.int .i64, .sl 3 (.int .i64), .sl 3 (.int .i64)])]) := ⟨⟨_, Tryz.underlying88, Tryz.eqGuardType88, Tryz.stoodInHeld88, rfl, fun j τ h => by
    cases j with
    | zero => cases h; exact ⟨_, _, rfl, rfl, by decide, by decide, Tryz.underlying9, rfl, fun us h => by cases h⟩
    | succ j =>
     cases j with
     | zero => cases h; exact ⟨_, _, rfl, rfl, by decide, by decide, Tryz.underlying3, rfl, fun us h => by cases h⟩
     | succ j =>
      cases j with
      | zero => cases h; exact ⟨_, _, rfl, rfl, by decide, by decide, Tryz.underlying86, rfl, fun us h => by cases h⟩
      | succ j =>
       cases h⟩, (fun us hus fs hfs j τ h f hf => by
    cases hus
    rw [Tryz.underlying88] at hfs
    cases hfs
    cases j with
    | zero => cases h; cases hf; exact ⟨fun k e => (by cases e), fun e => (by cases e), fun _ => Tryz.underlying9⟩
    | succ j =>
     cases j with
     | zero => cases h; cases hf; exact ⟨fun k e => by cases e; exact Tryz.underlying3, fun e => (by cases e), fun e => (by cases e)⟩
     | succ j =>
      cases j with
      | zero => cases h; cases hf; exact ⟨fun k e => (by cases e), fun e => (by cases e), fun e => (by cases e)⟩
      | succ j =>
       cases h), Tryz.t88, rfl, rfl, fun _ _ => rfl⟩
theorem tn89 : TnOk Tryz.prog 89 (.ptr (.st [.sl 5 (.int .u8), .int .i64, .int .i64])) := ⟨⟨_, Tryz.underlying89⟩, fun _ h => (by cases h), Tryz.t89, rfl, rfl, fun _ h => by cases h⟩
theorem tn90 : TnOk Tryz.prog 90 (.fn [.sl 5 (.int .u8)] (.ptr (.st [.sl 5 (.int .u8), .int .i64, .int .i64]))) := ⟨⟨_, _, _, Tryz.underlying90⟩, fun _ h => (by cases h), Tryz.t90, rfl, rfl, fun _ h => by cases h⟩
theorem tn91 : TnOk Tryz.prog 91 (.fn [.ptr (.st [.sl 5 (.int .u8), .int .i64, .int .i64]), .int .i64] (.st [.int .i64, .sl 88 (.st [.str, .int .i64, .sl 153 (.st [.int .i64, .sl 3 (.int .i64), .sl 3 (.int .i64)])]), .sl 128 (.st [.int .i64, .int .i64, .bool, .int .i64]), .sl 95 (.st [.sl 124 (.st [.int .i64, .int .i64]), .sl 26 (.sl 3 (.int .i64))]), .sl 3 (.int .i64)])) := ⟨⟨_, _, _, Tryz.underlying91⟩, fun _ h => (by cases h), Tryz.t91, rfl, rfl, fun _ h => by cases h⟩
theorem tn92 : TnOk Tryz.prog 92 (.fn [.ptr (.st [.sl 5 (.int .u8), .int .i64, .int .i64])] (.sl 26 (.sl 3 (.int .i64)))) := ⟨⟨_, _, _, Tryz.underlying92⟩, fun _ h => (by cases h), Tryz.t92, rfl, rfl, fun _ h => by cases h⟩
theorem tn93 : TnOk Tryz.prog 93 (.sl 124 (.st [.int .i64, .int .i64])) := ⟨⟨Tryz.underlying93, Tryz.t124, _, rfl, rfl, rfl, rfl, by decide, by decide, fun _ _ => rfl, fun k h => by cases h⟩, fun _ h => (by cases h), Tryz.t93, rfl, rfl, fun _ _ => rfl⟩
theorem tn94 : TnOk Tryz.prog 94 (.st [.sl 124 (.st [.int .i64, .int .i64]), .sl 26 (.sl 3 (.int .i64))]) := ⟨⟨_, Tryz.underlying94, Tryz.eqGuardType94, Tryz.stoodInHeld94, rfl, fun j τ h => by
    cases j with
    | zero => cases h; exact ⟨_, _, rfl, rfl, by decide, by decide, Tryz.underlying93, rfl, fun us h => by cases h⟩
    | succ j =>
     cases j with
     | zero => cases h; exact ⟨_, _, rfl, rfl, by decide, by decide, Tryz.underlying29, rfl, fun us h => by cases h⟩
     | succ j =>
      cases h⟩, (fun us hus fs hfs j τ h f hf => by
    cases hus
    rw [Tryz.underlying94] at hfs
    cases hfs
    cases j with
    | zero => cases h; cases hf; exact ⟨fun k e => (by cases e), fun e => (by cases e), fun e => (by cases e)⟩
    | succ j =>
     cases j with
     | zero => cases h; cases hf; exact ⟨fun k e => (by cases e), fun e => (by cases e), fun e => (by cases e)⟩
     | succ j =>
      cases h), Tryz.t94, rfl, rfl, fun _ _ => rfl⟩
theorem tn95 : TnOk Tryz.prog 95 (.st [.sl 124 (.st [.int .i64, .int .i64]), .sl 26 (.sl 3 (.int .i64))]) := ⟨⟨_, Tryz.underlying95, Tryz.eqGuardType95, Tryz.stoodInHeld95, rfl, fun j τ h => by
    cases j with
    | zero => cases h; exact ⟨_, _, rfl, rfl, by decide, by decide, Tryz.underlying93, rfl, fun us h => by cases h⟩
    | succ j =>
     cases j with
     | zero => cases h; exact ⟨_, _, rfl, rfl, by decide, by decide, Tryz.underlying29, rfl, fun us h => by cases h⟩
     | succ j =>
      cases h⟩, (fun us hus fs hfs j τ h f hf => by
    cases hus
    rw [Tryz.underlying95] at hfs
    cases hfs
    cases j with
    | zero => cases h; cases hf; exact ⟨fun k e => (by cases e), fun e => (by cases e), fun e => (by cases e)⟩
    | succ j =>
     cases j with
     | zero => cases h; cases hf; exact ⟨fun k e => (by cases e), fun e => (by cases e), fun e => (by cases e)⟩
     | succ j =>
      cases h), Tryz.t95, rfl, rfl, fun _ _ => rfl⟩
theorem tn96 : TnOk Tryz.prog 96 (.fn [.st [.int .i64, .sl 88 (.st [.str, .int .i64, .sl 153 (.st [.int .i64, .sl 3 (.int .i64), .sl 3 (.int .i64)])]), .sl 128 (.st [.int .i64, .int .i64, .bool, .int .i64]), .sl 95 (.st [.sl 124 (.st [.int .i64, .int .i64]), .sl 26 (.sl 3 (.int .i64))]), .sl 3 (.int .i64)]] (.st [.sl 3 (.int .i64), .sl 3 (.int .i64), .sl 26 (.sl 3 (.int .i64))])) := ⟨⟨_, _, _, Tryz.underlying96⟩, fun _ h => (by cases h), Tryz.t96, rfl, rfl, fun _ h => by cases h⟩
theorem tn97 : TnOk Tryz.prog 97 (.fn [.ptr (.st [.sl 5 (.int .u8), .int .i64, .int .i64]), .int .i64] (.int .i64)) := ⟨⟨_, _, _, Tryz.underlying97⟩, fun _ h => (by cases h), Tryz.t97, rfl, rfl, fun _ h => by cases h⟩
theorem tn98 : TnOk Tryz.prog 98 (.fn [.int .i64, .int .i64] (.int .i64)) := ⟨⟨_, _, _, Tryz.underlying98⟩, fun _ h => (by cases h), Tryz.t98, rfl, rfl, fun _ h => by cases h⟩
theorem tn99 : TnOk Tryz.prog 99 (.fn [.int .i64] (.bool)) := ⟨⟨_, _, _, Tryz.underlying99⟩, fun _ h => (by cases h), Tryz.t99, rfl, rfl, fun _ h => by cases h⟩
theorem tn100 : TnOk Tryz.prog 100 (.fn [.sl 3 (.int .i64)] (.bool)) := ⟨⟨_, _, _, Tryz.underlying100⟩, fun _ h => (by cases h), Tryz.t100, rfl, rfl, fun _ h => by cases h⟩
theorem tn101 : TnOk Tryz.prog 101 (.fn [.st [.str, .int .i64, .sl 153 (.st [.int .i64, .sl 3 (.int .i64), .sl 3 (.int .i64)])]] (.sl 3 (.int .i64))) := ⟨⟨_, _, _, Tryz.underlying101⟩, fun _ h => (by cases h), Tryz.t101, rfl, rfl, fun _ h => by cases h⟩
theorem tn102 : TnOk Tryz.prog 102 (.fn [.int .i64, .int .i64, .int .i64] (.bool)) := ⟨⟨_, _, _, Tryz.underlying102⟩, fun _ h => (by cases h), Tryz.t102, rfl, rfl, fun _ h => by cases h⟩
theorem tn103 : TnOk Tryz.prog 103 (.fn [.st [.int .i64, .sl 88 (.st [.str, .int .i64, .sl 153 (.st [.int .i64, .sl 3 (.int .i64), .sl 3 (.int .i64)])]), .sl 128 (.st [.int .i64, .int .i64, .bool, .int .i64]), .sl 95 (.st [.sl 124 (.st [.int .i64, .int .i64]), .sl 26 (.sl 3 (.int .i64))]), .sl 3 (.int .i64)]] (.sl 26 (.sl 3 (.int .i64)))) := ⟨⟨_, _, _, Tryz.underlying103⟩, fun _ h => (by cases h), Tryz.t103, rfl, rfl, fun _ h => by cases h⟩
theorem tn104 : TnOk Tryz.prog 104 (.fn [.int .i64, .int .i64] (.sl 26 (.sl 3 (.int .i64)))) := ⟨⟨_, _, _, Tryz.underlying104⟩, fun _ h => (by cases h), Tryz.t104, rfl, rfl, fun _ h => by cases h⟩
theorem tn105 : TnOk Tryz.prog 105 (.fn [] (.st [.sl 3 (.int .i64), .sl 3 (.int .i64)])) := ⟨⟨_, _, _, Tryz.underlying105⟩, fun _ h => (by cases h), Tryz.t105, rfl, rfl, fun _ h => by cases h⟩
theorem tn106 : TnOk Tryz.prog 106 (.fn [.sl 3 (.int .i64), .int .i64] (.bool)) := ⟨⟨_, _, _, Tryz.underlying106⟩, fun _ h => (by cases h), Tryz.t106, rfl, rfl, fun _ h => by cases h⟩
theorem tn107 : TnOk Tryz.prog 107 (.fn [.st [.sl 3 (.int .i64), .sl 3 (.int .i64), .sl 26 (.sl 3 (.int .i64))], .int .i64, .int .i64, .int .i64] (.int .i64)) := ⟨⟨_, _, _, Tryz.underlying107⟩, fun _ h => (by cases h), Tryz.t107, rfl, rfl, fun _ h => by cases h⟩
theorem tn108 : TnOk Tryz.prog 108 (.fn [.st [.sl 3 (.int .i64), .sl 3 (.int .i64)], .int .i64] (.int .i64)) := ⟨⟨_, _, _, Tryz.underlying108⟩, fun _ h => (by cases h), Tryz.t108, rfl, rfl, fun _ h => by cases h⟩
theorem tn109 : TnOk Tryz.prog 109 (.fn [.st [.sl 3 (.int .i64), .sl 3 (.int .i64), .sl 26 (.sl 3 (.int .i64))], .int .i64] (.int .i64)) := ⟨⟨_, _, _, Tryz.underlying109⟩, fun _ h => (by cases h), Tryz.t109, rfl, rfl, fun _ h => by cases h⟩
theorem tn110 : TnOk Tryz.prog 110 (.fn [.st [.int .i64, .sl 88 (.st [.str, .int .i64, .sl 153 (.st [.int .i64, .sl 3 (.int .i64), .sl 3 (.int .i64)])]), .sl 128 (.st [.int .i64, .int .i64, .bool, .int .i64]), .sl 95 (.st [.sl 124 (.st [.int .i64, .int .i64]), .sl 26 (.sl 3 (.int .i64))]), .sl 3 (.int .i64)], .st [.sl 3 (.int .i64), .sl 3 (.int .i64), .sl 26 (.sl 3 (.int .i64))], .int .i64] (.bool)) := ⟨⟨_, _, _, Tryz.underlying110⟩, fun _ h => (by cases h), Tryz.t110, rfl, rfl, fun _ h => by cases h⟩
theorem tn111 : TnOk Tryz.prog 111 (.fn [.sl 3 (.int .i64), .fn [.int .i64] (.bool)] (.sl 3 (.int .i64))) := ⟨⟨_, _, _, Tryz.underlying111⟩, fun _ h => (by cases h), Tryz.t111, rfl, rfl, fun _ h => by cases h⟩
theorem tn112 : TnOk Tryz.prog 112 (.fn [.st [.int .i64, .sl 88 (.st [.str, .int .i64, .sl 153 (.st [.int .i64, .sl 3 (.int .i64), .sl 3 (.int .i64)])]), .sl 128 (.st [.int .i64, .int .i64, .bool, .int .i64]), .sl 95 (.st [.sl 124 (.st [.int .i64, .int .i64]), .sl 26 (.sl 3 (.int .i64))]), .sl 3 (.int .i64)], .st [.sl 3 (.int .i64), .sl 3 (.int .i64), .sl 26 (.sl 3 (.int .i64))], .int .i64, .int .i64] (.int .i64)) := ⟨⟨_, _, _, Tryz.underlying112⟩, fun _ h => (by cases h), Tryz.t112, rfl, rfl, fun _ h => by cases h⟩
theorem tn113 : TnOk Tryz.prog 113 (.fn [.sl 3 (.int .i64), .fn [.int .i64, .int .i64] (.int .i64)] (.tup [])) := ⟨⟨_, _, _, Tryz.underlying113⟩, fun _ h => (by cases h), Tryz.t113, rfl, rfl, fun _ h => by cases h⟩
theorem tn114 : TnOk Tryz.prog 114 (.st [.sl 5 (.int .u8), .int .i64, .int .i64]) := ⟨⟨_, Tryz.underlying114, Tryz.eqGuardType114, Tryz.stoodInHeld114, rfl, fun j τ h => by
    cases j with
    | zero => cases h; exact ⟨_, _, rfl, rfl, by decide, by decide, Tryz.underlying22, rfl, fun us h => by cases h⟩
    | succ j =>
     cases j with
     | zero => cases h; exact ⟨_, _, rfl, rfl, by decide, by decide, Tryz.underlying3, rfl, fun us h => by cases h⟩
     | succ j =>
      cases j with
      | zero => cases h; exact ⟨_, _, rfl, rfl, by decide, by decide, Tryz.underlying3, rfl, fun us h => by cases h⟩
      | succ j =>
       cases h⟩, (fun us hus fs hfs j τ h f hf => by
    cases hus
    rw [Tryz.underlying114] at hfs
    cases hfs
    cases j with
    | zero => cases h; cases hf; exact ⟨fun k e => (by cases e), fun e => (by cases e), fun e => (by cases e)⟩
    | succ j =>
     cases j with
     | zero => cases h; cases hf; exact ⟨fun k e => by cases e; exact Tryz.underlying3, fun e => (by cases e), fun e => (by cases e)⟩
     | succ j =>
      cases j with
      | zero => cases h; cases hf; exact ⟨fun k e => by cases e; exact Tryz.underlying3, fun e => (by cases e), fun e => (by cases e)⟩
      | succ j =>
       cases h), Tryz.t114, rfl, rfl, fun _ _ => rfl⟩
theorem tn115 : TnOk Tryz.prog 115 (.st [.sl 5 (.int .u8), .int .i64, .int .i64]) := ⟨⟨_, Tryz.underlying115, Tryz.eqGuardType115, Tryz.stoodInHeld115, rfl, fun j τ h => by
    cases j with
    | zero => cases h; exact ⟨_, _, rfl, rfl, by decide, by decide, Tryz.underlying22, rfl, fun us h => by cases h⟩
    | succ j =>
     cases j with
     | zero => cases h; exact ⟨_, _, rfl, rfl, by decide, by decide, Tryz.underlying3, rfl, fun us h => by cases h⟩
     | succ j =>
      cases j with
      | zero => cases h; exact ⟨_, _, rfl, rfl, by decide, by decide, Tryz.underlying3, rfl, fun us h => by cases h⟩
      | succ j =>
       cases h⟩, (fun us hus fs hfs j τ h f hf => by
    cases hus
    rw [Tryz.underlying115] at hfs
    cases hfs
    cases j with
    | zero => cases h; cases hf; exact ⟨fun k e => (by cases e), fun e => (by cases e), fun e => (by cases e)⟩
    | succ j =>
     cases j with
     | zero => cases h; cases hf; exact ⟨fun k e => by cases e; exact Tryz.underlying3, fun e => (by cases e), fun e => (by cases e)⟩
     | succ j =>
      cases j with
      | zero => cases h; cases hf; exact ⟨fun k e => by cases e; exact Tryz.underlying3, fun e => (by cases e), fun e => (by cases e)⟩
      | succ j =>
       cases h), Tryz.t115, rfl, rfl, fun _ _ => rfl⟩
theorem tn116 : TnOk Tryz.prog 116 (.fn [.st [.sl 3 (.int .i64), .sl 3 (.int .i64), .sl 26 (.sl 3 (.int .i64))]] (.bool)) := ⟨⟨_, _, _, Tryz.underlying116⟩, fun _ h => (by cases h), Tryz.t116, rfl, rfl, fun _ h => by cases h⟩
theorem tn122 : TnOk Tryz.prog 122 (.fn [] (.sl 59 (.st [.int .i64, .int .i64, .int .i64, .int .i64]))) := ⟨⟨_, _, _, Tryz.underlying122⟩, fun _ h => (by cases h), Tryz.t122, rfl, rfl, fun _ h => by cases h⟩
theorem tn123 : TnOk Tryz.prog 123 (.st [.int .i64, .int .i64]) := ⟨⟨_, Tryz.underlying123, Tryz.eqGuardType123, Tryz.stoodInHeld123, rfl, fun j τ h => by
    cases j with
    | zero => cases h; exact ⟨_, _, rfl, rfl, by decide, by decide, Tryz.underlying3, rfl, fun us h => by cases h⟩
    | succ j =>
     cases j with
     | zero => cases h; exact ⟨_, _, rfl, rfl, by decide, by decide, Tryz.underlying3, rfl, fun us h => by cases h⟩
     | succ j =>
      cases h⟩, (fun us hus fs hfs j τ h f hf => by
    cases hus
    rw [Tryz.underlying123] at hfs
    cases hfs
    cases j with
    | zero => cases h; cases hf; exact ⟨fun k e => by cases e; exact Tryz.underlying3, fun e => (by cases e), fun e => (by cases e)⟩
    | succ j =>
     cases j with
     | zero => cases h; cases hf; exact ⟨fun k e => by cases e; exact Tryz.underlying3, fun e => (by cases e), fun e => (by cases e)⟩
     | succ j =>
      cases h), Tryz.t123, rfl, rfl, fun _ _ => rfl⟩
theorem tn124 : TnOk Tryz.prog 124 (.st [.int .i64, .int .i64]) := ⟨⟨_, Tryz.underlying124, Tryz.eqGuardType124, Tryz.stoodInHeld124, rfl, fun j τ h => by
    cases j with
    | zero => cases h; exact ⟨_, _, rfl, rfl, by decide, by decide, Tryz.underlying3, rfl, fun us h => by cases h⟩
    | succ j =>
     cases j with
     | zero => cases h; exact ⟨_, _, rfl, rfl, by decide, by decide, Tryz.underlying3, rfl, fun us h => by cases h⟩
     | succ j =>
      cases h⟩, (fun us hus fs hfs j τ h f hf => by
    cases hus
    rw [Tryz.underlying124] at hfs
    cases hfs
    cases j with
    | zero => cases h; cases hf; exact ⟨fun k e => by cases e; exact Tryz.underlying3, fun e => (by cases e), fun e => (by cases e)⟩
    | succ j =>
     cases j with
     | zero => cases h; cases hf; exact ⟨fun k e => by cases e; exact Tryz.underlying3, fun e => (by cases e), fun e => (by cases e)⟩
     | succ j =>
      cases h), Tryz.t124, rfl, rfl, fun _ _ => rfl⟩
theorem tn127 : TnOk Tryz.prog 127 (.st [.int .i64, .int .i64, .bool, .int .i64]) := ⟨⟨_, Tryz.underlying127, Tryz.eqGuardType127, Tryz.stoodInHeld127, rfl, fun j τ h => by
    cases j with
    | zero => cases h; exact ⟨_, _, rfl, rfl, by decide, by decide, Tryz.underlying3, rfl, fun us h => by cases h⟩
    | succ j =>
     cases j with
     | zero => cases h; exact ⟨_, _, rfl, rfl, by decide, by decide, Tryz.underlying3, rfl, fun us h => by cases h⟩
     | succ j =>
      cases j with
      | zero => cases h; exact ⟨_, _, rfl, rfl, by decide, by decide, Tryz.underlying4, rfl, fun us h => by cases h⟩
      | succ j =>
       cases j with
       | zero => cases h; exact ⟨_, _, rfl, rfl, by decide, by decide, Tryz.underlying3, rfl, fun us h => by cases h⟩
       | succ j =>
        cases h⟩, (fun us hus fs hfs j τ h f hf => by
    cases hus
    rw [Tryz.underlying127] at hfs
    cases hfs
    cases j with
    | zero => cases h; cases hf; exact ⟨fun k e => by cases e; exact Tryz.underlying3, fun e => (by cases e), fun e => (by cases e)⟩
    | succ j =>
     cases j with
     | zero => cases h; cases hf; exact ⟨fun k e => by cases e; exact Tryz.underlying3, fun e => (by cases e), fun e => (by cases e)⟩
     | succ j =>
      cases j with
      | zero => cases h; cases hf; exact ⟨fun k e => (by cases e), fun _ => Tryz.underlying4, fun e => (by cases e)⟩
      | succ j =>
       cases j with
       | zero => cases h; cases hf; exact ⟨fun k e => by cases e; exact Tryz.underlying3, fun e => (by cases e), fun e => (by cases e)⟩
       | succ j =>
        cases h), Tryz.t127, rfl, rfl, fun _ _ => rfl⟩
theorem tn128 : TnOk Tryz.prog 128 (.st [.int .i64, .int .i64, .bool, .int .i64]) := ⟨⟨_, Tryz.underlying128, Tryz.eqGuardType128, Tryz.stoodInHeld128, rfl, fun j τ h => by
    cases j with
    | zero => cases h; exact ⟨_, _, rfl, rfl, by decide, by decide, Tryz.underlying3, rfl, fun us h => by cases h⟩
    | succ j =>
     cases j with
     | zero => cases h; exact ⟨_, _, rfl, rfl, by decide, by decide, Tryz.underlying3, rfl, fun us h => by cases h⟩
     | succ j =>
      cases j with
      | zero => cases h; exact ⟨_, _, rfl, rfl, by decide, by decide, Tryz.underlying4, rfl, fun us h => by cases h⟩
      | succ j =>
       cases j with
       | zero => cases h; exact ⟨_, _, rfl, rfl, by decide, by decide, Tryz.underlying3, rfl, fun us h => by cases h⟩
       | succ j =>
        cases h⟩, (fun us hus fs hfs j τ h f hf => by
    cases hus
    rw [Tryz.underlying128] at hfs
    cases hfs
    cases j with
    | zero => cases h; cases hf; exact ⟨fun k e => by cases e; exact Tryz.underlying3, fun e => (by cases e), fun e => (by cases e)⟩
    | succ j =>
     cases j with
     | zero => cases h; cases hf; exact ⟨fun k e => by cases e; exact Tryz.underlying3, fun e => (by cases e), fun e => (by cases e)⟩
     | succ j =>
      cases j with
      | zero => cases h; cases hf; exact ⟨fun k e => (by cases e), fun _ => Tryz.underlying4, fun e => (by cases e)⟩
      | succ j =>
       cases j with
       | zero => cases h; cases hf; exact ⟨fun k e => by cases e; exact Tryz.underlying3, fun e => (by cases e), fun e => (by cases e)⟩
       | succ j =>
        cases h), Tryz.t128, rfl, rfl, fun _ _ => rfl⟩
theorem tn130 : TnOk Tryz.prog 130 (.fn [.sl 124 (.st [.int .i64, .int .i64]), .int .i64] (.int .i64)) := ⟨⟨_, _, _, Tryz.underlying130⟩, fun _ h => (by cases h), Tryz.t130, rfl, rfl, fun _ h => by cases h⟩
theorem tn132 : TnOk Tryz.prog 132 (.fn [.st [.sl 3 (.int .i64), .sl 3 (.int .i64)], .st [.int .i64, .int .i64, .int .i64, .int .i64]] (.bool)) := ⟨⟨_, _, _, Tryz.underlying132⟩, fun _ h => (by cases h), Tryz.t132, rfl, rfl, fun _ h => by cases h⟩
theorem tn136 : TnOk Tryz.prog 136 (.fn [.st [.int .i64, .sl 88 (.st [.str, .int .i64, .sl 153 (.st [.int .i64, .sl 3 (.int .i64), .sl 3 (.int .i64)])]), .sl 128 (.st [.int .i64, .int .i64, .bool, .int .i64]), .sl 95 (.st [.sl 124 (.st [.int .i64, .int .i64]), .sl 26 (.sl 3 (.int .i64))]), .sl 3 (.int .i64)], .st [.sl 3 (.int .i64), .sl 3 (.int .i64)]] (.sl 59 (.st [.int .i64, .int .i64, .int .i64, .int .i64]))) := ⟨⟨_, _, _, Tryz.underlying136⟩, fun _ h => (by cases h), Tryz.t136, rfl, rfl, fun _ h => by cases h⟩
theorem tn152 : TnOk Tryz.prog 152 (.st [.int .i64, .sl 3 (.int .i64), .sl 3 (.int .i64)]) := ⟨⟨_, Tryz.underlying152, Tryz.eqGuardType152, Tryz.stoodInHeld152, rfl, fun j τ h => by
    cases j with
    | zero => cases h; exact ⟨_, _, rfl, rfl, by decide, by decide, Tryz.underlying3, rfl, fun us h => by cases h⟩
    | succ j =>
     cases j with
     | zero => cases h; exact ⟨_, _, rfl, rfl, by decide, by decide, Tryz.underlying26, rfl, fun us h => by cases h⟩
     | succ j =>
      cases j with
      | zero => cases h; exact ⟨_, _, rfl, rfl, by decide, by decide, Tryz.underlying26, rfl, fun us h => by cases h⟩
      | succ j =>
       cases h⟩, (fun us hus fs hfs j τ h f hf => by
    cases hus
    rw [Tryz.underlying152] at hfs
    cases hfs
    cases j with
    | zero => cases h; cases hf; exact ⟨fun k e => by cases e; exact Tryz.underlying3, fun e => (by cases e), fun e => (by cases e)⟩
    | succ j =>
     cases j with
     | zero => cases h; cases hf; exact ⟨fun k e => (by cases e), fun e => (by cases e), fun e => (by cases e)⟩
     | succ j =>
      cases j with
      | zero => cases h; cases hf; exact ⟨fun k e => (by cases e), fun e => (by cases e), fun e => (by cases e)⟩
      | succ j =>
       cases h), Tryz.t152, rfl, rfl, fun _ _ => rfl⟩
theorem tn153 : TnOk Tryz.prog 153 (.st [.int .i64, .sl 3 (.int .i64), .sl 3 (.int .i64)]) := ⟨⟨_, Tryz.underlying153, Tryz.eqGuardType153, Tryz.stoodInHeld153, rfl, fun j τ h => by
    cases j with
    | zero => cases h; exact ⟨_, _, rfl, rfl, by decide, by decide, Tryz.underlying3, rfl, fun us h => by cases h⟩
    | succ j =>
     cases j with
     | zero => cases h; exact ⟨_, _, rfl, rfl, by decide, by decide, Tryz.underlying26, rfl, fun us h => by cases h⟩
     | succ j =>
      cases j with
      | zero => cases h; exact ⟨_, _, rfl, rfl, by decide, by decide, Tryz.underlying26, rfl, fun us h => by cases h⟩
      | succ j =>
       cases h⟩, (fun us hus fs hfs j τ h f hf => by
    cases hus
    rw [Tryz.underlying153] at hfs
    cases hfs
    cases j with
    | zero => cases h; cases hf; exact ⟨fun k e => by cases e; exact Tryz.underlying3, fun e => (by cases e), fun e => (by cases e)⟩
    | succ j =>
     cases j with
     | zero => cases h; cases hf; exact ⟨fun k e => (by cases e), fun e => (by cases e), fun e => (by cases e)⟩
     | succ j =>
      cases j with
      | zero => cases h; cases hf; exact ⟨fun k e => (by cases e), fun e => (by cases e), fun e => (by cases e)⟩
      | succ j =>
       cases h), Tryz.t153, rfl, rfl, fun _ _ => rfl⟩
theorem tn155 : TnOk Tryz.prog 155 (.fn [.st [.str, .int .i64, .sl 153 (.st [.int .i64, .sl 3 (.int .i64), .sl 3 (.int .i64)])], .int .i64, .int .i64] (.bool)) := ⟨⟨_, _, _, Tryz.underlying155⟩, fun _ h => (by cases h), Tryz.t155, rfl, rfl, fun _ h => by cases h⟩
theorem tn156 : TnOk Tryz.prog 156 (.fn [.st [.int .i64, .sl 88 (.st [.str, .int .i64, .sl 153 (.st [.int .i64, .sl 3 (.int .i64), .sl 3 (.int .i64)])]), .sl 128 (.st [.int .i64, .int .i64, .bool, .int .i64]), .sl 95 (.st [.sl 124 (.st [.int .i64, .int .i64]), .sl 26 (.sl 3 (.int .i64))]), .sl 3 (.int .i64)], .str] (.int .i64)) := ⟨⟨_, _, _, Tryz.underlying156⟩, fun _ h => (by cases h), Tryz.t156, rfl, rfl, fun _ h => by cases h⟩
theorem tn157 : TnOk Tryz.prog 157 (.fn [.st [.sl 124 (.st [.int .i64, .int .i64]), .sl 26 (.sl 3 (.int .i64))]] (.bool)) := ⟨⟨_, _, _, Tryz.underlying157⟩, fun _ h => (by cases h), Tryz.t157, rfl, rfl, fun _ h => by cases h⟩
theorem tn158 : TnOk Tryz.prog 158 (.fn [.sl 128 (.st [.int .i64, .int .i64, .bool, .int .i64]), .fn [.st [.int .i64, .int .i64, .bool, .int .i64]] (.bool)] (.bool)) := ⟨⟨_, _, _, Tryz.underlying158⟩, fun _ h => (by cases h), Tryz.t158, rfl, rfl, fun _ h => by cases h⟩
theorem tn159 : TnOk Tryz.prog 159 (.fn [.st [.int .i64, .int .i64, .bool, .int .i64]] (.bool)) := ⟨⟨_, _, _, Tryz.underlying159⟩, fun _ h => (by cases h), Tryz.t159, rfl, rfl, fun _ h => by cases h⟩
theorem tn160 : TnOk Tryz.prog 160 (.fn [.ptr (.st [.sl 5 (.int .u8), .int .i64, .int .i64])] (.sl 124 (.st [.int .i64, .int .i64]))) := ⟨⟨_, _, _, Tryz.underlying160⟩, fun _ h => (by cases h), Tryz.t160, rfl, rfl, fun _ h => by cases h⟩
theorem tn161 : TnOk Tryz.prog 161 (.fn [.ptr (.st [.sl 5 (.int .u8), .int .i64, .int .i64]), .int .i64] (.bool)) := ⟨⟨_, _, _, Tryz.underlying161⟩, fun _ h => (by cases h), Tryz.t161, rfl, rfl, fun _ h => by cases h⟩
theorem tn162 : TnOk Tryz.prog 162 (.fn [.ptr (.st [.sl 5 (.int .u8), .int .i64, .int .i64]), .int .i64, .int .i64, .int .i64] (.st [.str, .int .i64, .sl 153 (.st [.int .i64, .sl 3 (.int .i64), .sl 3 (.int .i64)])])) := ⟨⟨_, _, _, Tryz.underlying162⟩, fun _ h => (by cases h), Tryz.t162, rfl, rfl, fun _ h => by cases h⟩
theorem tn163 : TnOk Tryz.prog 163 (.fn [.ptr (.st [.sl 5 (.int .u8), .int .i64, .int .i64])] (.int .i64)) := ⟨⟨_, _, _, Tryz.underlying163⟩, fun _ h => (by cases h), Tryz.t163, rfl, rfl, fun _ h => by cases h⟩
theorem tn164 : TnOk Tryz.prog 164 (.fn [.st [.sl 3 (.int .i64), .sl 3 (.int .i64)], .int .i64] (.st [.int .i64, .sl 3 (.int .i64), .sl 3 (.int .i64)])) := ⟨⟨_, _, _, Tryz.underlying164⟩, fun _ h => (by cases h), Tryz.t164, rfl, rfl, fun _ h => by cases h⟩
theorem tn165 : TnOk Tryz.prog 165 (.fn [.st [.str, .int .i64, .sl 153 (.st [.int .i64, .sl 3 (.int .i64), .sl 3 (.int .i64)])], .sl 3 (.int .i64)] (.int .i64)) := ⟨⟨_, _, _, Tryz.underlying165⟩, fun _ h => (by cases h), Tryz.t165, rfl, rfl, fun _ h => by cases h⟩
theorem tn166 : TnOk Tryz.prog 166 (.fn [.st [.str, .int .i64, .sl 153 (.st [.int .i64, .sl 3 (.int .i64), .sl 3 (.int .i64)])], .sl 3 (.int .i64), .int .i64] (.int .i64)) := ⟨⟨_, _, _, Tryz.underlying166⟩, fun _ h => (by cases h), Tryz.t166, rfl, rfl, fun _ h => by cases h⟩
theorem tn167 : TnOk Tryz.prog 167 (.fn [.sl 3 (.int .i64), .int .i64, .fn [.int .i64, .int .i64] (.int .i64)] (.tup [])) := ⟨⟨_, _, _, Tryz.underlying167⟩, fun _ h => (by cases h), Tryz.t167, rfl, rfl, fun _ h => by cases h⟩
theorem tn170 : TnOk Tryz.prog 170 (.fn [.sl 26 (.sl 3 (.int .i64)), .fn [.sl 3 (.int .i64)] (.bool)] (.bool)) := ⟨⟨_, _, _, Tryz.underlying170⟩, fun _ h => (by cases h), Tryz.t170, rfl, rfl, fun _ h => by cases h⟩
theorem tn173 : TnOk Tryz.prog 173 (.fn [.sl 124 (.st [.int .i64, .int .i64]), .int .i64, .int .i64] (.int .i64)) := ⟨⟨_, _, _, Tryz.underlying173⟩, fun _ h => (by cases h), Tryz.t173, rfl, rfl, fun _ h => by cases h⟩
theorem tn174 : TnOk Tryz.prog 174 (.fn [.st [.sl 3 (.int .i64), .sl 3 (.int .i64)], .st [.int .i64, .int .i64, .bool, .int .i64]] (.bool)) := ⟨⟨_, _, _, Tryz.underlying174⟩, fun _ h => (by cases h), Tryz.t174, rfl, rfl, fun _ h => by cases h⟩
theorem tn175 : TnOk Tryz.prog 175 (.fn [.st [.sl 3 (.int .i64), .sl 3 (.int .i64)], .int .i64, .int .i64] (.int .i64)) := ⟨⟨_, _, _, Tryz.underlying175⟩, fun _ h => (by cases h), Tryz.t175, rfl, rfl, fun _ h => by cases h⟩
theorem tn176 : TnOk Tryz.prog 176 (.fn [.st [.sl 3 (.int .i64), .sl 3 (.int .i64)], .int .i64, .int .i64, .int .i64] (.int .i64)) := ⟨⟨_, _, _, Tryz.underlying176⟩, fun _ h => (by cases h), Tryz.t176, rfl, rfl, fun _ h => by cases h⟩
theorem tn177 : TnOk Tryz.prog 177 (.fn [.st [.sl 3 (.int .i64), .sl 3 (.int .i64)], .int .i64, .int .i64, .int .i64] (.bool)) := ⟨⟨_, _, _, Tryz.underlying177⟩, fun _ h => (by cases h), Tryz.t177, rfl, rfl, fun _ h => by cases h⟩
theorem tn184 : TnOk Tryz.prog 184 (.int .u64) := ⟨Tryz.underlying184, fun _ h => (by cases h), Tryz.t184, rfl, rfl, fun _ _ => rfl⟩
theorem tn187 : TnOk Tryz.prog 187 (.fn [.st [.int .i64, .sl 3 (.int .i64), .sl 3 (.int .i64)], .int .i64, .int .i64] (.bool)) := ⟨⟨_, _, _, Tryz.underlying187⟩, fun _ h => (by cases h), Tryz.t187, rfl, rfl, fun _ h => by cases h⟩
theorem tn188 : TnOk Tryz.prog 188 (.fn [.str] (.bool)) := ⟨⟨_, _, _, Tryz.underlying188⟩, fun _ h => (by cases h), Tryz.t188, rfl, rfl, fun _ h => by cases h⟩
theorem tn189 : TnOk Tryz.prog 189 (.fn [.sl 88 (.st [.str, .int .i64, .sl 153 (.st [.int .i64, .sl 3 (.int .i64), .sl 3 (.int .i64)])]), .fn [.st [.str, .int .i64, .sl 153 (.st [.int .i64, .sl 3 (.int .i64), .sl 3 (.int .i64)])]] (.bool)] (.int .i64)) := ⟨⟨_, _, _, Tryz.underlying189⟩, fun _ h => (by cases h), Tryz.t189, rfl, rfl, fun _ h => by cases h⟩
theorem tn190 : TnOk Tryz.prog 190 (.fn [.st [.str, .int .i64, .sl 153 (.st [.int .i64, .sl 3 (.int .i64), .sl 3 (.int .i64)])]] (.bool)) := ⟨⟨_, _, _, Tryz.underlying190⟩, fun _ h => (by cases h), Tryz.t190, rfl, rfl, fun _ h => by cases h⟩
theorem tn191 : TnOk Tryz.prog 191 (.fn [.sl 124 (.st [.int .i64, .int .i64])] (.bool)) := ⟨⟨_, _, _, Tryz.underlying191⟩, fun _ h => (by cases h), Tryz.t191, rfl, rfl, fun _ h => by cases h⟩
theorem tn192 : TnOk Tryz.prog 192 (.fn [.sl 128 (.st [.int .i64, .int .i64, .bool, .int .i64]), .fn [.st [.int .i64, .int .i64, .bool, .int .i64]] (.bool)] (.int .i64)) := ⟨⟨_, _, _, Tryz.underlying192⟩, fun _ h => (by cases h), Tryz.t192, rfl, rfl, fun _ h => by cases h⟩
theorem tn193 : TnOk Tryz.prog 193 (.fn [.ptr (.st [.sl 5 (.int .u8), .int .i64, .int .i64]), .int .i64] (.str)) := ⟨⟨_, _, _, Tryz.underlying193⟩, fun _ h => (by cases h), Tryz.t193, rfl, rfl, fun _ h => by cases h⟩
theorem tn194 : TnOk Tryz.prog 194 (.fn [.sl 3 (.int .i64), .int .i64] (.int .i64)) := ⟨⟨_, _, _, Tryz.underlying194⟩, fun _ h => (by cases h), Tryz.t194, rfl, rfl, fun _ h => by cases h⟩
theorem tn195 : TnOk Tryz.prog 195 (.fn [.st [.str, .int .i64, .sl 153 (.st [.int .i64, .sl 3 (.int .i64), .sl 3 (.int .i64)])], .sl 3 (.int .i64)] (.sl 153 (.st [.int .i64, .sl 3 (.int .i64), .sl 3 (.int .i64)]))) := ⟨⟨_, _, _, Tryz.underlying195⟩, fun _ h => (by cases h), Tryz.t195, rfl, rfl, fun _ h => by cases h⟩
theorem tn196 : TnOk Tryz.prog 196 (.fn [.sl 153 (.st [.int .i64, .sl 3 (.int .i64), .sl 3 (.int .i64)]), .fn [.st [.int .i64, .sl 3 (.int .i64), .sl 3 (.int .i64)]] (.tup [.int .i64, .bool])] (.int .i64)) := ⟨⟨_, _, _, Tryz.underlying196⟩, fun _ h => (by cases h), Tryz.t196, rfl, rfl, fun _ h => by cases h⟩
theorem tn197 : TnOk Tryz.prog 197 (.fn [.sl 3 (.int .i64), .int .i64] (.tup [.int .i64, .bool])) := ⟨⟨_, _, _, Tryz.underlying197⟩, fun _ h => (by cases h), Tryz.t197, rfl, rfl, fun _ h => by cases h⟩
theorem tn198 : TnOk Tryz.prog 198 (.fn [.st [.int .i64, .sl 3 (.int .i64), .sl 3 (.int .i64)]] (.tup [.int .i64, .bool])) := ⟨⟨_, _, _, Tryz.underlying198⟩, fun _ h => (by cases h), Tryz.t198, rfl, rfl, fun _ h => by cases h⟩
theorem tn199 : TnOk Tryz.prog 199 (.fn [.sl 3 (.int .i64), .int .i64, .int .i64, .fn [.int .i64, .int .i64] (.int .i64)] (.tup [])) := ⟨⟨_, _, _, Tryz.underlying199⟩, fun _ h => (by cases h), Tryz.t199, rfl, rfl, fun _ h => by cases h⟩
theorem tn200 : TnOk Tryz.prog 200 (.fn [.sl 3 (.int .i64), .int .i64, .int .i64, .int .i64, .fn [.int .i64, .int .i64] (.int .i64)] (.tup [])) := ⟨⟨_, _, _, Tryz.underlying200⟩, fun _ h => (by cases h), Tryz.t200, rfl, rfl, fun _ h => by cases h⟩
theorem tn201 : TnOk Tryz.prog 201 (.fn [.sl 26 (.sl 3 (.int .i64)), .fn [.sl 3 (.int .i64)] (.bool)] (.int .i64)) := ⟨⟨_, _, _, Tryz.underlying201⟩, fun _ h => (by cases h), Tryz.t201, rfl, rfl, fun _ h => by cases h⟩
theorem tn203 : TnOk Tryz.prog 203 (.fn [.st [.sl 3 (.int .i64), .sl 3 (.int .i64)], .int .i64] (.sl 3 (.int .i64))) := ⟨⟨_, _, _, Tryz.underlying203⟩, fun _ h => (by cases h), Tryz.t203, rfl, rfl, fun _ h => by cases h⟩
theorem tn220 : TnOk Tryz.prog 220 (.sl 9 (.str)) := ⟨⟨Tryz.underlying220, Tryz.t9, _, rfl, rfl, rfl, rfl, by decide, by decide, fun _ _ => rfl, fun k h => by cases h⟩, fun _ h => (by cases h), Tryz.t220, rfl, rfl, fun _ _ => rfl⟩
def sg_ (h : Hd) (f : Ty.dens h.ps → Ty.dens h.cs → Option (h.R.den × ioT h.ps h.io)) : FSig := ⟨h.ps, h.cs, h.io, h.im, h.R, h.m, f⟩
theorem e_k {M : Go.Program} {n : Go.FuncId} {a b : FSig} (e : a = b) (h : SigOk M n a) : SigOk M n b := e ▸ h
def y_6 : Ty := .st [.sl 3 (.int .i64), .sl 3 (.int .i64)]
def y_5 : Ty := .st [.int .i64, .int .i64, .bool, .int .i64]
def y_4 : Ty := .st [.int .i64, .sl 3 (.int .i64), .sl 3 (.int .i64)]
def y_2 : Ty := .st [.sl 124 (.st [.int .i64, .int .i64]), .sl 26 (.sl 3 (.int .i64))]
def y_3 : Ty := .st [.sl 3 (.int .i64), .sl 3 (.int .i64), .sl 26 (.sl 3 (.int .i64))]
def y_1 : Ty := .st [.str, .int .i64, .sl 153 (y_4)]
def y_0 : Ty := .st [.int .i64, .sl 88 (y_1), .sl 128 (y_5), .sl 95 (y_2), .sl 3 (.int .i64)]
def tys : List (Nat × Ty) := [(3, .int .i64), (4, .bool), (5, .int .u8), (9, .str), (22, .sl 5 (.int .u8)), (23, .sl 88 (.st [.str, .int .i64, .sl 153 (.st [.int .i64, .sl 3 (.int .i64), .sl 3 (.int .i64)])])), (24, .sl 128 (.st [.int .i64, .int .i64, .bool, .int .i64])), (25, .sl 95 (.st [.sl 124 (.st [.int .i64, .int .i64]), .sl 26 (.sl 3 (.int .i64))])), (26, .sl 3 (.int .i64)), (27, .st [.int .i64, .sl 88 (.st [.str, .int .i64, .sl 153 (.st [.int .i64, .sl 3 (.int .i64), .sl 3 (.int .i64)])]), .sl 128 (.st [.int .i64, .int .i64, .bool, .int .i64]), .sl 95 (.st [.sl 124 (.st [.int .i64, .int .i64]), .sl 26 (.sl 3 (.int .i64))]), .sl 3 (.int .i64)]), (28, .st [.int .i64, .sl 88 (.st [.str, .int .i64, .sl 153 (.st [.int .i64, .sl 3 (.int .i64), .sl 3 (.int .i64)])]), .sl 128 (.st [.int .i64, .int .i64, .bool, .int .i64]), .sl 95 (.st [.sl 124 (.st [.int .i64, .int .i64]), .sl 26 (.sl 3 (.int .i64))]), .sl 3 (.int .i64)]), (29, .sl 26 (.sl 3 (.int .i64))), (30, .st [.sl 3 (.int .i64), .sl 3 (.int .i64), .sl 26 (.sl 3 (.int .i64))]), (31, .st [.sl 3 (.int .i64), .sl 3 (.int .i64), .sl 26 (.sl 3 (.int .i64))]), (33, .fn [.sl 5 (.int .u8)] (.tup [.st [.int .i64, .sl 88 (.st [.str, .int .i64, .sl 153 (.st [.int .i64, .sl 3 (.int .i64), .sl 3 (.int .i64)])]), .sl 128 (.st [.int .i64, .int .i64, .bool, .int .i64]), .sl 95 (.st [.sl 124 (.st [.int .i64, .int .i64]), .sl 26 (.sl 3 (.int .i64))]), .sl 3 (.int .i64)], .st [.sl 3 (.int .i64), .sl 3 (.int .i64), .sl 26 (.sl 3 (.int .i64))]])), (34, .fn [.st [.int .i64, .sl 88 (.st [.str, .int .i64, .sl 153 (.st [.int .i64, .sl 3 (.int .i64), .sl 3 (.int .i64)])]), .sl 128 (.st [.int .i64, .int .i64, .bool, .int .i64]), .sl 95 (.st [.sl 124 (.st [.int .i64, .int .i64]), .sl 26 (.sl 3 (.int .i64))]), .sl 3 (.int .i64)], .st [.sl 3 (.int .i64), .sl 3 (.int .i64), .sl 26 (.sl 3 (.int .i64))]] (.bool)), (35, .fn [.st [.int .i64, .sl 88 (.st [.str, .int .i64, .sl 153 (.st [.int .i64, .sl 3 (.int .i64), .sl 3 (.int .i64)])]), .sl 128 (.st [.int .i64, .int .i64, .bool, .int .i64]), .sl 95 (.st [.sl 124 (.st [.int .i64, .int .i64]), .sl 26 (.sl 3 (.int .i64))]), .sl 3 (.int .i64)], .int .i64] (.bool)), (36, .sl 39 (.st [.sl 3 (.int .i64), .sl 3 (.int .i64)])), (37, .fn [.st [.int .i64, .sl 88 (.st [.str, .int .i64, .sl 153 (.st [.int .i64, .sl 3 (.int .i64), .sl 3 (.int .i64)])]), .sl 128 (.st [.int .i64, .int .i64, .bool, .int .i64]), .sl 95 (.st [.sl 124 (.st [.int .i64, .int .i64]), .sl 26 (.sl 3 (.int .i64))]), .sl 3 (.int .i64)], .int .i64] (.sl 39 (.st [.sl 3 (.int .i64), .sl 3 (.int .i64)]))), (38, .st [.sl 3 (.int .i64), .sl 3 (.int .i64)]), (39, .st [.sl 3 (.int .i64), .sl 3 (.int .i64)]), (40, .fn [.st [.sl 3 (.int .i64), .sl 3 (.int .i64), .sl 26 (.sl 3 (.int .i64))], .st [.sl 3 (.int .i64), .sl 3 (.int .i64)]] (.bool)), (41, .fn [.st [.int .i64, .sl 88 (.st [.str, .int .i64, .sl 153 (.st [.int .i64, .sl 3 (.int .i64), .sl 3 (.int .i64)])]), .sl 128 (.st [.int .i64, .int .i64, .bool, .int .i64]), .sl 95 (.st [.sl 124 (.st [.int .i64, .int .i64]), .sl 26 (.sl 3 (.int .i64))]), .sl 3 (.int .i64)], .st [.sl 3 (.int .i64), .sl 3 (.int .i64), .sl 26 (.sl 3 (.int .i64))], .int .i64, .int .i64, .int .i64] (.bool)), (42, .fn [.st [.int .i64, .sl 88 (.st [.str, .int .i64, .sl 153 (.st [.int .i64, .sl 3 (.int .i64), .sl 3 (.int .i64)])]), .sl 128 (.st [.int .i64, .int .i64, .bool, .int .i64]), .sl 95 (.st [.sl 124 (.st [.int .i64, .int .i64]), .sl 26 (.sl 3 (.int .i64))]), .sl 3 (.int .i64)], .st [.sl 3 (.int .i64), .sl 3 (.int .i64), .sl 26 (.sl 3 (.int .i64))], .int .i64, .int .i64, .int .i64] (.int .i64)), (43, .fn [.st [.int .i64, .sl 88 (.st [.str, .int .i64, .sl 153 (.st [.int .i64, .sl 3 (.int .i64), .sl 3 (.int .i64)])]), .sl 128 (.st [.int .i64, .int .i64, .bool, .int .i64]), .sl 95 (.st [.sl 124 (.st [.int .i64, .int .i64]), .sl 26 (.sl 3 (.int .i64))]), .sl 3 (.int .i64)], .st [.sl 3 (.int .i64), .sl 3 (.int .i64)], .int .i64] (.int .i64)), (44, .fn [.st [.int .i64, .sl 88 (.st [.str, .int .i64, .sl 153 (.st [.int .i64, .sl 3 (.int .i64), .sl 3 (.int .i64)])]), .sl 128 (.st [.int .i64, .int .i64, .bool, .int .i64]), .sl 95 (.st [.sl 124 (.st [.int .i64, .int .i64]), .sl 26 (.sl 3 (.int .i64))]), .sl 3 (.int .i64)], .st [.sl 3 (.int .i64), .sl 3 (.int .i64), .sl 26 (.sl 3 (.int .i64))], .int .i64] (.int .i64)), (45, .fn [.st [.int .i64, .sl 88 (.st [.str, .int .i64, .sl 153 (.st [.int .i64, .sl 3 (.int .i64), .sl 3 (.int .i64)])]), .sl 128 (.st [.int .i64, .int .i64, .bool, .int .i64]), .sl 95 (.st [.sl 124 (.st [.int .i64, .int .i64]), .sl 26 (.sl 3 (.int .i64))]), .sl 3 (.int .i64)], .st [.sl 3 (.int .i64), .sl 3 (.int .i64)]] (.int .i64)), (46, .fn [.st [.int .i64, .sl 88 (.st [.str, .int .i64, .sl 153 (.st [.int .i64, .sl 3 (.int .i64), .sl 3 (.int .i64)])]), .sl 128 (.st [.int .i64, .int .i64, .bool, .int .i64]), .sl 95 (.st [.sl 124 (.st [.int .i64, .int .i64]), .sl 26 (.sl 3 (.int .i64))]), .sl 3 (.int .i64)], .st [.sl 3 (.int .i64), .sl 3 (.int .i64), .sl 26 (.sl 3 (.int .i64))], .int .i64] (.sl 3 (.int .i64))), (47, .fn [.st [.int .i64, .sl 88 (.st [.str, .int .i64, .sl 153 (.st [.int .i64, .sl 3 (.int .i64), .sl 3 (.int .i64)])]), .sl 128 (.st [.int .i64, .int .i64, .bool, .int .i64]), .sl 95 (.st [.sl 124 (.st [.int .i64, .int .i64]), .sl 26 (.sl 3 (.int .i64))]), .sl 3 (.int .i64)], .int .i64, .int .i64, .int .i64] (.int .i64)), (48, .fn [.sl 5 (.int .u8)] (.bool)), (56, .sl 59 (.st [.int .i64, .int .i64, .int .i64, .int .i64])), (58, .st [.int .i64, .int .i64, .int .i64, .int .i64]), (59, .st [.int .i64, .int .i64, .int .i64, .int .i64]), (71, .fn [.st [.int .i64, .sl 88 (.st [.str, .int .i64, .sl 153 (.st [.int .i64, .sl 3 (.int .i64), .sl 3 (.int .i64)])]), .sl 128 (.st [.int .i64, .int .i64, .bool, .int .i64]), .sl 95 (.st [.sl 124 (.st [.int .i64, .int .i64]), .sl 26 (.sl 3 (.int .i64))]), .sl 3 (.int .i64)]] (.bool)), (75, .fn [.st [.int .i64, .sl 88 (.st [.str, .int .i64, .sl 153 (.st [.int .i64, .sl 3 (.int .i64), .sl 3 (.int .i64)])]), .sl 128 (.st [.int .i64, .int .i64, .bool, .int .i64]), .sl 95 (.st [.sl 124 (.st [.int .i64, .int .i64]), .sl 26 (.sl 3 (.int .i64))]), .sl 3 (.int .i64)], .st [.sl 3 (.int .i64), .sl 3 (.int .i64)]] (.bool)), (80, .fn [.sl 3 (.int .i64), .sl 3 (.int .i64)] (.bool)), (81, .fn [.sl 3 (.int .i64)] (.sl 3 (.int .i64))), (82, .fn [.int .i64] (.sl 3 (.int .i64))), (86, .sl 153 (.st [.int .i64, .sl 3 (.int .i64), .sl 3 (.int .i64)])), (87, .st [.str, .int .i64, .sl 153 (.st [.int .i64, .sl 3 (.int .i64), .sl 3 (.int .i64)])]), (88, .st [.str, .int .i64, .sl 153 (.st [.int .i64, .sl 3 (.int .i64), .sl 3 (.int .i64)])]), (89, .ptr (.st [.sl 5 (.int .u8), .int .i64, .int .i64])), (90, .fn [.sl 5 (.int .u8)] (.ptr (.st [.sl 5 (.int .u8), .int .i64, .int .i64]))), (91, .fn [.ptr (.st [.sl 5 (.int .u8), .int .i64, .int .i64]), .int .i64] (.st [.int .i64, .sl 88 (.st [.str, .int .i64, .sl 153 (.st [.int .i64, .sl 3 (.int .i64), .sl 3 (.int .i64)])]), .sl 128 (.st [.int .i64, .int .i64, .bool, .int .i64]), .sl 95 (.st [.sl 124 (.st [.int .i64, .int .i64]), .sl 26 (.sl 3 (.int .i64))]), .sl 3 (.int .i64)])), (92, .fn [.ptr (.st [.sl 5 (.int .u8), .int .i64, .int .i64])] (.sl 26 (.sl 3 (.int .i64)))), (93, .sl 124 (.st [.int .i64, .int .i64])), (94, .st [.sl 124 (.st [.int .i64, .int .i64]), .sl 26 (.sl 3 (.int .i64))]), (95, .st [.sl 124 (.st [.int .i64, .int .i64]), .sl 26 (.sl 3 (.int .i64))]), (96, .fn [.st [.int .i64, .sl 88 (.st [.str, .int .i64, .sl 153 (.st [.int .i64, .sl 3 (.int .i64), .sl 3 (.int .i64)])]), .sl 128 (.st [.int .i64, .int .i64, .bool, .int .i64]), .sl 95 (.st [.sl 124 (.st [.int .i64, .int .i64]), .sl 26 (.sl 3 (.int .i64))]), .sl 3 (.int .i64)]] (.st [.sl 3 (.int .i64), .sl 3 (.int .i64), .sl 26 (.sl 3 (.int .i64))])), (97, .fn [.ptr (.st [.sl 5 (.int .u8), .int .i64, .int .i64]), .int .i64] (.int .i64)), (98, .fn [.int .i64, .int .i64] (.int .i64)), (99, .fn [.int .i64] (.bool)), (100, .fn [.sl 3 (.int .i64)] (.bool)), (101, .fn [.st [.str, .int .i64, .sl 153 (.st [.int .i64, .sl 3 (.int .i64), .sl 3 (.int .i64)])]] (.sl 3 (.int .i64))), (102, .fn [.int .i64, .int .i64, .int .i64] (.bool)), (103, .fn [.st [.int .i64, .sl 88 (.st [.str, .int .i64, .sl 153 (.st [.int .i64, .sl 3 (.int .i64), .sl 3 (.int .i64)])]), .sl 128 (.st [.int .i64, .int .i64, .bool, .int .i64]), .sl 95 (.st [.sl 124 (.st [.int .i64, .int .i64]), .sl 26 (.sl 3 (.int .i64))]), .sl 3 (.int .i64)]] (.sl 26 (.sl 3 (.int .i64)))), (104, .fn [.int .i64, .int .i64] (.sl 26 (.sl 3 (.int .i64)))), (105, .fn [] (.st [.sl 3 (.int .i64), .sl 3 (.int .i64)])), (106, .fn [.sl 3 (.int .i64), .int .i64] (.bool)), (107, .fn [.st [.sl 3 (.int .i64), .sl 3 (.int .i64), .sl 26 (.sl 3 (.int .i64))], .int .i64, .int .i64, .int .i64] (.int .i64)), (108, .fn [.st [.sl 3 (.int .i64), .sl 3 (.int .i64)], .int .i64] (.int .i64)), (109, .fn [.st [.sl 3 (.int .i64), .sl 3 (.int .i64), .sl 26 (.sl 3 (.int .i64))], .int .i64] (.int .i64)), (110, .fn [.st [.int .i64, .sl 88 (.st [.str, .int .i64, .sl 153 (.st [.int .i64, .sl 3 (.int .i64), .sl 3 (.int .i64)])]), .sl 128 (.st [.int .i64, .int .i64, .bool, .int .i64]), .sl 95 (.st [.sl 124 (.st [.int .i64, .int .i64]), .sl 26 (.sl 3 (.int .i64))]), .sl 3 (.int .i64)], .st [.sl 3 (.int .i64), .sl 3 (.int .i64), .sl 26 (.sl 3 (.int .i64))], .int .i64] (.bool)), (111, .fn [.sl 3 (.int .i64), .fn [.int .i64] (.bool)] (.sl 3 (.int .i64))), (112, .fn [.st [.int .i64, .sl 88 (.st [.str, .int .i64, .sl 153 (.st [.int .i64, .sl 3 (.int .i64), .sl 3 (.int .i64)])]), .sl 128 (.st [.int .i64, .int .i64, .bool, .int .i64]), .sl 95 (.st [.sl 124 (.st [.int .i64, .int .i64]), .sl 26 (.sl 3 (.int .i64))]), .sl 3 (.int .i64)], .st [.sl 3 (.int .i64), .sl 3 (.int .i64), .sl 26 (.sl 3 (.int .i64))], .int .i64, .int .i64] (.int .i64)), (113, .fn [.sl 3 (.int .i64), .fn [.int .i64, .int .i64] (.int .i64)] (.tup [])), (114, .st [.sl 5 (.int .u8), .int .i64, .int .i64]), (115, .st [.sl 5 (.int .u8), .int .i64, .int .i64]), (116, .fn [.st [.sl 3 (.int .i64), .sl 3 (.int .i64), .sl 26 (.sl 3 (.int .i64))]] (.bool)), (122, .fn [] (.sl 59 (.st [.int .i64, .int .i64, .int .i64, .int .i64]))), (123, .st [.int .i64, .int .i64]), (124, .st [.int .i64, .int .i64]), (127, .st [.int .i64, .int .i64, .bool, .int .i64]), (128, .st [.int .i64, .int .i64, .bool, .int .i64]), (130, .fn [.sl 124 (.st [.int .i64, .int .i64]), .int .i64] (.int .i64)), (132, .fn [.st [.sl 3 (.int .i64), .sl 3 (.int .i64)], .st [.int .i64, .int .i64, .int .i64, .int .i64]] (.bool)), (136, .fn [.st [.int .i64, .sl 88 (.st [.str, .int .i64, .sl 153 (.st [.int .i64, .sl 3 (.int .i64), .sl 3 (.int .i64)])]), .sl 128 (.st [.int .i64, .int .i64, .bool, .int .i64]), .sl 95 (.st [.sl 124 (.st [.int .i64, .int .i64]), .sl 26 (.sl 3 (.int .i64))]), .sl 3 (.int .i64)], .st [.sl 3 (.int .i64), .sl 3 (.int .i64)]] (.sl 59 (.st [.int .i64, .int .i64, .int .i64, .int .i64]))), (152, .st [.int .i64, .sl 3 (.int .i64), .sl 3 (.int .i64)]), (153, .st [.int .i64, .sl 3 (.int .i64), .sl 3 (.int .i64)]), (155, .fn [.st [.str, .int .i64, .sl 153 (.st [.int .i64, .sl 3 (.int .i64), .sl 3 (.int .i64)])], .int .i64, .int .i64] (.bool)), (156, .fn [.st [.int .i64, .sl 88 (.st [.str, .int .i64, .sl 153 (.st [.int .i64, .sl 3 (.int .i64), .sl 3 (.int .i64)])]), .sl 128 (.st [.int .i64, .int .i64, .bool, .int .i64]), .sl 95 (.st [.sl 124 (.st [.int .i64, .int .i64]), .sl 26 (.sl 3 (.int .i64))]), .sl 3 (.int .i64)], .str] (.int .i64)), (157, .fn [.st [.sl 124 (.st [.int .i64, .int .i64]), .sl 26 (.sl 3 (.int .i64))]] (.bool)), (158, .fn [.sl 128 (.st [.int .i64, .int .i64, .bool, .int .i64]), .fn [.st [.int .i64, .int .i64, .bool, .int .i64]] (.bool)] (.bool)), (159, .fn [.st [.int .i64, .int .i64, .bool, .int .i64]] (.bool)), (160, .fn [.ptr (.st [.sl 5 (.int .u8), .int .i64, .int .i64])] (.sl 124 (.st [.int .i64, .int .i64]))), (161, .fn [.ptr (.st [.sl 5 (.int .u8), .int .i64, .int .i64]), .int .i64] (.bool)), (162, .fn [.ptr (.st [.sl 5 (.int .u8), .int .i64, .int .i64]), .int .i64, .int .i64, .int .i64] (.st [.str, .int .i64, .sl 153 (.st [.int .i64, .sl 3 (.int .i64), .sl 3 (.int .i64)])])), (163, .fn [.ptr (.st [.sl 5 (.int .u8), .int .i64, .int .i64])] (.int .i64)), (164, .fn [.st [.sl 3 (.int .i64), .sl 3 (.int .i64)], .int .i64] (.st [.int .i64, .sl 3 (.int .i64), .sl 3 (.int .i64)])), (165, .fn [.st [.str, .int .i64, .sl 153 (.st [.int .i64, .sl 3 (.int .i64), .sl 3 (.int .i64)])], .sl 3 (.int .i64)] (.int .i64)), (166, .fn [.st [.str, .int .i64, .sl 153 (.st [.int .i64, .sl 3 (.int .i64), .sl 3 (.int .i64)])], .sl 3 (.int .i64), .int .i64] (.int .i64)), (167, .fn [.sl 3 (.int .i64), .int .i64, .fn [.int .i64, .int .i64] (.int .i64)] (.tup [])), (170, .fn [.sl 26 (.sl 3 (.int .i64)), .fn [.sl 3 (.int .i64)] (.bool)] (.bool)), (173, .fn [.sl 124 (.st [.int .i64, .int .i64]), .int .i64, .int .i64] (.int .i64)), (174, .fn [.st [.sl 3 (.int .i64), .sl 3 (.int .i64)], .st [.int .i64, .int .i64, .bool, .int .i64]] (.bool)), (175, .fn [.st [.sl 3 (.int .i64), .sl 3 (.int .i64)], .int .i64, .int .i64] (.int .i64)), (176, .fn [.st [.sl 3 (.int .i64), .sl 3 (.int .i64)], .int .i64, .int .i64, .int .i64] (.int .i64)), (177, .fn [.st [.sl 3 (.int .i64), .sl 3 (.int .i64)], .int .i64, .int .i64, .int .i64] (.bool)), (184, .int .u64), (187, .fn [.st [.int .i64, .sl 3 (.int .i64), .sl 3 (.int .i64)], .int .i64, .int .i64] (.bool)), (188, .fn [.str] (.bool)), (189, .fn [.sl 88 (.st [.str, .int .i64, .sl 153 (.st [.int .i64, .sl 3 (.int .i64), .sl 3 (.int .i64)])]), .fn [.st [.str, .int .i64, .sl 153 (.st [.int .i64, .sl 3 (.int .i64), .sl 3 (.int .i64)])]] (.bool)] (.int .i64)), (190, .fn [.st [.str, .int .i64, .sl 153 (.st [.int .i64, .sl 3 (.int .i64), .sl 3 (.int .i64)])]] (.bool)), (191, .fn [.sl 124 (.st [.int .i64, .int .i64])] (.bool)), (192, .fn [.sl 128 (.st [.int .i64, .int .i64, .bool, .int .i64]), .fn [.st [.int .i64, .int .i64, .bool, .int .i64]] (.bool)] (.int .i64)), (193, .fn [.ptr (.st [.sl 5 (.int .u8), .int .i64, .int .i64]), .int .i64] (.str)), (194, .fn [.sl 3 (.int .i64), .int .i64] (.int .i64)), (195, .fn [.st [.str, .int .i64, .sl 153 (.st [.int .i64, .sl 3 (.int .i64), .sl 3 (.int .i64)])], .sl 3 (.int .i64)] (.sl 153 (.st [.int .i64, .sl 3 (.int .i64), .sl 3 (.int .i64)]))), (196, .fn [.sl 153 (.st [.int .i64, .sl 3 (.int .i64), .sl 3 (.int .i64)]), .fn [.st [.int .i64, .sl 3 (.int .i64), .sl 3 (.int .i64)]] (.tup [.int .i64, .bool])] (.int .i64)), (197, .fn [.sl 3 (.int .i64), .int .i64] (.tup [.int .i64, .bool])), (198, .fn [.st [.int .i64, .sl 3 (.int .i64), .sl 3 (.int .i64)]] (.tup [.int .i64, .bool])), (199, .fn [.sl 3 (.int .i64), .int .i64, .int .i64, .fn [.int .i64, .int .i64] (.int .i64)] (.tup [])), (200, .fn [.sl 3 (.int .i64), .int .i64, .int .i64, .int .i64, .fn [.int .i64, .int .i64] (.int .i64)] (.tup [])), (201, .fn [.sl 26 (.sl 3 (.int .i64)), .fn [.sl 3 (.int .i64)] (.bool)] (.int .i64)), (203, .fn [.st [.sl 3 (.int .i64), .sl 3 (.int .i64)], .int .i64] (.sl 3 (.int .i64))), (220, .sl 9 (.str))]
theorem tysOk : LkAll (TnOk Tryz.prog) tys := ⟨tn3, tn4, tn5, tn9, tn22, tn23, tn24, tn25, tn26, tn27, tn28, tn29, tn30, tn31, tn33, tn34, tn35, tn36, tn37, tn38, tn39, tn40, tn41, tn42, tn43, tn44, tn45, tn46, tn47, tn48, tn56, tn58, tn59, tn71, tn75, tn80, tn81, tn82, tn86, tn87, tn88, tn89, tn90, tn91, tn92, tn93, tn94, tn95, tn96, tn97, tn98, tn99, tn100, tn101, tn102, tn103, tn104, tn105, tn106, tn107, tn108, tn109, tn110, tn111, tn112, tn113, tn114, tn115, tn116, tn122, tn123, tn124, tn127, tn128, tn130, tn132, tn136, tn152, tn153, tn155, tn156, tn157, tn158, tn159, tn160, tn161, tn162, tn163, tn164, tn165, tn166, tn167, tn170, tn173, tn174, tn175, tn176, tn177, tn184, tn187, tn188, tn189, tn190, tn191, tn192, tn193, tn194, tn195, tn196, tn197, tn198, tn199, tn200, tn201, tn203, tn220, trivial⟩
abbrev s_spec_l01New_L0 : Type := (Int × ((List Int) × (Int × Unit)))
def spec_l01New_L0 : s_spec_l01New_L0 → Option (Out s_spec_l01New_L0 ((Bool × s_spec_l01New_L0) ⊕ Empty) (D_l01Cur × Unit)) :=
  (fun v0 => (Option.bind ((if (ltZ v0.1 (lenI v0.2.1)) = true then (some ((ltZ v0.1 4000), (v0.1, (v0.2.1, (v0.2.2.1, ()))))) else (some (false, (v0.1, (v0.2.1, (v0.2.2.1, ())))))) : (Option (Bool × (Int × ((List Int) × (Int × Unit)))))) fun v1 => (if v1.1 = true then (Option.bind (getI v1.2.2.1 v1.2.1) fun v2 => (some (Out.norm ((addZ .i64 v1.2.1 1), (v1.2.2.1, ((bitsI .and .i64 (addZ .i64 (addZ .i64 (mulZ .i64 v1.2.2.2.1 59) (wrapI .i64 v2)) 7) 1073741823), ())))))) else (some (Out.exit (Sum.inl v1))))))
def spec_l01New (x : ((List Int) × Unit)) (c : Unit) : (Option (D_l01Cur × Unit)) :=
  (Option.bind (loopN (A := s_spec_l01New_L0) big spec_l01New_L0 (0, (x.1, ((addZ .i64 1950 (lenI x.1)), ())))) fun v3 => (match v3 with | Out.norm v4 => none | Out.exit v5 => (match ((match v5 with | Sum.inl v8 => (Sum.inl (v8.2.2.1, (v8.2.2.2.1, ()))) | Sum.inr v9 => (Empty.elim v9)) : (((List Int) × (Int × Unit)) ⊕ Empty)) with | Sum.inl v6 => (some ((v6.1, (0, (v6.2.1, ()))), ())) | Sum.inr v7 => none) | Out.ret v10 => (some v10)))
def H_spec_l01New : Hd := ⟨[.sl 5 (.int .u8)], [], none, .p, .ptr (.st [.sl 5 (.int .u8), .int .i64, .int .i64]), (.u (.s .p (.s .p (.s .p .p)))), []⟩
def T_spec_l01New : FSig := sg_ H_spec_l01New spec_l01New
theorem E_spec_l01New : fnOf tys [] Tryz.f64 H_spec_l01New = T_spec_l01New := by kernel_rfl
theorem K_spec_l01New : SigOk Tryz.prog 64 T_spec_l01New := e_k E_spec_l01New (fnOf_ok rfl tysOk trivial Tryz.func64 (by decide) rfl (fun _ h => by cases h) (nilEq_of (by kernel_rfl)))
def spec_l01Byte (x : (D_l01Cur × Unit)) (c : Unit) : (Option (Int × D_l01Cur)) :=
  (Option.bind (shiftI false .i64 (addZ .i64 (mulZ .i64 x.1.2.2.1 6364136223846793005) 1442695040888963407) 33) fun v0 => (Option.bind (shiftI false .i64 (addZ .i64 (mulZ .i64 x.1.2.2.1 6364136223846793005) 1442695040888963407) 45) fun v1 => (Option.bind ((if (ltZ x.1.2.1 (lenI x.1.1)) = true then (Option.bind (getI x.1.1 x.1.2.1) fun v2 => (some (Out.norm ((bitsI .and .i64 (addZ .i64 (bitsI .and .i64 (bitsI .xor .i64 v0 v1) 255) (wrapI .i64 v2)) 255), ((x.1.1, ((addZ .i64 x.1.2.1 1), ((addZ .i64 (mulZ .i64 x.1.2.2.1 6364136223846793005) 1442695040888963407), x.1.2.2.2))), ()))))) else (some (Out.norm ((bitsI .and .i64 (bitsI .xor .i64 v0 v1) 255), ((x.1.1, (x.1.2.1, ((addZ .i64 (mulZ .i64 x.1.2.2.1 6364136223846793005) 1442695040888963407), x.1.2.2.2))), ()))))) : (Option (Out (Int × (D_l01Cur × Unit)) Empty (Int × D_l01Cur)))) fun v3 => (match ((match v3 with | Out.norm v7 => (Out.norm v7) | Out.exit v8 => (Out.exit v8) | Out.ret v9 => (Out.ret v9)) : (Out (Int × (D_l01Cur × Unit)) Empty (Int × D_l01Cur))) with | Out.norm v4 => (some (v4.1, v4.2.1)) | Out.exit v5 => none | Out.ret v6 => (some v6)))))
def H_spec_l01Byte : Hd := ⟨[.ptr (.st [.sl 5 (.int .u8), .int .i64, .int .i64])], [], some 0, (.u (.s .p (.s .p (.s .p .p)))), .int .i64, .p, []⟩
def T_spec_l01Byte : FSig := sg_ H_spec_l01Byte spec_l01Byte
theorem E_spec_l01Byte : fnOf tys [] Tryz.f152 H_spec_l01Byte = T_spec_l01Byte := by kernel_rfl
theorem K_spec_l01Byte : SigOk Tryz.prog 152 T_spec_l01Byte := e_k E_spec_l01Byte (fnOf_ok rfl tysOk trivial Tryz.func152 (by decide) rfl (fun _ h => by cases h; decide) (nilEq_of (by kernel_rfl)))
def spec_l01Below (x : (D_l01Cur × (Int × Unit))) (c : Unit) : (Option (Int × D_l01Cur)) :=
  (if (leZ x.2.1 0) = true then (some (0, x.1)) else (if (leZ x.2.1 256) = true then (Option.bind (spec_l01Byte (x.1, ()) ()) fun v0 => (Option.bind (remZ v0.1 x.2.1) fun v1 => (some (v1, v0.2)))) else (Option.bind (spec_l01Byte (x.1, ()) ()) fun v2 => (Option.bind (spec_l01Byte (v2.2, ()) ()) fun v3 => (Option.bind (spec_l01Byte (v3.2, ()) ()) fun v4 => (Option.bind (spec_l01Byte (v4.2, ()) ()) fun v5 => (Option.bind (remZ (addZ .i64 (addZ .i64 (addZ .i64 (mulZ .i64 v2.1 16777216) (mulZ .i64 v3.1 65536)) (mulZ .i64 v4.1 256)) v5.1) x.2.1) fun v6 => (some (v6, v5.2)))))))))
def H_spec_l01Below : Hd := ⟨[.ptr (.st [.sl 5 (.int .u8), .int .i64, .int .i64]), .int .i64], [], some 0, (.u (.s .p (.s .p (.s .p .p)))), .int .i64, .p, []⟩
def T_spec_l01Below : FSig := sg_ H_spec_l01Below spec_l01Below
def spec_l01Below_G (f152 : (D_l01Cur × Unit) → Unit → Option (Int × D_l01Cur)) (x : (D_l01Cur × (Int × Unit))) (c : Unit) : (Option (Int × D_l01Cur)) :=
  (if (leZ x.2.1 0) = true then (some (0, x.1)) else (if (leZ x.2.1 256) = true then (Option.bind (f152 (x.1, ()) ()) fun v0 => (Option.bind (remZ v0.1 x.2.1) fun v1 => (some (v1, v0.2)))) else (Option.bind (f152 (x.1, ()) ()) fun v2 => (Option.bind (f152 (v2.2, ()) ()) fun v3 => (Option.bind (f152 (v3.2, ()) ()) fun v4 => (Option.bind (f152 (v4.2, ()) ()) fun v5 => (Option.bind (remZ (addZ .i64 (addZ .i64 (addZ .i64 (mulZ .i64 v2.1 16777216) (mulZ .i64 v3.1 65536)) (mulZ .i64 v4.1 256)) v5.1) x.2.1) fun v6 => (some (v6, v5.2)))))))))
theorem E_spec_l01Below_G (f152 : (D_l01Cur × Unit) → Unit → Option (Int × D_l01Cur)) : fnOf tys [(152, ⟨H_spec_l01Byte.ps, H_spec_l01Byte.cs, H_spec_l01Byte.io, H_spec_l01Byte.im, H_spec_l01Byte.R, H_spec_l01Byte.m, f152⟩)] Tryz.f68 H_spec_l01Below = ⟨H_spec_l01Below.ps, H_spec_l01Below.cs, H_spec_l01Below.io, H_spec_l01Below.im, H_spec_l01Below.R, H_spec_l01Below.m, spec_l01Below_G f152⟩ := by kernel_rfl
theorem E_spec_l01Below : fnOf tys [(152, T_spec_l01Byte)] Tryz.f68 H_spec_l01Below = T_spec_l01Below := E_spec_l01Below_G spec_l01Byte
theorem K_spec_l01Below : SigOk Tryz.prog 68 T_spec_l01Below := e_k E_spec_l01Below (fnOf_ok rfl tysOk ⟨K_spec_l01Byte, trivial⟩ Tryz.func68 (by decide) rfl (fun _ h => by cases h; decide) (nilEq_of (by kernel_rfl)))
abbrev s_spec_l05Setup_L0 : Type := (Int × ((List (List Int)) × ((List Int) × (Int × (D_l01Cur × Unit)))))
def spec_l05Setup_L0 : s_spec_l05Setup_L0 → Option (Out s_spec_l05Setup_L0 ((Bool × s_spec_l05Setup_L0) ⊕ Empty) ((List (List Int)) × D_l01Cur)) :=
  (fun v1 => (if (ltZ v1.1 4) = true then (Option.bind ((if (notB (eqZ v1.2.2.2.1 v1.1)) = true then (Option.bind (spec_l01Below (v1.2.2.2.2.1, (3, ())) ()) fun v2 => (some (Out.norm (v1.2.2.1, (v2.1, (v1.1, (v1.2.1, (v1.2.2.2.1, (v2.2, ()))))))))) else (some (Out.norm (v1.2.2.1, (0, (v1.1, (v1.2.1, (v1.2.2.2.1, (v1.2.2.2.2.1, ()))))))))) : (Option (Out ((List Int) × (Int × (Int × ((List (List Int)) × (Int × (D_l01Cur × Unit)))))) Empty ((List (List Int)) × D_l01Cur)))) fun v3 => (match ((match v3 with | Out.norm v10 => (Out.norm v10) | Out.exit v11 => (Out.exit v11) | Out.ret v12 => (Out.ret v12)) : (Out ((List Int) × (Int × (Int × ((List (List Int)) × (Int × (D_l01Cur × Unit)))))) Empty ((List (List Int)) × D_l01Cur))) with | Out.norm v4 => (Option.bind (addI v4.1 (v4.2.1 :: [])) fun v5 => (some (Out.norm ((addZ .i64 v4.2.2.1 1), (v4.2.2.2.1, (v5, (v4.2.2.2.2.1, (v4.2.2.2.2.2.1, ())))))))) | Out.exit v6 => (match ((Empty.elim (Empty.elim v6)) : ((Int × ((List (List Int)) × ((List Int) × (Int × (D_l01Cur × Unit))))) ⊕ Empty)) with | Sum.inl v7 => (some (Out.norm ((addZ .i64 v7.1 1), (v7.2.1, (v7.2.2.1, (v7.2.2.2.1, (v7.2.2.2.2.1, ()))))))) | Sum.inr v8 => (some (Out.exit (Sum.inr (Empty.elim v8))))) | Out.ret v9 => (some (Out.ret v9)))) else (some (Out.exit (Sum.inl ((ltZ v1.1 4), (v1.1, (v1.2.1, (v1.2.2.1, (v1.2.2.2.1, (v1.2.2.2.2.1, ())))))))))))
abbrev s_spec_l05Setup_L1 : Type := (Int × ((List (List Int)) × (D_l01Cur × Unit)))
def spec_l05Setup_L1 : s_spec_l05Setup_L1 → Option (Out s_spec_l05Setup_L1 ((Bool × s_spec_l05Setup_L1) ⊕ Empty) ((List (List Int)) × D_l01Cur)) :=
  (fun v0 => (if (ltZ v0.1 4) = true then (Option.bind (loopN (A := s_spec_l05Setup_L0) big spec_l05Setup_L0 (0, (v0.2.1, ([], (v0.1, (v0.2.2.1, ())))))) fun v13 => (match v13 with | Out.norm v14 => none | Out.exit v15 => (match ((match v15 with | Sum.inl v21 => (Sum.inl (v21.2.2.1, (v21.2.2.2.1, (v21.2.2.2.2.1, (v21.2.2.2.2.2.1, ()))))) | Sum.inr v22 => (Empty.elim v22)) : (((List (List Int)) × ((List Int) × (Int × (D_l01Cur × Unit)))) ⊕ Empty)) with | Sum.inl v16 => (Option.bind (addI v16.1 (v16.2.1 :: [])) fun v17 => (some (Out.norm ((addZ .i64 v16.2.2.1 1), (v17, (v16.2.2.2.1, ())))))) | Sum.inr v18 => (match ((Empty.elim (Empty.elim v18)) : ((Int × ((List (List Int)) × (D_l01Cur × Unit))) ⊕ Empty)) with | Sum.inl v19 => (some (Out.norm ((addZ .i64 v19.1 1), (v19.2.1, (v19.2.2.1, ()))))) | Sum.inr v20 => (some (Out.exit (Sum.inr (Empty.elim v20)))))) | Out.ret v23 => (some (Out.ret v23)))) else (some (Out.exit (Sum.inl ((ltZ v0.1 4), (v0.1, (v0.2.1, (v0.2.2.1, ())))))))))
def spec_l05Setup (x : (D_l01Cur × Unit)) (c : Unit) : (Option ((List (List Int)) × D_l01Cur)) :=
  (Option.bind (loopN (A := s_spec_l05Setup_L1) big spec_l05Setup_L1 (0, ([], (x.1, ())))) fun v24 => (match v24 with | Out.norm v25 => none | Out.exit v26 => (match ((match v26 with | Sum.inl v29 => (Sum.inl (v29.2.2.1, (v29.2.2.2.1, ()))) | Sum.inr v30 => (Empty.elim v30)) : (((List (List Int)) × (D_l01Cur × Unit)) ⊕ Empty)) with | Sum.inl v27 => (some (v27.1, v27.2.1)) | Sum.inr v28 => none) | Out.ret v31 => (some v31)))
def H_spec_l05Setup : Hd := ⟨[.ptr (.st [.sl 5 (.int .u8), .int .i64, .int .i64])], [], some 0, (.u (.s .p (.s .p (.s .p .p)))), .sl 26 (.sl 3 (.int .i64)), (Ty.all (.sl 26 (.sl 3 (.int .i64)))), []⟩
def T_spec_l05Setup : FSig := sg_ H_spec_l05Setup spec_l05Setup
theorem E_spec_l05Setup : fnOf tys [(68, T_spec_l01Below)] Tryz.f66 H_spec_l05Setup = T_spec_l05Setup := by kernel_rfl
theorem K_spec_l05Setup : SigOk Tryz.prog 66 T_spec_l05Setup := e_k E_spec_l05Setup (fnOf_ok rfl tysOk ⟨K_spec_l01Below, trivial⟩ Tryz.func66 (by decide) rfl (fun _ h => by cases h; decide) (nilEq_of (by kernel_rfl)))
abbrev s_spec_l03Draw_L0 : Type := (Int × ((List D_Step) × (D_l01Cur × Unit)))
def spec_l03Draw_L0 : s_spec_l03Draw_L0 → Option (Out s_spec_l03Draw_L0 ((Bool × s_spec_l03Draw_L0) ⊕ Empty) ((List D_Step) × D_l01Cur)) :=
  (fun v3 => (if (ltZ 0 v3.1) = true then (Option.bind ((Option.bind (getI v3.2.1 (subZ .i64 (lenI v3.2.1) 1)) fun v4 => (some ())) : (Option Unit)) fun v5 => (Option.bind ((Option.bind (getI v3.2.1 (subZ .i64 (lenI v3.2.1) 1)) fun v6 => (some v6.1)) : (Option Int)) fun v7 => (Option.bind (spec_l01Below (v3.2.2.1, (9, ())) ()) fun v8 => (Option.bind (spec_l01Below (v8.2, (5, ())) ()) fun v9 => (Option.bind (addI v3.2.1 (((addZ .i64 (addZ .i64 v7 1) v8.1), (v9.1, ())) :: [])) fun v10 => (some (Out.norm ((subZ .i64 v3.1 1), (v10, (v9.2, ())))))))))) else (some (Out.exit (Sum.inl ((ltZ 0 v3.1), (v3.1, (v3.2.1, (v3.2.2.1, ())))))))))
def spec_l03Draw (x : (D_l01Cur × Unit)) (c : Unit) : (Option ((List D_Step) × D_l01Cur)) :=
  (Option.bind (spec_l01Below (x.1, (4, ())) ()) fun v0 => (Option.bind (spec_l01Below (v0.2, (6, ())) ()) fun v1 => (Option.bind (quoZ .i64 v1.1 2) fun v2 => (Option.bind (loopN (A := s_spec_l03Draw_L0) big spec_l03Draw_L0 (v2, (((0, ((addZ .i64 1 v0.1), ())) :: []), (v1.2, ())))) fun v11 => (match v11 with | Out.norm v12 => none | Out.exit v13 => (match ((match v13 with | Sum.inl v16 => (Sum.inl (v16.2.2.1, (v16.2.2.2.1, ()))) | Sum.inr v17 => (Empty.elim v17)) : (((List D_Step) × (D_l01Cur × Unit)) ⊕ Empty)) with | Sum.inl v14 => (some (v14.1, v14.2.1)) | Sum.inr v15 => none) | Out.ret v18 => (some v18))))))
def H_spec_l03Draw : Hd := ⟨[.ptr (.st [.sl 5 (.int .u8), .int .i64, .int .i64])], [], some 0, (.u (.s .p (.s .p (.s .p .p)))), .sl 124 (.st [.int .i64, .int .i64]), (Ty.all (.sl 124 (.st [.int .i64, .int .i64]))), [(3000000026, .p), (3000000029, .p)]⟩
def T_spec_l03Draw : FSig := sg_ H_spec_l03Draw spec_l03Draw
theorem E_spec_l03Draw : fnOf tys [(68, T_spec_l01Below)] Tryz.f147 H_spec_l03Draw = T_spec_l03Draw := by kernel_rfl
theorem K_spec_l03Draw : SigOk Tryz.prog 147 T_spec_l03Draw := e_k E_spec_l03Draw (fnOf_ok rfl tysOk ⟨K_spec_l01Below, trivial⟩ Tryz.func147 (by decide) rfl (fun _ h => by cases h; decide) (nilEq_of (by kernel_rfl)))
def spec_l01Once (x : (D_l01Cur × (Int × Unit))) (c : Unit) : (Option (Bool × D_l01Cur)) :=
  (Option.bind (spec_l01Below (x.1, (x.2.1, ())) ()) fun v0 => (some ((eqZ v0.1 0), v0.2)))
def H_spec_l01Once : Hd := ⟨[.ptr (.st [.sl 5 (.int .u8), .int .i64, .int .i64]), .int .i64], [], some 0, (.u (.s .p (.s .p (.s .p .p)))), .bool, .p, []⟩
def T_spec_l01Once : FSig := sg_ H_spec_l01Once spec_l01Once
theorem E_spec_l01Once : fnOf tys [(68, T_spec_l01Below)] Tryz.f148 H_spec_l01Once = T_spec_l01Once := by kernel_rfl
theorem K_spec_l01Once : SigOk Tryz.prog 148 T_spec_l01Once := e_k E_spec_l01Once (fnOf_ok rfl tysOk ⟨K_spec_l01Below, trivial⟩ Tryz.func148 (by decide) rfl (fun _ h => by cases h; decide) (nilEq_of (by kernel_rfl)))
def spec_l04Name (x : (D_l01Cur × (Int × Unit))) (c : Unit) : (Option ((List UInt8) × Unit)) :=
  (Option.bind (remZ x.2.1 6) fun v0 => (Option.bind ((Option.bind (getI (([97] : List UInt8) :: (([98] : List UInt8) :: (([99] : List UInt8) :: (([100] : List UInt8) :: (([101, 49] : List UInt8) :: (([102] : List UInt8) :: [])))))) v0) fun v1 => (some ())) : (Option Unit)) fun v2 => (Option.bind ((Option.bind (getI (([97] : List UInt8) :: (([98] : List UInt8) :: (([99] : List UInt8) :: (([100] : List UInt8) :: (([101, 49] : List UInt8) :: (([102] : List UInt8) :: [])))))) v0) fun v3 => (some v3)) : (Option (List UInt8))) fun v4 => (some (v4, ())))))
def H_spec_l04Name : Hd := ⟨[.ptr (.st [.sl 5 (.int .u8), .int .i64, .int .i64]), .int .i64], [], none, .p, .str, .p, []⟩
def T_spec_l04Name : FSig := sg_ H_spec_l04Name spec_l04Name
theorem E_spec_l04Name : fnOf tys [] Tryz.f199 H_spec_l04Name = T_spec_l04Name := by kernel_rfl
theorem K_spec_l04Name : SigOk Tryz.prog 199 T_spec_l04Name := e_k E_spec_l04Name (fnOf_ok rfl tysOk trivial Tryz.func199 (by decide) rfl (fun _ h => by cases h) (nilEq_of (by kernel_rfl)))
abbrev s_spec_l04Draw_L0 : Type := (D_Mode × (Int × (Int × (Int × (D_Activity × (D_Activity × (D_l01Cur × Unit)))))))
def spec_l04Draw_L0 : s_spec_l04Draw_L0 → Option (Out s_spec_l04Draw_L0 ((Bool × s_spec_l04Draw_L0) ⊕ Empty) (D_Activity × D_l01Cur)) :=
  (fun v7 => (if (ltZ (lenI v7.1.2.1) v7.2.2.1) = true then (Option.bind (spec_l01Below (v7.2.2.2.2.2.2.1, (3, ())) ()) fun v8 => (Option.bind (addI v7.1.2.1 (v8.1 :: [])) fun v9 => (some (Out.norm ((v7.1.1, (v9, v7.1.2.2)), (v7.2.1, (v7.2.2.1, (v7.2.2.2.1, (v7.2.2.2.2.1, (v7.2.2.2.2.2.1, (v8.2, ()))))))))))) else (some (Out.exit (Sum.inl ((ltZ (lenI v7.1.2.1) v7.2.2.1), (v7.1, (v7.2.1, (v7.2.2.1, (v7.2.2.2.1, (v7.2.2.2.2.1, (v7.2.2.2.2.2.1, (v7.2.2.2.2.2.2.1, ())))))))))))))
abbrev s_spec_l04Draw_L1 : Type := (D_Mode × (Int × (Int × (Int × (D_Activity × (D_Activity × (D_l01Cur × Unit)))))))
def spec_l04Draw_L1 : s_spec_l04Draw_L1 → Option (Out s_spec_l04Draw_L1 ((Bool × s_spec_l04Draw_L1) ⊕ Empty) (D_Activity × D_l01Cur)) :=
  (fun v14 => (if (ltZ (lenI v14.1.2.2.1) v14.2.2.2.1) = true then (Option.bind (spec_l01Below (v14.2.2.2.2.2.2.1, (3, ())) ()) fun v15 => (Option.bind (addI v14.1.2.2.1 (v15.1 :: [])) fun v16 => (some (Out.norm ((v14.1.1, (v14.1.2.1, (v16, v14.1.2.2.2))), (v14.2.1, (v14.2.2.1, (v14.2.2.2.1, (v14.2.2.2.2.1, (v14.2.2.2.2.2.1, (v15.2, ()))))))))))) else (some (Out.exit (Sum.inl ((ltZ (lenI v14.1.2.2.1) v14.2.2.2.1), (v14.1, (v14.2.1, (v14.2.2.1, (v14.2.2.2.1, (v14.2.2.2.2.1, (v14.2.2.2.2.2.1, (v14.2.2.2.2.2.2.1, ())))))))))))))
abbrev s_spec_l04Draw_L2 : Type := (Int × (Int × (Int × (D_Activity × (D_Activity × (D_l01Cur × Unit))))))
def spec_l04Draw_L2 : s_spec_l04Draw_L2 → Option (Out s_spec_l04Draw_L2 ((Bool × s_spec_l04Draw_L2) ⊕ Empty) (D_Activity × D_l01Cur)) :=
  (fun v5 => (if (ltZ 0 v5.1) = true then (Option.bind (spec_l01Below (v5.2.2.2.2.2.1, (4, ())) ()) fun v6 => (Option.bind (loopN (A := s_spec_l04Draw_L0) big spec_l04Draw_L0 (((addZ .i64 1 v6.1), ([], ([], ()))), (v5.1, (v5.2.1, (v5.2.2.1, (v5.2.2.2.1, (v5.2.2.2.2.1, (v6.2, ())))))))) fun v10 => (match v10 with | Out.norm v11 => none | Out.exit v12 => (match ((match v12 with | Sum.inl v31 => (Sum.inl (v31.2.1, (v31.2.2.1, (v31.2.2.2.1, (v31.2.2.2.2.1, (v31.2.2.2.2.2.1, (v31.2.2.2.2.2.2.1, (v31.2.2.2.2.2.2.2.1, ())))))))) | Sum.inr v32 => (Empty.elim v32)) : ((D_Mode × (Int × (Int × (Int × (D_Activity × (D_Activity × (D_l01Cur × Unit))))))) ⊕ Empty)) with | Sum.inl v13 => (Option.bind (loopN (A := s_spec_l04Draw_L1) big spec_l04Draw_L1 (v13.1, (v13.2.1, (v13.2.2.1, (v13.2.2.2.1, (v13.2.2.2.2.1, (v13.2.2.2.2.2.1, (v13.2.2.2.2.2.2.1, ())))))))) fun v17 => (match v17 with | Out.norm v18 => none | Out.exit v19 => (match ((match v19 with | Sum.inl v25 => (Sum.inl (v25.2.1, (v25.2.2.1, (v25.2.2.2.1, (v25.2.2.2.2.1, (v25.2.2.2.2.2.1, (v25.2.2.2.2.2.2.1, (v25.2.2.2.2.2.2.2.1, ())))))))) | Sum.inr v26 => (Empty.elim v26)) : ((D_Mode × (Int × (Int × (Int × (D_Activity × (D_Activity × (D_l01Cur × Unit))))))) ⊕ Empty)) with | Sum.inl v20 => (Option.bind (addI v20.2.2.2.2.1.2.2.1 (v20.1 :: [])) fun v21 => (some (Out.norm ((subZ .i64 v20.2.1 1), (v20.2.2.1, (v20.2.2.2.1, ((v20.2.2.2.2.1.1, (v20.2.2.2.2.1.2.1, (v21, v20.2.2.2.2.1.2.2.2))), (v20.2.2.2.2.2.1, (v20.2.2.2.2.2.2.1, ()))))))))) | Sum.inr v22 => (match ((Empty.elim (Empty.elim v22)) : ((Int × (Int × (Int × (D_Activity × (D_Activity × (D_l01Cur × Unit)))))) ⊕ Empty)) with | Sum.inl v23 => (some (Out.norm ((subZ .i64 v23.1 1), (v23.2.1, (v23.2.2.1, (v23.2.2.2.1, (v23.2.2.2.2.1, (v23.2.2.2.2.2.1, ())))))))) | Sum.inr v24 => (some (Out.exit (Sum.inr (Empty.elim v24)))))) | Out.ret v27 => (some (Out.ret v27)))) | Sum.inr v28 => (match ((Empty.elim (Empty.elim v28)) : ((Int × (Int × (Int × (D_Activity × (D_Activity × (D_l01Cur × Unit)))))) ⊕ Empty)) with | Sum.inl v29 => (some (Out.norm ((subZ .i64 v29.1 1), (v29.2.1, (v29.2.2.1, (v29.2.2.2.1, (v29.2.2.2.2.1, (v29.2.2.2.2.2.1, ())))))))) | Sum.inr v30 => (some (Out.exit (Sum.inr (Empty.elim v30)))))) | Out.ret v33 => (some (Out.ret v33))))) else (some (Out.exit (Sum.inl ((ltZ 0 v5.1), (v5.1, (v5.2.1, (v5.2.2.1, (v5.2.2.2.1, (v5.2.2.2.2.1, (v5.2.2.2.2.2.1, ()))))))))))))
def spec_l04Draw (x : (D_l01Cur × (Int × D_Step))) (c : Unit) : (Option (D_Activity × D_l01Cur)) :=
  (Option.bind ((Option.bind (spec_l04Name (x.1, (x.2.1, ())) ()) fun v0 => (some v0.1)) : (Option (List UInt8))) fun v1 => (Option.bind (spec_l01Below (x.1, (2, ())) ()) fun v2 => (Option.bind (spec_l01Below (v2.2, (4, ())) ()) fun v3 => (Option.bind (quoZ .i64 v3.1 2) fun v4 => (Option.bind (loopN (A := s_spec_l04Draw_L2) big spec_l04Draw_L2 ((addZ .i64 1 v4), (x.2.2.1, (x.2.2.2.1, ((v1, (v2.1, ([], ()))), (([], (0, ([], ()))), (v3.2, ()))))))) fun v34 => (match v34 with | Out.norm v35 => none | Out.exit v36 => (match ((match v36 with | Sum.inl v39 => (Sum.inl (v39.2.2.2.2.1, (v39.2.2.2.2.2.1, (v39.2.2.2.2.2.2.1, ())))) | Sum.inr v40 => (Empty.elim v40)) : ((D_Activity × (D_Activity × (D_l01Cur × Unit))) ⊕ Empty)) with | Sum.inl v37 => (some (v37.1, v37.2.2.1)) | Sum.inr v38 => none) | Out.ret v41 => (some v41)))))))
def H_spec_l04Draw : Hd := ⟨[.ptr (.st [.sl 5 (.int .u8), .int .i64, .int .i64]), .int .i64, .int .i64, .int .i64], [], some 0, (.u (.s .p (.s .p (.s .p .p)))), y_1, (Ty.all (y_1)), [(3000000037, .p), (3000000049, .p)]⟩
def T_spec_l04Draw : FSig := sg_ H_spec_l04Draw spec_l04Draw
theorem E_spec_l04Draw : fnOf tys [(68, T_spec_l01Below), (199, T_spec_l04Name)] Tryz.f149 H_spec_l04Draw = T_spec_l04Draw := by kernel_rfl
theorem K_spec_l04Draw : SigOk Tryz.prog 149 T_spec_l04Draw := e_k E_spec_l04Draw (fnOf_ok rfl tysOk ⟨K_spec_l01Below, K_spec_l04Name, trivial⟩ Tryz.func149 (by decide) rfl (fun _ h => by cases h; decide) (nilEq_of (by kernel_rfl)))
abbrev s_spec_l05Draw_L0 : Type := (Int × (Int × (D_Project × (D_Project × (D_l01Cur × Unit)))))
def spec_l05Draw_L0 : s_spec_l05Draw_L0 → Option (Out s_spec_l05Draw_L0 ((Bool × s_spec_l05Draw_L0) ⊕ Empty) (D_Project × D_l01Cur)) :=
  (fun v3 => (if (ltZ 0 v3.1) = true then (Option.bind (spec_l03Draw (v3.2.2.2.2.1, ()) ()) fun v4 => (Option.bind (spec_l01Once (v4.2, (3, ())) ()) fun v5 => (Option.bind ((if v5.1 = true then (Option.bind (spec_l05Setup (v5.2, ()) ()) fun v6 => (some (Out.norm ((v4.1, (v6.1, ())), (v3.1, (v3.2.1, (v3.2.2.1, (v3.2.2.2.1, (v6.2, ()))))))))) else (some (Out.norm ((v4.1, ([], ())), (v3.1, (v3.2.1, (v3.2.2.1, (v3.2.2.2.1, (v5.2, ()))))))))) : (Option (Out (D_Resource × (Int × (Int × (D_Project × (D_Project × (D_l01Cur × Unit)))))) Empty (D_Project × D_l01Cur)))) fun v7 => (match ((match v7 with | Out.norm v14 => (Out.norm v14) | Out.exit v15 => (Out.exit v15) | Out.ret v16 => (Out.ret v16)) : (Out (D_Resource × (Int × (Int × (D_Project × (D_Project × (D_l01Cur × Unit)))))) Empty (D_Project × D_l01Cur))) with | Out.norm v8 => (Option.bind (addI v8.2.2.2.1.2.2.2.1 (v8.1 :: [])) fun v9 => (some (Out.norm ((subZ .i64 v8.2.1 1), (v8.2.2.1, ((v8.2.2.2.1.1, (v8.2.2.2.1.2.1, (v8.2.2.2.1.2.2.1, (v9, v8.2.2.2.1.2.2.2.2)))), (v8.2.2.2.2.1, (v8.2.2.2.2.2.1, ())))))))) | Out.exit v10 => (match ((Empty.elim (Empty.elim v10)) : ((Int × (Int × (D_Project × (D_Project × (D_l01Cur × Unit))))) ⊕ Empty)) with | Sum.inl v11 => (some (Out.norm ((subZ .i64 v11.1 1), (v11.2.1, (v11.2.2.1, (v11.2.2.2.1, (v11.2.2.2.2.1, ()))))))) | Sum.inr v12 => (some (Out.exit (Sum.inr (Empty.elim v12))))) | Out.ret v13 => (some (Out.ret v13)))))) else (some (Out.exit (Sum.inl ((ltZ 0 v3.1), (v3.1, (v3.2.1, (v3.2.2.1, (v3.2.2.2.1, (v3.2.2.2.2.1, ())))))))))))
abbrev s_spec_l05Draw_L1 : Type := (Int × (D_Project × (D_Project × (D_l01Cur × Unit))))
def spec_l05Draw_L1 : s_spec_l05Draw_L1 → Option (Out s_spec_l05Draw_L1 ((Bool × s_spec_l05Draw_L1) ⊕ Empty) (D_Project × D_l01Cur)) :=
  (fun v26 => (if (ltZ 0 v26.1) = true then (Option.bind (spec_l04Draw (v26.2.2.2.1, ((lenI v26.2.1.2.1), ((lenI v26.2.1.2.2.2.1), ((lenI v26.2.1.2.2.2.2.1), ())))) ()) fun v27 => (Option.bind (addI v26.2.1.2.1 (v27.1 :: [])) fun v28 => (some (Out.norm ((subZ .i64 v26.1 1), ((v26.2.1.1, (v28, v26.2.1.2.2)), (v26.2.2.1, (v27.2, ())))))))) else (some (Out.exit (Sum.inl ((ltZ 0 v26.1), (v26.1, (v26.2.1, (v26.2.2.1, (v26.2.2.2.1, ()))))))))))
abbrev s_spec_l05Draw_L2 : Type := (Int × (Int × (D_Project × (D_Project × (D_l01Cur × Unit)))))
def spec_l05Draw_L2 : s_spec_l05Draw_L2 → Option (Out s_spec_l05Draw_L2 ((Bool × s_spec_l05Draw_L2) ⊕ Empty) (D_Project × D_l01Cur)) :=
  (fun v34 => (Option.bind ((if (ltZ 0 v34.1) = true then (some ((ltZ 1 v34.2.1), (v34.1, (v34.2.1, (v34.2.2.1, (v34.2.2.2.1, (v34.2.2.2.2.1, ()))))))) else (some (false, (v34.1, (v34.2.1, (v34.2.2.1, (v34.2.2.2.1, (v34.2.2.2.2.1, ())))))))) : (Option (Bool × (Int × (Int × (D_Project × (D_Project × (D_l01Cur × Unit)))))))) fun v35 => (if v35.1 = true then (Option.bind (spec_l01Below (v35.2.2.2.2.2.1, ((subZ .i64 v35.2.2.1 1), ())) ()) fun v36 => (Option.bind (spec_l01Below (v36.2, ((subZ .i64 (subZ .i64 v35.2.2.1 1) v36.1), ())) ()) fun v37 => (Option.bind (spec_l01Once (v37.2, (3, ())) ()) fun v38 => (Option.bind (spec_l01Below (v38.2, (3, ())) ()) fun v39 => (Option.bind (spec_l01Once (v39.2, (6, ())) ()) fun v40 => (Option.bind ((if v40.1 = true then (Option.bind (spec_l01Below (v40.2, (9, ())) ()) fun v41 => (some (Out.norm (((addZ .i64 (addZ .i64 v36.1 1) v37.1), (v36.1, (false, ((subZ .i64 (-4) v41.1), ())))), (v35.2.1, (v35.2.2.1, (v35.2.2.2.1, (v35.2.2.2.2.1, (v41.2, ()))))))))) else (some (Out.norm ((v36.1, ((addZ .i64 (addZ .i64 v36.1 1) v37.1), ((notB v38.1), (v39.1, ())))), (v35.2.1, (v35.2.2.1, (v35.2.2.2.1, (v35.2.2.2.2.1, (v40.2, ()))))))))) : (Option (Out (D_Link × (Int × (Int × (D_Project × (D_Project × (D_l01Cur × Unit)))))) Empty (D_Project × D_l01Cur)))) fun v42 => (match ((match v42 with | Out.norm v49 => (Out.norm v49) | Out.exit v50 => (Out.exit v50) | Out.ret v51 => (Out.ret v51)) : (Out (D_Link × (Int × (Int × (D_Project × (D_Project × (D_l01Cur × Unit)))))) Empty (D_Project × D_l01Cur))) with | Out.norm v43 => (Option.bind (addI v43.2.2.2.1.2.2.1 (v43.1 :: [])) fun v44 => (some (Out.norm ((subZ .i64 v43.2.1 1), (v43.2.2.1, ((v43.2.2.2.1.1, (v43.2.2.2.1.2.1, (v44, v43.2.2.2.1.2.2.2))), (v43.2.2.2.2.1, (v43.2.2.2.2.2.1, ())))))))) | Out.exit v45 => (match ((Empty.elim (Empty.elim v45)) : ((Int × (Int × (D_Project × (D_Project × (D_l01Cur × Unit))))) ⊕ Empty)) with | Sum.inl v46 => (some (Out.norm ((subZ .i64 v46.1 1), (v46.2.1, (v46.2.2.1, (v46.2.2.2.1, (v46.2.2.2.2.1, ()))))))) | Sum.inr v47 => (some (Out.exit (Sum.inr (Empty.elim v47))))) | Out.ret v48 => (some (Out.ret v48))))))))) else (some (Out.exit (Sum.inl v35))))))
def spec_l05Draw (x : (D_l01Cur × (Int × Unit))) (c : Unit) : (Option (D_Project × D_l01Cur)) :=
  (Option.bind (spec_l01Below (x.1, (12, ())) ()) fun v0 => (Option.bind (spec_l01Below (v0.2, (4, ())) ()) fun v1 => (Option.bind (quoZ .i64 v1.1 2) fun v2 => (Option.bind (loopN (A := s_spec_l05Draw_L0) big spec_l05Draw_L0 ((addZ .i64 1 v2), (x.2.1, (((addZ .i64 12 v0.1), ([], ([], ([], ([], ()))))), ((0, ([], ([], ([], ([], ()))))), (v1.2, ())))))) fun v17 => (match v17 with | Out.norm v18 => none | Out.exit v19 => (match ((match v19 with | Sum.inl v70 => (Sum.inl (v70.2.2.1, (v70.2.2.2.1, (v70.2.2.2.2.1, (v70.2.2.2.2.2.1, ()))))) | Sum.inr v71 => (Empty.elim v71)) : ((Int × (D_Project × (D_Project × (D_l01Cur × Unit)))) ⊕ Empty)) with | Sum.inl v20 => (Option.bind (spec_l01Once (v20.2.2.2.1, (3, ())) ()) fun v21 => (Option.bind ((if v21.1 = true then (Option.bind (spec_l01Below (v21.2, (6, ())) ()) fun v22 => (some (Out.norm (v20.1, ((v20.2.1.1, (v20.2.1.2.1, (v20.2.1.2.2.1, (v20.2.1.2.2.2.1, ((v22.1 :: []), v20.2.1.2.2.2.2.2))))), (v20.2.2.1, (v22.2, ()))))))) else (some (Out.norm (v20.1, (v20.2.1, (v20.2.2.1, (v21.2, ()))))))) : (Option (Out (Int × (D_Project × (D_Project × (D_l01Cur × Unit)))) Empty (D_Project × D_l01Cur)))) fun v23 => (match ((match v23 with | Out.norm v66 => (Out.norm v66) | Out.exit v67 => (Out.exit v67) | Out.ret v68 => (Out.ret v68)) : (Out (Int × (D_Project × (D_Project × (D_l01Cur × Unit)))) Empty (D_Project × D_l01Cur))) with | Out.norm v24 => (Option.bind (spec_l01Below (v24.2.2.2.1, (v24.1, ())) ()) fun v25 => (Option.bind (loopN (A := s_spec_l05Draw_L1) big spec_l05Draw_L1 ((addZ .i64 1 v25.1), (v24.2.1, (v24.2.2.1, (v25.2, ()))))) fun v29 => (match v29 with | Out.norm v30 => none | Out.exit v31 => (match ((match v31 with | Sum.inl v61 => (Sum.inl (v61.2.2.1, (v61.2.2.2.1, (v61.2.2.2.2.1, ())))) | Sum.inr v62 => (Empty.elim v62)) : ((D_Project × (D_Project × (D_l01Cur × Unit))) ⊕ Empty)) with | Sum.inl v32 => (Option.bind (spec_l01Below (v32.2.2.1, (4, ())) ()) fun v33 => (Option.bind (loopN (A := s_spec_l05Draw_L2) big spec_l05Draw_L2 (v33.1, ((lenI v32.1.2.1), (v32.1, (v32.2.1, (v33.2, ())))))) fun v52 => (match v52 with | Out.norm v53 => none | Out.exit v54 => (match ((match v54 with | Sum.inl v57 => (Sum.inl (v57.2.2.2.1, (v57.2.2.2.2.1, (v57.2.2.2.2.2.1, ())))) | Sum.inr v58 => (Empty.elim v58)) : ((D_Project × (D_Project × (D_l01Cur × Unit))) ⊕ Empty)) with | Sum.inl v55 => (some (v55.1, v55.2.2.1)) | Sum.inr v56 => none) | Out.ret v59 => (some v59)))) | Sum.inr v60 => none) | Out.ret v63 => (some v63)))) | Out.exit v64 => none | Out.ret v65 => (some v65)))) | Sum.inr v69 => none) | Out.ret v72 => (some v72))))))
def H_spec_l05Draw : Hd := ⟨[.ptr (.st [.sl 5 (.int .u8), .int .i64, .int .i64]), .int .i64], [], some 0, (.u (.s .p (.s .p (.s .p .p)))), y_0, (Ty.all (y_0)), []⟩
def T_spec_l05Draw : FSig := sg_ H_spec_l05Draw spec_l05Draw
theorem E_spec_l05Draw : fnOf tys [(66, T_spec_l05Setup), (68, T_spec_l01Below), (147, T_spec_l03Draw), (148, T_spec_l01Once), (149, T_spec_l04Draw)] Tryz.f65 H_spec_l05Draw = T_spec_l05Draw := by kernel_rfl
theorem K_spec_l05Draw : SigOk Tryz.prog 65 T_spec_l05Draw := e_k E_spec_l05Draw (fnOf_ok rfl tysOk ⟨K_spec_l05Setup, K_spec_l01Below, K_spec_l03Draw, K_spec_l01Once, K_spec_l04Draw, trivial⟩ Tryz.func65 (by decide) rfl (fun _ h => by cases h; decide) (nilEq_of (by kernel_rfl)))
def spec_l01In (x : (Int × D_Step)) (c : Unit) : (Option (Bool × Unit)) :=
  (Option.bind ((if (leZ x.2.1 x.1) = true then (some ((leZ x.1 x.2.2.1), ())) else (some (false, ()))) : (Option (Bool × Unit))) fun v0 => (some (v0.1, ())))
def H_spec_l01In : Hd := ⟨[.int .i64, .int .i64, .int .i64], [], none, .p, .bool, .p, []⟩
def T_spec_l01In : FSig := sg_ H_spec_l01In spec_l01In
theorem E_spec_l01In : fnOf tys [] Tryz.f200 H_spec_l01In = T_spec_l01In := by kernel_rfl
theorem K_spec_l01In : SigOk Tryz.prog 200 T_spec_l01In := e_k E_spec_l01In (fnOf_ok rfl tysOk trivial Tryz.func200 (by decide) rfl (fun _ h => by cases h) (nilEq_of (by kernel_rfl)))
abbrev s_spec_l04Nums_L0 : Type := (Int × (Int × ((List Int) × ((List Int) × (Int × Unit)))))
def spec_l04Nums_L0 : s_spec_l04Nums_L0 → Option (Out s_spec_l04Nums_L0 ((Bool × s_spec_l04Nums_L0) ⊕ Empty) (Bool × Unit)) :=
  (fun v0 => (if (ltZ v0.1 v0.2.1) = true then (Option.bind (getI v0.2.2.1 v0.1) fun v1 => (Option.bind ((Option.bind (spec_l01In (v1, (0, (20, ()))) ()) fun v2 => (some v2.1)) : (Option Bool)) fun v3 => (if (notB v3) = true then (some (Out.ret (false, ()))) else (some (Out.norm ((addZ .i64 v0.1 1), (v0.2.1, (v0.2.2.1, (v0.2.2.2.1, (v0.2.2.2.2.1, ())))))))))) else (some (Out.exit (Sum.inl ((ltZ v0.1 v0.2.1), (v0.1, (v0.2.1, (v0.2.2.1, (v0.2.2.2.1, (v0.2.2.2.2.1, ())))))))))))
def spec_l04Nums (x : ((List Int) × (Int × Unit))) (c : Unit) : (Option (Bool × Unit)) :=
  (Option.bind (loopN (A := s_spec_l04Nums_L0) big spec_l04Nums_L0 (0, ((lenI x.1), (x.1, (x.1, (x.2.1, ())))))) fun v4 => (match v4 with | Out.norm v5 => none | Out.exit v6 => (match ((match v6 with | Sum.inl v9 => (Sum.inl (v9.2.2.2.2.1, (v9.2.2.2.2.2.1, ()))) | Sum.inr v10 => (Empty.elim v10)) : (((List Int) × (Int × Unit)) ⊕ Empty)) with | Sum.inl v7 => (some ((eqZ (lenI v7.1) v7.2.1), ())) | Sum.inr v8 => none) | Out.ret v11 => (some v11)))
def H_spec_l04Nums : Hd := ⟨[.sl 3 (.int .i64), .int .i64], [], none, .p, .bool, .p, []⟩
def T_spec_l04Nums : FSig := sg_ H_spec_l04Nums spec_l04Nums
theorem E_spec_l04Nums : fnOf tys [(200, T_spec_l01In)] Tryz.f269 H_spec_l04Nums = T_spec_l04Nums := by kernel_rfl
theorem K_spec_l04Nums : SigOk Tryz.prog 269 T_spec_l04Nums := e_k E_spec_l04Nums (fnOf_ok rfl tysOk ⟨K_spec_l01In, trivial⟩ Tryz.func269 (by decide) rfl (fun _ h => by cases h) (nilEq_of (by kernel_rfl)))
def spec_ModeOk (x : (D_Mode × D_Step)) (c : Unit) : (Option (Bool × Unit)) :=
  (Option.bind ((Option.bind (spec_l01In (x.1.1, (1, (12, ()))) ()) fun v0 => (some v0.1)) : (Option Bool)) fun v1 => (Option.bind ((if v1 = true then (Option.bind ((Option.bind (spec_l04Nums (x.1.2.1, (x.2.1, ())) ()) fun v2 => (some v2.1)) : (Option Bool)) fun v3 => (Option.bind ((if v3 = true then (Option.bind ((Option.bind (spec_l04Nums (x.1.2.2.1, (x.2.2.1, ())) ()) fun v4 => (some v4.1)) : (Option Bool)) fun v5 => (some (v5, ()))) else (some (false, ()))) : (Option (Bool × Unit))) fun v6 => (some (v6.1, ())))) else (some (false, ()))) : (Option (Bool × Unit))) fun v7 => (some (v7.1, ()))))
def H_spec_ModeOk : Hd := ⟨[y_4, .int .i64, .int .i64], [], none, .p, .bool, .p, []⟩
def T_spec_ModeOk : FSig := sg_ H_spec_ModeOk spec_ModeOk
theorem E_spec_ModeOk : fnOf tys [(200, T_spec_l01In), (269, T_spec_l04Nums)] Tryz.f244 H_spec_ModeOk = T_spec_ModeOk := by kernel_rfl
theorem K_spec_ModeOk : SigOk Tryz.prog 244 T_spec_ModeOk := e_k E_spec_ModeOk (fnOf_ok rfl tysOk ⟨K_spec_l01In, K_spec_l04Nums, trivial⟩ Tryz.func244 (by decide) rfl (fun _ h => by cases h) (nilEq_of (by kernel_rfl)))
abbrev s_spec_IsName_L0 : Type := (Int × ((List UInt8) × Unit))
def spec_IsName_L0 : s_spec_IsName_L0 → Option (Out s_spec_IsName_L0 ((Bool × s_spec_IsName_L0) ⊕ Empty) (Bool × Unit)) :=
  (fun v0 => (if (ltZ v0.1 (lenI v0.2.1)) = true then (Option.bind (byteAt v0.2.1 v0.1) fun v1 => (Option.bind ((if (leZ 97 v1) = true then (Option.bind (byteAt v0.2.1 v0.1) fun v2 => (some ((leZ v2 122), (v0.1, (v0.2.1, ()))))) else (some (false, (v0.1, (v0.2.1, ()))))) : (Option (Bool × (Int × ((List UInt8) × Unit))))) fun v3 => (Option.bind ((if (notB v3.1) = true then (Option.bind ((if (eqZ v3.2.1 0) = true then (some (true, (v3.2.1, (v3.2.2.1, ())))) else (Option.bind (byteAt v3.2.2.1 v3.2.1) fun v4 => (Option.bind ((if (ltZ v4 48) = true then (some (true, (v3.2.1, (v3.2.2.1, ())))) else (Option.bind (byteAt v3.2.2.1 v3.2.1) fun v5 => (some ((ltZ 57 v5), (v3.2.1, (v3.2.2.1, ())))))) : (Option (Bool × (Int × ((List UInt8) × Unit))))) fun v6 => (some (v6.1, (v6.2.1, (v6.2.2.1, ()))))))) : (Option (Bool × (Int × ((List UInt8) × Unit))))) fun v7 => (some (v7.1, (v7.2.1, (v7.2.2.1, ()))))) else (some (false, (v3.2.1, (v3.2.2.1, ()))))) : (Option (Bool × (Int × ((List UInt8) × Unit))))) fun v8 => (if v8.1 = true then (some (Out.ret (false, ()))) else (some (Out.norm ((addZ .i64 v8.2.1 1), (v8.2.2.1, ())))))))) else (some (Out.exit (Sum.inl ((ltZ v0.1 (lenI v0.2.1)), (v0.1, (v0.2.1, ()))))))))
def spec_IsName (x : ((List UInt8) × Unit)) (c : Unit) : (Option (Bool × Unit)) :=
  (Option.bind (loopN (A := s_spec_IsName_L0) big spec_IsName_L0 (0, (x.1, ()))) fun v9 => (match v9 with | Out.norm v10 => none | Out.exit v11 => (match ((match v11 with | Sum.inl v16 => (Sum.inl (v16.2.2.1, ())) | Sum.inr v17 => (Empty.elim v17)) : (((List UInt8) × Unit) ⊕ Empty)) with | Sum.inl v12 => (Option.bind ((Option.bind (spec_l01In ((lenI v12.1), (1, (8, ()))) ()) fun v13 => (some v13.1)) : (Option Bool)) fun v14 => (some (v14, ()))) | Sum.inr v15 => none) | Out.ret v18 => (some v18)))
def H_spec_IsName : Hd := ⟨[.str], [], none, .p, .bool, .p, []⟩
def T_spec_IsName : FSig := sg_ H_spec_IsName spec_IsName
theorem E_spec_IsName : fnOf tys [(200, T_spec_l01In)] Tryz.f245 H_spec_IsName = T_spec_IsName := by kernel_rfl
theorem K_spec_IsName : SigOk Tryz.prog 245 T_spec_IsName := e_k E_spec_IsName (fnOf_ok rfl tysOk ⟨K_spec_l01In, trivial⟩ Tryz.func245 (by decide) rfl (fun _ h => by cases h) (nilEq_of (by kernel_rfl)))
abbrev s_spec_ActivityOk_L0 : Type := (Int × (Int × ((List D_Mode) × (Int × (Int × (D_Activity × Unit))))))
def spec_ActivityOk_L0 : s_spec_ActivityOk_L0 → Option (Out s_spec_ActivityOk_L0 ((Bool × s_spec_ActivityOk_L0) ⊕ Empty) (Bool × Unit)) :=
  (fun v0 => (if (ltZ v0.1 v0.2.1) = true then (Option.bind (getI v0.2.2.1 v0.1) fun v1 => (Option.bind ((Option.bind (spec_ModeOk (v1, (v0.2.2.2.1, (v0.2.2.2.2.1, ()))) ()) fun v2 => (some v2.1)) : (Option Bool)) fun v3 => (if (notB v3) = true then (some (Out.ret (false, ()))) else (some (Out.norm ((addZ .i64 v0.1 1), (v0.2.1, (v0.2.2.1, (v0.2.2.2.1, (v0.2.2.2.2.1, (v0.2.2.2.2.2.1, ()))))))))))) else (some (Out.exit (Sum.inl ((ltZ v0.1 v0.2.1), (v0.1, (v0.2.1, (v0.2.2.1, (v0.2.2.2.1, (v0.2.2.2.2.1, (v0.2.2.2.2.2.1, ()))))))))))))
def spec_ActivityOk (x : (D_Activity × D_Step)) (c : Unit) : (Option (Bool × Unit)) :=
  (Option.bind (loopN (A := s_spec_ActivityOk_L0) big spec_ActivityOk_L0 (0, ((lenI x.1.2.2.1), (x.1.2.2.1, (x.2.1, (x.2.2.1, (x.1, ()))))))) fun v4 => (match v4 with | Out.norm v5 => none | Out.exit v6 => (match ((match v6 with | Sum.inl v17 => (Sum.inl (v17.2.2.2.2.2.2.1, ())) | Sum.inr v18 => (Empty.elim v18)) : ((D_Activity × Unit) ⊕ Empty)) with | Sum.inl v7 => (Option.bind ((Option.bind (spec_IsName (v7.1.1, ()) ()) fun v8 => (some v8.1)) : (Option Bool)) fun v9 => (Option.bind ((if v9 = true then (Option.bind ((Option.bind (spec_l01In (v7.1.2.1, (0, (3, ()))) ()) fun v10 => (some v10.1)) : (Option Bool)) fun v11 => (Option.bind ((if v11 = true then (Option.bind ((Option.bind (spec_l01In ((lenI v7.1.2.2.1), (1, (3, ()))) ()) fun v12 => (some v12.1)) : (Option Bool)) fun v13 => (some (v13, ()))) else (some (false, ()))) : (Option (Bool × Unit))) fun v14 => (some (v14.1, ())))) else (some (false, ()))) : (Option (Bool × Unit))) fun v15 => (some (v15.1, ())))) | Sum.inr v16 => none) | Out.ret v19 => (some v19)))
def H_spec_ActivityOk : Hd := ⟨[y_1, .int .i64, .int .i64], [], none, .p, .bool, .p, []⟩
def T_spec_ActivityOk : FSig := sg_ H_spec_ActivityOk spec_ActivityOk
theorem E_spec_ActivityOk : fnOf tys [(200, T_spec_l01In), (244, T_spec_ModeOk), (245, T_spec_IsName)] Tryz.f201 H_spec_ActivityOk = T_spec_ActivityOk := by kernel_rfl
theorem K_spec_ActivityOk : SigOk Tryz.prog 201 T_spec_ActivityOk := e_k E_spec_ActivityOk (fnOf_ok rfl tysOk ⟨K_spec_l01In, K_spec_ModeOk, K_spec_IsName, trivial⟩ Tryz.func201 (by decide) rfl (fun _ h => by cases h) (nilEq_of (by kernel_rfl)))
abbrev s_spec_ActivityIndex_L0 : Type := (Int × (Int × ((List D_Activity) × ((List UInt8) × Unit))))
def spec_ActivityIndex_L0 : s_spec_ActivityIndex_L0 → Option (Out s_spec_ActivityIndex_L0 ((Bool × s_spec_ActivityIndex_L0) ⊕ Empty) (Int × Unit)) :=
  (fun v0 => (if (ltZ v0.1 v0.2.1) = true then (Option.bind (getI v0.2.2.1 v0.1) fun v1 => (if (eqS v1.1 v0.2.2.2.1) = true then (some (Out.ret (v0.1, ()))) else (some (Out.norm ((addZ .i64 v0.1 1), (v0.2.1, (v0.2.2.1, (v0.2.2.2.1, ())))))))) else (some (Out.exit (Sum.inl ((ltZ v0.1 v0.2.1), (v0.1, (v0.2.1, (v0.2.2.1, (v0.2.2.2.1, ()))))))))))
def spec_ActivityIndex (x : (D_Project × ((List UInt8) × Unit))) (c : Unit) : (Option (Int × Unit)) :=
  (Option.bind (loopN (A := s_spec_ActivityIndex_L0) big spec_ActivityIndex_L0 (0, ((lenI x.1.2.1), (x.1.2.1, (x.2.1, ()))))) fun v2 => (match v2 with | Out.norm v3 => none | Out.exit v4 => (match ((match v4 with | Sum.inl v7 => (Sum.inl ()) | Sum.inr v8 => (Empty.elim v8)) : (Unit ⊕ Empty)) with | Sum.inl v5 => (some ((-1), ())) | Sum.inr v6 => none) | Out.ret v9 => (some v9)))
def H_spec_ActivityIndex : Hd := ⟨[y_0, .str], [], none, .p, .int .i64, .p, []⟩
def T_spec_ActivityIndex : FSig := sg_ H_spec_ActivityIndex spec_ActivityIndex
theorem E_spec_ActivityIndex : fnOf tys [] Tryz.f202 H_spec_ActivityIndex = T_spec_ActivityIndex := by kernel_rfl
theorem K_spec_ActivityIndex : SigOk Tryz.prog 202 T_spec_ActivityIndex := e_k E_spec_ActivityIndex (fnOf_ok rfl tysOk trivial Tryz.func202 (by decide) rfl (fun _ h => by cases h) (nilEq_of (by kernel_rfl)))
abbrev s_spec_StepsOk_L0 : Type := (Int × (Int × ((List D_Step) × ((List D_Step) × Unit))))
def spec_StepsOk_L0 : s_spec_StepsOk_L0 → Option (Out s_spec_StepsOk_L0 ((Bool × s_spec_StepsOk_L0) ⊕ Empty) (Bool × Unit)) :=
  (fun v0 => (if (ltZ v0.1 v0.2.1) = true then (Option.bind (getI v0.2.2.1 v0.1) fun v1 => (Option.bind ((Option.bind (spec_l01In (v1.1, (0, (60, ()))) ()) fun v2 => (some v2.1)) : (Option Bool)) fun v3 => (Option.bind ((if (notB v3) = true then (some (true, (v0.1, (v0.2.1, (v0.2.2.1, (v0.2.2.2.1, ())))))) else (Option.bind ((Option.bind (spec_l01In (v1.2.1, (0, (20, ()))) ()) fun v4 => (some v4.1)) : (Option Bool)) fun v5 => (Option.bind ((if (notB v5) = true then (some (true, (v0.1, (v0.2.1, (v0.2.2.1, (v0.2.2.2.1, ())))))) else (Option.bind ((if (ltZ 0 v0.1) = true then (Option.bind (getI v0.2.2.2.1 (subZ .i64 v0.1 1)) fun v6 => (some ((leZ v1.1 v6.1), (v0.1, (v0.2.1, (v0.2.2.1, (v0.2.2.2.1, ()))))))) else (some (false, (v0.1, (v0.2.1, (v0.2.2.1, (v0.2.2.2.1, ()))))))) : (Option (Bool × (Int × (Int × ((List D_Step) × ((List D_Step) × Unit))))))) fun v7 => (some (v7.1, (v7.2.1, (v7.2.2.1, (v7.2.2.2.1, (v7.2.2.2.2.1, ())))))))) : (Option (Bool × (Int × (Int × ((List D_Step) × ((List D_Step) × Unit))))))) fun v8 => (some (v8.1, (v8.2.1, (v8.2.2.1, (v8.2.2.2.1, (v8.2.2.2.2.1, ()))))))))) : (Option (Bool × (Int × (Int × ((List D_Step) × ((List D_Step) × Unit))))))) fun v9 => (if v9.1 = true then (some (Out.ret (false, ()))) else (some (Out.norm ((addZ .i64 v9.2.1 1), (v9.2.2.1, (v9.2.2.2.1, (v9.2.2.2.2.1, ())))))))))) else (some (Out.exit (Sum.inl ((ltZ v0.1 v0.2.1), (v0.1, (v0.2.1, (v0.2.2.1, (v0.2.2.2.1, ()))))))))))
def spec_StepsOk (x : ((List D_Step) × Unit)) (c : Unit) : (Option (Bool × Unit)) :=
  (Option.bind (loopN (A := s_spec_StepsOk_L0) big spec_StepsOk_L0 (0, ((lenI x.1), (x.1, (x.1, ()))))) fun v10 => (match v10 with | Out.norm v11 => none | Out.exit v12 => (match ((match v12 with | Sum.inl v19 => (Sum.inl (v19.2.2.2.2.1, ())) | Sum.inr v20 => (Empty.elim v20)) : (((List D_Step) × Unit) ⊕ Empty)) with | Sum.inl v13 => (Option.bind ((Option.bind (spec_l01In ((lenI v13.1), (1, (8, ()))) ()) fun v14 => (some v14.1)) : (Option Bool)) fun v15 => (Option.bind ((if v15 = true then (Option.bind (getI v13.1 0) fun v16 => (some ((eqZ v16.1 0), ()))) else (some (false, ()))) : (Option (Bool × Unit))) fun v17 => (some (v17.1, ())))) | Sum.inr v18 => none) | Out.ret v21 => (some v21)))
def H_spec_StepsOk : Hd := ⟨[.sl 124 (.st [.int .i64, .int .i64])], [], none, .p, .bool, .p, []⟩
def T_spec_StepsOk : FSig := sg_ H_spec_StepsOk spec_StepsOk
theorem E_spec_StepsOk : fnOf tys [(200, T_spec_l01In)] Tryz.f246 H_spec_StepsOk = T_spec_StepsOk := by kernel_rfl
theorem K_spec_StepsOk : SigOk Tryz.prog 246 T_spec_StepsOk := e_k E_spec_StepsOk (fnOf_ok rfl tysOk ⟨K_spec_l01In, trivial⟩ Tryz.func246 (by decide) rfl (fun _ h => by cases h) (nilEq_of (by kernel_rfl)))
abbrev s_spec_ResourceOk_L0 : Type := (Int × (Int × ((List Int) × (Int × (Int × ((List (List Int)) × (D_Resource × Unit)))))))
def spec_ResourceOk_L0 : s_spec_ResourceOk_L0 → Option (Out s_spec_ResourceOk_L0 ((Bool × s_spec_ResourceOk_L0) ⊕ Empty) (Bool × Unit)) :=
  (fun v2 => (if (ltZ v2.1 v2.2.1) = true then (Option.bind (getI v2.2.2.1 v2.1) fun v3 => (Option.bind ((Option.bind (spec_l01In (v3, (0, (12, ()))) ()) fun v4 => (some v4.1)) : (Option Bool)) fun v5 => (if (notB v5) = true then (some (Out.ret (false, ()))) else (some (Out.norm ((addZ .i64 v2.1 1), (v2.2.1, (v2.2.2.1, (v2.2.2.2.1, (v2.2.2.2.2.1, (v2.2.2.2.2.2.1, (v2.2.2.2.2.2.2.1, ())))))))))))) else (some (Out.exit (Sum.inl ((ltZ v2.1 v2.2.1), (v2.1, (v2.2.1, (v2.2.2.1, (v2.2.2.2.1, (v2.2.2.2.2.1, (v2.2.2.2.2.2.1, (v2.2.2.2.2.2.2.1, ())))))))))))))
abbrev s_spec_ResourceOk_L1 : Type := (Int × (Int × ((List (List Int)) × (D_Resource × Unit))))
def spec_ResourceOk_L1 : s_spec_ResourceOk_L1 → Option (Out s_spec_ResourceOk_L1 ((Bool × s_spec_ResourceOk_L1) ⊕ Empty) (Bool × Unit)) :=
  (fun v0 => (if (ltZ v0.1 v0.2.1) = true then (Option.bind (getI v0.2.2.1 v0.1) fun v1 => (if (notB (eqZ (lenI v1) 4)) = true then (some (Out.ret (false, ()))) else (Option.bind (loopN (A := s_spec_ResourceOk_L0) big spec_ResourceOk_L0 (0, ((lenI v1), (v1, (v0.1, (v0.2.1, (v0.2.2.1, (v0.2.2.2.1, ())))))))) fun v6 => (match v6 with | Out.norm v7 => none | Out.exit v8 => (match ((match v8 with | Sum.inl v13 => (Sum.inl (v13.2.2.2.2.1, (v13.2.2.2.2.2.1, (v13.2.2.2.2.2.2.1, (v13.2.2.2.2.2.2.2.1, ()))))) | Sum.inr v14 => (Empty.elim v14)) : ((Int × (Int × ((List (List Int)) × (D_Resource × Unit)))) ⊕ Empty)) with | Sum.inl v9 => (some (Out.norm ((addZ .i64 v9.1 1), (v9.2.1, (v9.2.2.1, (v9.2.2.2.1, ())))))) | Sum.inr v10 => (match ((Empty.elim v10) : ((Int × (Int × ((List (List Int)) × (D_Resource × Unit)))) ⊕ Empty)) with | Sum.inl v11 => (some (Out.norm ((addZ .i64 v11.1 1), (v11.2.1, (v11.2.2.1, (v11.2.2.2.1, ())))))) | Sum.inr v12 => (some (Out.exit (Sum.inr (Empty.elim v12)))))) | Out.ret v15 => (some (Out.ret v15)))))) else (some (Out.exit (Sum.inl ((ltZ v0.1 v0.2.1), (v0.1, (v0.2.1, (v0.2.2.1, (v0.2.2.2.1, ()))))))))))
def spec_ResourceOk (x : (D_Resource × Unit)) (c : Unit) : (Option (Bool × Unit)) :=
  (Option.bind (loopN (A := s_spec_ResourceOk_L1) big spec_ResourceOk_L1 (0, ((lenI x.1.2.1), (x.1.2.1, (x.1, ()))))) fun v16 => (match v16 with | Out.norm v17 => none | Out.exit v18 => (match ((match v18 with | Sum.inl v25 => (Sum.inl (v25.2.2.2.2.1, ())) | Sum.inr v26 => (Empty.elim v26)) : ((D_Resource × Unit) ⊕ Empty)) with | Sum.inl v19 => (Option.bind ((Option.bind (spec_StepsOk (v19.1.1, ()) ()) fun v20 => (some v20.1)) : (Option Bool)) fun v21 => (Option.bind ((if v21 = true then (Option.bind ((if (eqZ (lenI v19.1.2.1) 0) = true then (some (true, ())) else (some ((eqZ (lenI v19.1.2.1) 4), ()))) : (Option (Bool × Unit))) fun v22 => (some (v22.1, ()))) else (some (false, ()))) : (Option (Bool × Unit))) fun v23 => (some (v23.1, ())))) | Sum.inr v24 => none) | Out.ret v27 => (some v27)))
def H_spec_ResourceOk : Hd := ⟨[y_2], [], none, .p, .bool, .p, []⟩
def T_spec_ResourceOk : FSig := sg_ H_spec_ResourceOk spec_ResourceOk
theorem E_spec_ResourceOk : fnOf tys [(200, T_spec_l01In), (246, T_spec_StepsOk)] Tryz.f203 H_spec_ResourceOk = T_spec_ResourceOk := by kernel_rfl
theorem K_spec_ResourceOk : SigOk Tryz.prog 203 T_spec_ResourceOk := e_k E_spec_ResourceOk (fnOf_ok rfl tysOk ⟨K_spec_l01In, K_spec_StepsOk, trivial⟩ Tryz.func203 (by decide) rfl (fun _ h => by cases h) (nilEq_of (by kernel_rfl)))
abbrev s_spec_ProjectOk_L0 : Type := (Int × (Int × ((List D_Activity) × (D_Project × (Int × Unit)))))
def spec_ProjectOk_L0 : s_spec_ProjectOk_L0 → Option (Out s_spec_ProjectOk_L0 ((Bool × s_spec_ProjectOk_L0) ⊕ Empty) (Bool × Unit)) :=
  (fun v8 => (if (ltZ v8.1 v8.2.1) = true then (Option.bind (getI v8.2.2.1 v8.1) fun v9 => (Option.bind ((Option.bind (spec_ActivityOk (v9, ((lenI v8.2.2.2.1.2.2.2.1), ((lenI v8.2.2.2.1.2.2.2.2.1), ()))) ()) fun v10 => (some v10.1)) : (Option Bool)) fun v11 => (Option.bind ((if (notB v11) = true then (some (true, (v8.1, (v8.2.1, (v8.2.2.1, (v8.2.2.2.1, (v8.2.2.2.2.1, ()))))))) else (Option.bind ((Option.bind (spec_ActivityIndex (v8.2.2.2.1, (v9.1, ())) ()) fun v12 => (some v12.1)) : (Option Int)) fun v13 => (some ((notB (eqZ v13 v8.1)), (v8.1, (v8.2.1, (v8.2.2.1, (v8.2.2.2.1, (v8.2.2.2.2.1, ()))))))))) : (Option (Bool × (Int × (Int × ((List D_Activity) × (D_Project × (Int × Unit)))))))) fun v14 => (if v14.1 = true then (some (Out.ret (false, ()))) else (some (Out.norm ((addZ .i64 v14.2.1 1), (v14.2.2.1, (v14.2.2.2.1, (v14.2.2.2.2.1, (v14.2.2.2.2.2.1, ()))))))))))) else (some (Out.exit (Sum.inl ((ltZ v8.1 v8.2.1), (v8.1, (v8.2.1, (v8.2.2.1, (v8.2.2.2.1, (v8.2.2.2.2.1, ())))))))))))
abbrev s_spec_ProjectOk_L1 : Type := (Int × (Int × ((List D_Resource) × (D_Project × (Int × Unit)))))
def spec_ProjectOk_L1 : s_spec_ProjectOk_L1 → Option (Out s_spec_ProjectOk_L1 ((Bool × s_spec_ProjectOk_L1) ⊕ Empty) (Bool × Unit)) :=
  (fun v19 => (if (ltZ v19.1 v19.2.1) = true then (Option.bind (getI v19.2.2.1 v19.1) fun v20 => (Option.bind ((Option.bind (spec_ResourceOk (v20, ()) ()) fun v21 => (some v21.1)) : (Option Bool)) fun v22 => (if (notB v22) = true then (some (Out.ret (false, ()))) else (some (Out.norm ((addZ .i64 v19.1 1), (v19.2.1, (v19.2.2.1, (v19.2.2.2.1, (v19.2.2.2.2.1, ())))))))))) else (some (Out.exit (Sum.inl ((ltZ v19.1 v19.2.1), (v19.1, (v19.2.1, (v19.2.2.1, (v19.2.2.2.1, (v19.2.2.2.2.1, ())))))))))))
abbrev s_spec_ProjectOk_L2 : Type := (Int × (Int × ((List Int) × (D_Project × (Int × Unit)))))
def spec_ProjectOk_L2 : s_spec_ProjectOk_L2 → Option (Out s_spec_ProjectOk_L2 ((Bool × s_spec_ProjectOk_L2) ⊕ Empty) (Bool × Unit)) :=
  (fun v27 => (if (ltZ v27.1 v27.2.1) = true then (Option.bind (getI v27.2.2.1 v27.1) fun v28 => (Option.bind ((Option.bind (spec_l01In (v28, (0, (100, ()))) ()) fun v29 => (some v29.1)) : (Option Bool)) fun v30 => (if (notB v30) = true then (some (Out.ret (false, ()))) else (some (Out.norm ((addZ .i64 v27.1 1), (v27.2.1, (v27.2.2.1, (v27.2.2.2.1, (v27.2.2.2.2.1, ())))))))))) else (some (Out.exit (Sum.inl ((ltZ v27.1 v27.2.1), (v27.1, (v27.2.1, (v27.2.2.1, (v27.2.2.2.1, (v27.2.2.2.2.1, ())))))))))))
abbrev s_spec_ProjectOk_L3 : Type := (Int × (Int × ((List D_Link) × (Int × Unit))))
def spec_ProjectOk_L3 : s_spec_ProjectOk_L3 → Option (Out s_spec_ProjectOk_L3 ((Bool × s_spec_ProjectOk_L3) ⊕ Empty) (Bool × Unit)) :=
  (fun v35 => (if (ltZ v35.1 v35.2.1) = true then (Option.bind (getI v35.2.2.1 v35.1) fun v36 => (Option.bind ((Option.bind (spec_l01In (v36.1, (0, ((subZ .i64 v35.2.2.2.1 1), ()))) ()) fun v37 => (some v37.1)) : (Option Bool)) fun v38 => (Option.bind ((if (notB v38) = true then (some (true, (v35.1, (v35.2.1, (v35.2.2.1, (v35.2.2.2.1, ())))))) else (Option.bind ((Option.bind (spec_l01In (v36.2.1, (0, ((subZ .i64 v35.2.2.2.1 1), ()))) ()) fun v39 => (some v39.1)) : (Option Bool)) fun v40 => (Option.bind ((if (notB v40) = true then (some (true, (v35.1, (v35.2.1, (v35.2.2.1, (v35.2.2.2.1, ())))))) else (Option.bind ((if (eqZ v36.1 v36.2.1) = true then (some (true, (v35.1, (v35.2.1, (v35.2.2.1, (v35.2.2.2.1, ())))))) else (Option.bind ((Option.bind (spec_l01In (v36.2.2.2.1, ((-60), (60, ()))) ()) fun v41 => (some v41.1)) : (Option Bool)) fun v42 => (some ((notB v42), (v35.1, (v35.2.1, (v35.2.2.1, (v35.2.2.2.1, ())))))))) : (Option (Bool × (Int × (Int × ((List D_Link) × (Int × Unit))))))) fun v43 => (some (v43.1, (v43.2.1, (v43.2.2.1, (v43.2.2.2.1, (v43.2.2.2.2.1, ())))))))) : (Option (Bool × (Int × (Int × ((List D_Link) × (Int × Unit))))))) fun v44 => (some (v44.1, (v44.2.1, (v44.2.2.1, (v44.2.2.2.1, (v44.2.2.2.2.1, ()))))))))) : (Option (Bool × (Int × (Int × ((List D_Link) × (Int × Unit))))))) fun v45 => (if v45.1 = true then (some (Out.ret (false, ()))) else (some (Out.norm ((addZ .i64 v45.2.1 1), (v45.2.2.1, (v45.2.2.2.1, (v45.2.2.2.2.1, ())))))))))) else (some (Out.exit (Sum.inl ((ltZ v35.1 v35.2.1), (v35.1, (v35.2.1, (v35.2.2.1, (v35.2.2.2.1, ()))))))))))
def spec_ProjectOk (x : (D_Project × Unit)) (c : Unit) : (Option (Bool × Unit)) :=
  (Option.bind ((Option.bind (spec_l01In (x.1.1, (1, (60, ()))) ()) fun v0 => (some v0.1)) : (Option Bool)) fun v1 => (Option.bind ((if (notB v1) = true then (some (true, (x.1, ((lenI x.1.2.1), ())))) else (Option.bind ((Option.bind (spec_l01In ((lenI x.1.2.1), (1, (6, ()))) ()) fun v2 => (some v2.1)) : (Option Bool)) fun v3 => (Option.bind ((if (notB v3) = true then (some (true, (x.1, ((lenI x.1.2.1), ())))) else (Option.bind ((if (ltZ 3 (lenI x.1.2.2.2.1)) = true then (some (true, (x.1, ((lenI x.1.2.1), ())))) else (Option.bind ((if (ltZ 2 (lenI x.1.2.2.2.2.1)) = true then (some (true, (x.1, ((lenI x.1.2.1), ())))) else (some ((ltZ 12 (lenI x.1.2.2.1)), (x.1, ((lenI x.1.2.1), ()))))) : (Option (Bool × (D_Project × (Int × Unit))))) fun v4 => (some (v4.1, (v4.2.1, (v4.2.2.1, ())))))) : (Option (Bool × (D_Project × (Int × Unit))))) fun v5 => (some (v5.1, (v5.2.1, (v5.2.2.1, ())))))) : (Option (Bool × (D_Project × (Int × Unit))))) fun v6 => (some (v6.1, (v6.2.1, (v6.2.2.1, ()))))))) : (Option (Bool × (D_Project × (Int × Unit))))) fun v7 => (if v7.1 = true then (some (false, ())) else (Option.bind (loopN (A := s_spec_ProjectOk_L0) big spec_ProjectOk_L0 (0, ((lenI v7.2.1.2.1), (v7.2.1.2.1, (v7.2.1, (v7.2.2.1, ())))))) fun v15 => (match v15 with | Out.norm v16 => none | Out.exit v17 => (match ((match v17 with | Sum.inl v63 => (Sum.inl (v63.2.2.2.2.1, (v63.2.2.2.2.2.1, ()))) | Sum.inr v64 => (Empty.elim v64)) : ((D_Project × (Int × Unit)) ⊕ Empty)) with | Sum.inl v18 => (Option.bind (loopN (A := s_spec_ProjectOk_L1) big spec_ProjectOk_L1 (0, ((lenI v18.1.2.2.2.1), (v18.1.2.2.2.1, (v18.1, (v18.2.1, ())))))) fun v23 => (match v23 with | Out.norm v24 => none | Out.exit v25 => (match ((match v25 with | Sum.inl v59 => (Sum.inl (v59.2.2.2.2.1, (v59.2.2.2.2.2.1, ()))) | Sum.inr v60 => (Empty.elim v60)) : ((D_Project × (Int × Unit)) ⊕ Empty)) with | Sum.inl v26 => (Option.bind (loopN (A := s_spec_ProjectOk_L2) big spec_ProjectOk_L2 (0, ((lenI v26.1.2.2.2.2.1), (v26.1.2.2.2.2.1, (v26.1, (v26.2.1, ())))))) fun v31 => (match v31 with | Out.norm v32 => none | Out.exit v33 => (match ((match v33 with | Sum.inl v55 => (Sum.inl (v55.2.2.2.2.1, (v55.2.2.2.2.2.1, ()))) | Sum.inr v56 => (Empty.elim v56)) : ((D_Project × (Int × Unit)) ⊕ Empty)) with | Sum.inl v34 => (Option.bind (loopN (A := s_spec_ProjectOk_L3) big spec_ProjectOk_L3 (0, ((lenI v34.1.2.2.1), (v34.1.2.2.1, (v34.2.1, ()))))) fun v46 => (match v46 with | Out.norm v47 => none | Out.exit v48 => (match ((match v48 with | Sum.inl v51 => (Sum.inl ()) | Sum.inr v52 => (Empty.elim v52)) : (Unit ⊕ Empty)) with | Sum.inl v49 => (some (true, ())) | Sum.inr v50 => none) | Out.ret v53 => (some v53))) | Sum.inr v54 => none) | Out.ret v57 => (some v57))) | Sum.inr v58 => none) | Out.ret v61 => (some v61))) | Sum.inr v62 => none) | Out.ret v65 => (some v65))))))
def H_spec_ProjectOk : Hd := ⟨[y_0], [], none, .p, .bool, .p, []⟩
def T_spec_ProjectOk : FSig := sg_ H_spec_ProjectOk spec_ProjectOk
theorem E_spec_ProjectOk : fnOf tys [(200, T_spec_l01In), (201, T_spec_ActivityOk), (202, T_spec_ActivityIndex), (203, T_spec_ResourceOk)] Tryz.f150 H_spec_ProjectOk = T_spec_ProjectOk := by kernel_rfl
theorem K_spec_ProjectOk : SigOk Tryz.prog 150 T_spec_ProjectOk := e_k E_spec_ProjectOk (fnOf_ok rfl tysOk ⟨K_spec_l01In, K_spec_ActivityOk, K_spec_ActivityIndex, K_spec_ResourceOk, trivial⟩ Tryz.func150 (by decide) rfl (fun _ h => by cases h) (nilEq_of (by kernel_rfl)))
abbrev s_spec_IntRange_L0 : Type := (Int × (Int × ((List Int) × Unit)))
def spec_IntRange_L0 : s_spec_IntRange_L0 → Option (Out s_spec_IntRange_L0 ((Bool × s_spec_IntRange_L0) ⊕ Empty) ((List Int) × Unit)) :=
  (fun v2 => (if (ltZ v2.1 v2.2.1) = true then (Option.bind (addI v2.2.2.1 (v2.1 :: [])) fun v3 => (some (Out.norm ((addZ .i64 v2.1 1), (v2.2.1, (v3, ())))))) else (some (Out.exit (Sum.inl ((ltZ v2.1 v2.2.1), (v2.1, (v2.2.1, (v2.2.2.1, ())))))))))
def spec_IntRange (x : (Int × Unit)) (c : Unit) : (Option ((List Int) × Unit)) :=
  (Option.bind ((Option.bind (spec_l01In (x.1, (0, (200, ()))) ()) fun v0 => (some v0.1)) : (Option Bool)) fun v1 => (if (notB v1) = true then (some ([], ())) else (Option.bind (loopN (A := s_spec_IntRange_L0) big spec_IntRange_L0 (0, (x.1, ([], ())))) fun v4 => (match v4 with | Out.norm v5 => none | Out.exit v6 => (match ((match v6 with | Sum.inl v9 => (Sum.inl (v9.2.2.2.1, ())) | Sum.inr v10 => (Empty.elim v10)) : (((List Int) × Unit) ⊕ Empty)) with | Sum.inl v7 => (some (v7.1, ())) | Sum.inr v8 => none) | Out.ret v11 => (some v11)))))
def H_spec_IntRange : Hd := ⟨[.int .i64], [], none, .p, .sl 3 (.int .i64), (Ty.all (.sl 3 (.int .i64))), []⟩
def T_spec_IntRange : FSig := sg_ H_spec_IntRange spec_IntRange
theorem E_spec_IntRange : fnOf tys [(200, T_spec_l01In)] Tryz.f247 H_spec_IntRange = T_spec_IntRange := by kernel_rfl
theorem K_spec_IntRange : SigOk Tryz.prog 247 T_spec_IntRange := e_k E_spec_IntRange (fnOf_ok rfl tysOk ⟨K_spec_l01In, trivial⟩ Tryz.func247 (by decide) rfl (fun _ h => by cases h) (nilEq_of (by kernel_rfl)))
def spec_ModeIndexes (x : (D_Activity × Unit)) (c : Unit) : (Option ((List Int) × Unit)) :=
  (Option.bind ((Option.bind (spec_IntRange ((lenI x.1.2.2.1), ()) ()) fun v0 => (some v0.1)) : (Option (List Int))) fun v1 => (some (v1, ())))
def H_spec_ModeIndexes : Hd := ⟨[y_1], [], none, .p, .sl 3 (.int .i64), (Ty.all (.sl 3 (.int .i64))), []⟩
def T_spec_ModeIndexes : FSig := sg_ H_spec_ModeIndexes spec_ModeIndexes
theorem E_spec_ModeIndexes : fnOf tys [(247, T_spec_IntRange)] Tryz.f204 H_spec_ModeIndexes = T_spec_ModeIndexes := by kernel_rfl
theorem K_spec_ModeIndexes : SigOk Tryz.prog 204 T_spec_ModeIndexes := e_k E_spec_ModeIndexes (fnOf_ok rfl tysOk ⟨K_spec_IntRange, trivial⟩ Tryz.func204 (by decide) rfl (fun _ h => by cases h) (nilEq_of (by kernel_rfl)))
abbrev s_spec_l12Of_L0 : Type := (Int × (Int × ((List D_Activity) × (D_Project × (D_Domain × (D_Domain × Unit))))))
def spec_l12Of_L0 : s_spec_l12Of_L0 → Option (Out s_spec_l12Of_L0 ((Bool × s_spec_l12Of_L0) ⊕ Empty) (D_Domain × Unit)) :=
  (fun v0 => (if (ltZ v0.1 v0.2.1) = true then (Option.bind (getI v0.2.2.1 v0.1) fun v1 => (Option.bind (addI v0.2.2.2.2.1.1 (0 :: [])) fun v2 => (Option.bind (addI v0.2.2.2.2.1.2.1 ((subZ .i64 v0.2.2.2.1.1 1) :: [])) fun v3 => (Option.bind ((Option.bind (spec_ModeIndexes (v1, ()) ()) fun v4 => (some v4.1)) : (Option (List Int))) fun v5 => (Option.bind (addI v0.2.2.2.2.1.2.2.1 (v5 :: [])) fun v6 => (some (Out.norm ((addZ .i64 v0.1 1), (v0.2.1, (v0.2.2.1, (v0.2.2.2.1, ((v2, (v3, (v6, v0.2.2.2.2.1.2.2.2))), (v0.2.2.2.2.2.1, ()))))))))))))) else (some (Out.exit (Sum.inl ((ltZ v0.1 v0.2.1), (v0.1, (v0.2.1, (v0.2.2.1, (v0.2.2.2.1, (v0.2.2.2.2.1, (v0.2.2.2.2.2.1, ()))))))))))))
def spec_l12Of (x : (D_Project × Unit)) (c : Unit) : (Option (D_Domain × Unit)) :=
  (Option.bind (loopN (A := s_spec_l12Of_L0) big spec_l12Of_L0 (0, ((lenI x.1.2.1), (x.1.2.1, (x.1, (([], ([], ([], ()))), (([], ([], ([], ()))), ()))))))) fun v7 => (match v7 with | Out.norm v8 => none | Out.exit v9 => (match ((match v9 with | Sum.inl v12 => (Sum.inl (v12.2.2.2.2.2.1, (v12.2.2.2.2.2.2.1, ()))) | Sum.inr v13 => (Empty.elim v13)) : ((D_Domain × (D_Domain × Unit)) ⊕ Empty)) with | Sum.inl v10 => (some (v10.1, ())) | Sum.inr v11 => none) | Out.ret v14 => (some v14)))
def H_spec_l12Of : Hd := ⟨[y_0], [], none, .p, y_3, (Ty.all (y_3)), []⟩
def T_spec_l12Of : FSig := sg_ H_spec_l12Of spec_l12Of
theorem E_spec_l12Of : fnOf tys [(204, T_spec_ModeIndexes)] Tryz.f151 H_spec_l12Of = T_spec_l12Of := by kernel_rfl
theorem K_spec_l12Of : SigOk Tryz.prog 151 T_spec_l12Of := e_k E_spec_l12Of (fnOf_ok rfl tysOk ⟨K_spec_ModeIndexes, trivial⟩ Tryz.func151 (by decide) rfl (fun _ h => by cases h) (nilEq_of (by kernel_rfl)))
def spec_InitialDomain (x : (D_Project × Unit)) (c : Unit) : (Option (D_Domain × Unit)) :=
  (Option.bind ((Option.bind (spec_ProjectOk (x.1, ()) ()) fun v0 => (some v0.1)) : (Option Bool)) fun v1 => (if (notB v1) = true then (some (([], ([], ([], ()))), ())) else (Option.bind ((Option.bind (spec_l12Of (x.1, ()) ()) fun v2 => (some v2.1)) : (Option D_Domain)) fun v3 => (some (v3, ())))))
def H_spec_InitialDomain : Hd := ⟨[y_0], [], none, .p, y_3, (Ty.all (y_3)), []⟩
def T_spec_InitialDomain : FSig := sg_ H_spec_InitialDomain spec_InitialDomain
theorem E_spec_InitialDomain : fnOf tys [(150, T_spec_ProjectOk), (151, T_spec_l12Of)] Tryz.f67 H_spec_InitialDomain = T_spec_InitialDomain := by kernel_rfl
theorem K_spec_InitialDomain : SigOk Tryz.prog 67 T_spec_InitialDomain := e_k E_spec_InitialDomain (fnOf_ok rfl tysOk ⟨K_spec_ProjectOk, K_spec_l12Of, trivial⟩ Tryz.func67 (by decide) rfl (fun _ h => by cases h) (nilEq_of (by kernel_rfl)))
def spec_l02Min (x : D_Step) (c : Unit) : (Option (Int × Unit)) :=
  (if (ltZ x.1 x.2.1) = true then (some (x.1, ())) else (some (x.2.1, ())))
def H_spec_l02Min : Hd := ⟨[.int .i64, .int .i64], [], none, .p, .int .i64, .p, []⟩
def T_spec_l02Min : FSig := sg_ H_spec_l02Min spec_l02Min
theorem E_spec_l02Min : fnOf tys [] Tryz.f69 H_spec_l02Min = T_spec_l02Min := by kernel_rfl
theorem K_spec_l02Min : SigOk Tryz.prog 69 T_spec_l02Min := e_k E_spec_l02Min (fnOf_ok rfl tysOk trivial Tryz.func69 (by decide) rfl (fun _ h => by cases h) (nilEq_of (by kernel_rfl)))
abbrev s_spec_MakeMachine_L0 : Type := (Int × (Int × (D_l01Cur × (D_Project × (D_Domain × (D_Project × (D_Domain × Unit)))))))
def spec_MakeMachine_L0 : s_spec_MakeMachine_L0 → Option (Out s_spec_MakeMachine_L0 ((Bool × s_spec_MakeMachine_L0) ⊕ Empty) ((D_Project × (D_Domain × Unit)) × Unit)) :=
  (fun v12 => (if (ltZ v12.1 v12.2.1) = true then (Option.bind (spec_l01Below (v12.2.2.1, (3, ())) ()) fun v13 => (Option.bind ((Option.bind (getI v12.2.2.2.2.1.1 v12.1) fun v14 => (some ())) : (Option Unit)) fun v15 => (Option.bind ((Option.bind ((Option.bind (getI v12.2.2.2.2.1.1 v12.1) fun v16 => (some v16)) : (Option Int)) fun v17 => (some v13.1)) : (Option Int)) fun v18 => (Option.bind ((Option.bind (getI (setI v12.2.2.2.2.1.1 v12.1 (fun v19 => v18)) v12.1) fun v20 => (some ())) : (Option Unit)) fun v21 => (Option.bind ((Option.bind (getI (setI v12.2.2.2.2.1.1 v12.1 (fun v22 => v18)) v12.1) fun v23 => (some v23)) : (Option Int)) fun v24 => (Option.bind (spec_l01Below (v13.2, (4, ())) ()) fun v25 => (Option.bind ((Option.bind (spec_l02Min (5, ((addZ .i64 v24 v25.1), ())) ()) fun v26 => (some v26.1)) : (Option Int)) fun v27 => (Option.bind ((Option.bind (getI v12.2.2.2.2.1.2.1 v12.1) fun v28 => (some ())) : (Option Unit)) fun v29 => (Option.bind ((Option.bind ((Option.bind (getI v12.2.2.2.2.1.2.1 v12.1) fun v30 => (some v30)) : (Option Int)) fun v31 => (some v27)) : (Option Int)) fun v32 => (some (Out.norm ((addZ .i64 v12.1 1), (v12.2.1, (v25.2, (v12.2.2.2.1, (((setI v12.2.2.2.2.1.1 v12.1 (fun v33 => v18)), ((setI v12.2.2.2.2.1.2.1 v12.1 (fun v34 => v32)), v12.2.2.2.2.1.2.2)), (v12.2.2.2.2.2.1, (v12.2.2.2.2.2.2.1, ())))))))))))))))))) else (some (Out.exit (Sum.inl ((ltZ v12.1 v12.2.1), (v12.1, (v12.2.1, (v12.2.2.1, (v12.2.2.2.1, (v12.2.2.2.2.1, (v12.2.2.2.2.2.1, (v12.2.2.2.2.2.2.1, ())))))))))))))
def spec_MakeMachine (x : ((List Int) × Unit)) (c : Unit) : (Option ((D_Project × (D_Domain × Unit)) × Unit)) :=
  (Option.bind ((Option.bind (spec_l01New (x.1, ()) ()) fun v0 => (some v0.1)) : (Option D_l01Cur)) fun v1 => (Option.bind (spec_l05Draw (v1, (2, ())) ()) fun v2 => (Option.bind (spec_l05Setup (v2.2, ()) ()) fun v3 => (Option.bind ((Option.bind (getI v2.1.2.2.2.1 0) fun v4 => (some ())) : (Option Unit)) fun v5 => (Option.bind ((Option.bind ((Option.bind (getI v2.1.2.2.2.1 0) fun v6 => (some v6.2.1)) : (Option (List (List Int)))) fun v7 => (some v3.1)) : (Option (List (List Int)))) fun v8 => (Option.bind ((Option.bind (spec_InitialDomain ((6, (v2.1.2.1, (v2.1.2.2.1, ((setI v2.1.2.2.2.1 0 (fun v9 => (v9.1, (v8, v9.2.2)))), v2.1.2.2.2.2)))), ()) ()) fun v10 => (some v10.1)) : (Option D_Domain)) fun v11 => (Option.bind (loopN (A := s_spec_MakeMachine_L0) big spec_MakeMachine_L0 (0, ((lenI v2.1.2.1), (v3.2, ((6, (v2.1.2.1, (v2.1.2.2.1, ((setI v2.1.2.2.2.1 0 (fun v35 => (v35.1, (v8, v35.2.2)))), v2.1.2.2.2.2)))), (v11, ((0, ([], ([], ([], ([], ()))))), (([], ([], ([], ()))), ())))))))) fun v36 => (match v36 with | Out.norm v37 => none | Out.exit v38 => (match ((match v38 with | Sum.inl v41 => (Sum.inl (v41.2.2.2.2.1, (v41.2.2.2.2.2.1, (v41.2.2.2.2.2.2.1, (v41.2.2.2.2.2.2.2.1, ()))))) | Sum.inr v42 => (Empty.elim v42)) : ((D_Project × (D_Domain × (D_Project × (D_Domain × Unit)))) ⊕ Empty)) with | Sum.inl v39 => (some ((v39.1, (v39.2.1, ())), ())) | Sum.inr v40 => none) | Out.ret v43 => (some v43)))))))))
def H_spec_MakeMachine : Hd := ⟨[.sl 5 (.int .u8)], [], none, .p, .tup [y_0, y_3], (Ty.all (.tup [y_0, y_3])), [(3000000015, .p), (3000000030, .p), (3000000041, .p)]⟩
def T_spec_MakeMachine : FSig := sg_ H_spec_MakeMachine spec_MakeMachine
theorem E_spec_MakeMachine : fnOf tys [(64, T_spec_l01New), (65, T_spec_l05Draw), (66, T_spec_l05Setup), (67, T_spec_InitialDomain), (68, T_spec_l01Below), (69, T_spec_l02Min)] Tryz.f8 H_spec_MakeMachine = T_spec_MakeMachine := by kernel_rfl
theorem K_spec_MakeMachine : SigOk Tryz.prog 8 T_spec_MakeMachine := e_k E_spec_MakeMachine (fnOf_ok rfl tysOk ⟨K_spec_l01New, K_spec_l05Draw, K_spec_l05Setup, K_spec_InitialDomain, K_spec_l01Below, K_spec_l02Min, trivial⟩ Tryz.func8 (by decide) rfl (fun _ h => by cases h) (nilEq_of (by kernel_rfl)))
def impl_within (x : (Int × D_Step)) (c : Unit) : (Option (Bool × Unit)) :=
  (Option.bind ((if (leZ x.2.1 x.1) = true then (some ((leZ x.1 x.2.2.1), ())) else (some (false, ()))) : (Option (Bool × Unit))) fun v0 => (some (v0.1, ())))
def H_impl_within : Hd := ⟨[.int .i64, .int .i64, .int .i64], [], none, .p, .bool, .p, []⟩
def T_impl_within : FSig := sg_ H_impl_within impl_within
theorem E_impl_within : fnOf tys [] Tryz.f75 H_impl_within = T_impl_within := by kernel_rfl
theorem K_impl_within : SigOk Tryz.prog 75 T_impl_within := e_k E_impl_within (fnOf_ok rfl tysOk trivial Tryz.func75 (by decide) rfl (fun _ h => by cases h) (nilEq_of (by kernel_rfl)))
def impl_isAmount (x : (Int × Unit)) (c : Unit) : (Option (Bool × Unit)) :=
  (Option.bind ((Option.bind (impl_within (x.1, (0, (20, ()))) ()) fun v0 => (some v0.1)) : (Option Bool)) fun v1 => (some (v1, ())))
def H_impl_isAmount : Hd := ⟨[.int .i64], [], none, .p, .bool, .p, []⟩
def T_impl_isAmount : FSig := sg_ H_impl_isAmount impl_isAmount
theorem E_impl_isAmount : fnOf tys [(75, T_impl_within)] Tryz.f243 H_impl_isAmount = T_impl_isAmount := by kernel_rfl
theorem K_impl_isAmount : SigOk Tryz.prog 243 T_impl_isAmount := e_k E_impl_isAmount (fnOf_ok rfl tysOk ⟨K_impl_within, trivial⟩ Tryz.func243 (by decide) rfl (fun _ h => by cases h) (nilEq_of (by kernel_rfl)))
abbrev s_impl_areAmounts_L0 : Type := (Int × (Int × ((List Int) × ((List Int) × (Int × Unit)))))
def impl_areAmounts_L0 : s_impl_areAmounts_L0 → Option (Out s_impl_areAmounts_L0 ((Bool × s_impl_areAmounts_L0) ⊕ Empty) (Bool × Unit)) :=
  (fun v0 => (if (ltZ v0.1 v0.2.1) = true then (Option.bind (getI v0.2.2.1 v0.1) fun v1 => (Option.bind ((Option.bind (impl_isAmount (v1, ()) ()) fun v2 => (some v2.1)) : (Option Bool)) fun v3 => (if (notB v3) = true then (some (Out.ret (false, ()))) else (some (Out.norm ((addZ .i64 v0.1 1), (v0.2.1, (v0.2.2.1, (v0.2.2.2.1, (v0.2.2.2.2.1, ())))))))))) else (some (Out.exit (Sum.inl ((ltZ v0.1 v0.2.1), (v0.1, (v0.2.1, (v0.2.2.1, (v0.2.2.2.1, (v0.2.2.2.2.1, ())))))))))))
def impl_areAmounts (x : ((List Int) × (Int × Unit))) (c : Unit) : (Option (Bool × Unit)) :=
  (Option.bind (loopN (A := s_impl_areAmounts_L0) big impl_areAmounts_L0 (0, ((lenI x.1), (x.1, (x.1, (x.2.1, ())))))) fun v4 => (match v4 with | Out.norm v5 => none | Out.exit v6 => (match ((match v6 with | Sum.inl v9 => (Sum.inl (v9.2.2.2.2.1, (v9.2.2.2.2.2.1, ()))) | Sum.inr v10 => (Empty.elim v10)) : (((List Int) × (Int × Unit)) ⊕ Empty)) with | Sum.inl v7 => (some ((eqZ (lenI v7.1) v7.2.1), ())) | Sum.inr v8 => none) | Out.ret v11 => (some v11)))
def H_impl_areAmounts : Hd := ⟨[.sl 3 (.int .i64), .int .i64], [], none, .p, .bool, .p, []⟩
def T_impl_areAmounts : FSig := sg_ H_impl_areAmounts impl_areAmounts
theorem E_impl_areAmounts : fnOf tys [(243, T_impl_isAmount)] Tryz.f242 H_impl_areAmounts = T_impl_areAmounts := by kernel_rfl
theorem K_impl_areAmounts : SigOk Tryz.prog 242 T_impl_areAmounts := e_k E_impl_areAmounts (fnOf_ok rfl tysOk ⟨K_impl_isAmount, trivial⟩ Tryz.func242 (by decide) rfl (fun _ h => by cases h) (nilEq_of (by kernel_rfl)))
def impl_ModeOk (x : (D_Mode × D_Step)) (c : Unit) : (Option (Bool × Unit)) :=
  (Option.bind ((Option.bind (impl_within (x.1.1, (1, (12, ()))) ()) fun v0 => (some v0.1)) : (Option Bool)) fun v1 => (Option.bind ((if v1 = true then (Option.bind ((Option.bind (impl_areAmounts (x.1.2.1, (x.2.1, ())) ()) fun v2 => (some v2.1)) : (Option Bool)) fun v3 => (Option.bind ((if v3 = true then (Option.bind ((Option.bind (impl_areAmounts (x.1.2.2.1, (x.2.2.1, ())) ()) fun v4 => (some v4.1)) : (Option Bool)) fun v5 => (some (v5, ()))) else (some (false, ()))) : (Option (Bool × Unit))) fun v6 => (some (v6.1, ())))) else (some (false, ()))) : (Option (Bool × Unit))) fun v7 => (some (v7.1, ()))))
def H_impl_ModeOk : Hd := ⟨[y_4, .int .i64, .int .i64], [], none, .p, .bool, .p, []⟩
def T_impl_ModeOk : FSig := sg_ H_impl_ModeOk impl_ModeOk
theorem E_impl_ModeOk : fnOf tys [(75, T_impl_within), (242, T_impl_areAmounts)] Tryz.f193 H_impl_ModeOk = T_impl_ModeOk := by kernel_rfl
theorem K_impl_ModeOk : SigOk Tryz.prog 193 T_impl_ModeOk := e_k E_impl_ModeOk (fnOf_ok rfl tysOk ⟨K_impl_within, K_impl_areAmounts, trivial⟩ Tryz.func193 (by decide) rfl (fun _ h => by cases h) (nilEq_of (by kernel_rfl)))
abbrev s_impl_IsName_L0 : Type := (Int × (Int × ((List UInt8) × Unit)))
def impl_IsName_L0 : s_impl_IsName_L0 → Option (Out s_impl_IsName_L0 ((Bool × s_impl_IsName_L0) ⊕ Empty) (Bool × Unit)) :=
  (fun v0 => (if (ltZ v0.1 v0.2.1) = true then (Option.bind (byteAt v0.2.2.1 v0.1) fun v1 => (Option.bind ((if (leZ 97 v1) = true then (Option.bind (byteAt v0.2.2.1 v0.1) fun v2 => (some ((leZ v2 122), (v0.1, (v0.1, (v0.2.1, (v0.2.2.1, ()))))))) else (some (false, (v0.1, (v0.1, (v0.2.1, (v0.2.2.1, ()))))))) : (Option (Bool × (Int × (Int × (Int × ((List UInt8) × Unit))))))) fun v3 => (Option.bind ((if (notB v3.1) = true then (Option.bind ((if (eqZ v3.2.1 0) = true then (some (true, (v3.2.2.1, (v3.2.2.2.1, (v3.2.2.2.2.1, ()))))) else (Option.bind (byteAt v3.2.2.2.2.1 v3.2.1) fun v4 => (Option.bind ((if (ltZ v4 48) = true then (some (true, (v3.2.2.1, (v3.2.2.2.1, (v3.2.2.2.2.1, ()))))) else (Option.bind (byteAt v3.2.2.2.2.1 v3.2.1) fun v5 => (some ((ltZ 57 v5), (v3.2.2.1, (v3.2.2.2.1, (v3.2.2.2.2.1, ()))))))) : (Option (Bool × (Int × (Int × ((List UInt8) × Unit)))))) fun v6 => (some (v6.1, (v6.2.1, (v6.2.2.1, (v6.2.2.2.1, ())))))))) : (Option (Bool × (Int × (Int × ((List UInt8) × Unit)))))) fun v7 => (some (v7.1, (v7.2.1, (v7.2.2.1, (v7.2.2.2.1, ())))))) else (some (false, (v3.2.2.1, (v3.2.2.2.1, (v3.2.2.2.2.1, ())))))) : (Option (Bool × (Int × (Int × ((List UInt8) × Unit)))))) fun v8 => (if v8.1 = true then (some (Out.ret (false, ()))) else (some (Out.norm ((addZ .i64 v8.2.1 1), (v8.2.2.1, (v8.2.2.2.1, ()))))))))) else (some (Out.exit (Sum.inl ((ltZ v0.1 v0.2.1), (v0.1, (v0.2.1, (v0.2.2.1, ())))))))))
def impl_IsName (x : ((List UInt8) × Unit)) (c : Unit) : (Option (Bool × Unit)) :=
  (Option.bind (loopN (A := s_impl_IsName_L0) big impl_IsName_L0 (0, ((lenI x.1), (x.1, ())))) fun v9 => (match v9 with | Out.norm v10 => none | Out.exit v11 => (match ((match v11 with | Sum.inl v16 => (Sum.inl (v16.2.2.2.1, ())) | Sum.inr v17 => (Empty.elim v17)) : (((List UInt8) × Unit) ⊕ Empty)) with | Sum.inl v12 => (Option.bind ((Option.bind (impl_within ((lenI v12.1), (1, (8, ()))) ()) fun v13 => (some v13.1)) : (Option Bool)) fun v14 => (some (v14, ()))) | Sum.inr v15 => none) | Out.ret v18 => (some v18)))
def H_impl_IsName : Hd := ⟨[.str], [], none, .p, .bool, .p, []⟩
def T_impl_IsName : FSig := sg_ H_impl_IsName impl_IsName
theorem E_impl_IsName : fnOf tys [(75, T_impl_within)] Tryz.f194 H_impl_IsName = T_impl_IsName := by kernel_rfl
theorem K_impl_IsName : SigOk Tryz.prog 194 T_impl_IsName := e_k E_impl_IsName (fnOf_ok rfl tysOk ⟨K_impl_within, trivial⟩ Tryz.func194 (by decide) rfl (fun _ h => by cases h) (nilEq_of (by kernel_rfl)))
abbrev s_impl_ActivityOk_L0 : Type := (Int × (Int × ((List D_Mode) × (Int × (Int × (D_Activity × Unit))))))
def impl_ActivityOk_L0 : s_impl_ActivityOk_L0 → Option (Out s_impl_ActivityOk_L0 ((Bool × s_impl_ActivityOk_L0) ⊕ Empty) (Bool × Unit)) :=
  (fun v0 => (if (ltZ v0.1 v0.2.1) = true then (Option.bind (getI v0.2.2.1 v0.1) fun v1 => (Option.bind ((Option.bind (impl_ModeOk (v1, (v0.2.2.2.1, (v0.2.2.2.2.1, ()))) ()) fun v2 => (some v2.1)) : (Option Bool)) fun v3 => (if (notB v3) = true then (some (Out.ret (false, ()))) else (some (Out.norm ((addZ .i64 v0.1 1), (v0.2.1, (v0.2.2.1, (v0.2.2.2.1, (v0.2.2.2.2.1, (v0.2.2.2.2.2.1, ()))))))))))) else (some (Out.exit (Sum.inl ((ltZ v0.1 v0.2.1), (v0.1, (v0.2.1, (v0.2.2.1, (v0.2.2.2.1, (v0.2.2.2.2.1, (v0.2.2.2.2.2.1, ()))))))))))))
def impl_ActivityOk (x : (D_Activity × D_Step)) (c : Unit) : (Option (Bool × Unit)) :=
  (Option.bind (loopN (A := s_impl_ActivityOk_L0) big impl_ActivityOk_L0 (0, ((lenI x.1.2.2.1), (x.1.2.2.1, (x.2.1, (x.2.2.1, (x.1, ()))))))) fun v4 => (match v4 with | Out.norm v5 => none | Out.exit v6 => (match ((match v6 with | Sum.inl v17 => (Sum.inl (v17.2.2.2.2.2.2.1, ())) | Sum.inr v18 => (Empty.elim v18)) : ((D_Activity × Unit) ⊕ Empty)) with | Sum.inl v7 => (Option.bind ((Option.bind (impl_IsName (v7.1.1, ()) ()) fun v8 => (some v8.1)) : (Option Bool)) fun v9 => (Option.bind ((if v9 = true then (Option.bind ((Option.bind (impl_within (v7.1.2.1, (0, (3, ()))) ()) fun v10 => (some v10.1)) : (Option Bool)) fun v11 => (Option.bind ((if v11 = true then (Option.bind ((Option.bind (impl_within ((lenI v7.1.2.2.1), (1, (3, ()))) ()) fun v12 => (some v12.1)) : (Option Bool)) fun v13 => (some (v13, ()))) else (some (false, ()))) : (Option (Bool × Unit))) fun v14 => (some (v14.1, ())))) else (some (false, ()))) : (Option (Bool × Unit))) fun v15 => (some (v15.1, ())))) | Sum.inr v16 => none) | Out.ret v19 => (some v19)))
def H_impl_ActivityOk : Hd := ⟨[y_1, .int .i64, .int .i64], [], none, .p, .bool, .p, []⟩
def T_impl_ActivityOk : FSig := sg_ H_impl_ActivityOk impl_ActivityOk
theorem E_impl_ActivityOk : fnOf tys [(75, T_impl_within), (193, T_impl_ModeOk), (194, T_impl_IsName)] Tryz.f141 H_impl_ActivityOk = T_impl_ActivityOk := by kernel_rfl
theorem K_impl_ActivityOk : SigOk Tryz.prog 141 T_impl_ActivityOk := e_k E_impl_ActivityOk (fnOf_ok rfl tysOk ⟨K_impl_within, K_impl_ModeOk, K_impl_IsName, trivial⟩ Tryz.func141 (by decide) rfl (fun _ h => by cases h) (nilEq_of (by kernel_rfl)))
abbrev s_slices_IndexFunc_impl_Activity_impl_Activity_L0 : Type := (Int × (Int × (((D_Activity × Unit) → (Option Bool)) × ((List D_Activity) × Unit))))
def slices_IndexFunc_impl_Activity_impl_Activity_L0 : s_slices_IndexFunc_impl_Activity_impl_Activity_L0 → Option (Out s_slices_IndexFunc_impl_Activity_impl_Activity_L0 ((Bool × s_slices_IndexFunc_impl_Activity_impl_Activity_L0) ⊕ Empty) (Int × Unit)) :=
  (fun v0 => (if (ltZ v0.1 v0.2.1) = true then (Option.bind (getI v0.2.2.2.1 v0.1) fun v1 => (Option.bind (v0.2.2.1 (v1, ())) fun v2 => (if v2 = true then (some (Out.ret (v0.1, ()))) else (some (Out.norm ((addZ .i64 v0.1 1), (v0.2.1, (v0.2.2.1, (v0.2.2.2.1, ()))))))))) else (some (Out.exit (Sum.inl ((ltZ v0.1 v0.2.1), (v0.1, (v0.2.1, (v0.2.2.1, (v0.2.2.2.1, ()))))))))))
def slices_IndexFunc_impl_Activity_impl_Activity (x : ((List D_Activity) × (((D_Activity × Unit) → (Option Bool)) × Unit))) (c : Unit) : (Option (Int × Unit)) :=
  (Option.bind (loopN (A := s_slices_IndexFunc_impl_Activity_impl_Activity_L0) big slices_IndexFunc_impl_Activity_impl_Activity_L0 (0, ((lenI x.1), (x.2.1, (x.1, ()))))) fun v3 => (match v3 with | Out.norm v4 => none | Out.exit v5 => (match ((match v5 with | Sum.inl v8 => (Sum.inl ()) | Sum.inr v9 => (Empty.elim v9)) : (Unit ⊕ Empty)) with | Sum.inl v6 => (some ((-1), ())) | Sum.inr v7 => none) | Out.ret v10 => (some v10)))
def H_slices_IndexFunc_impl_Activity_impl_Activity : Hd := ⟨[.sl 88 (y_1), .fn [y_1] (.bool)], [], none, .p, .int .i64, .p, []⟩
def T_slices_IndexFunc_impl_Activity_impl_Activity : FSig := sg_ H_slices_IndexFunc_impl_Activity_impl_Activity slices_IndexFunc_impl_Activity_impl_Activity
theorem E_slices_IndexFunc_impl_Activity_impl_Activity : fnOf tys [] Tryz.f195 H_slices_IndexFunc_impl_Activity_impl_Activity = T_slices_IndexFunc_impl_Activity_impl_Activity := by kernel_rfl
theorem K_slices_IndexFunc_impl_Activity_impl_Activity : SigOk Tryz.prog 195 T_slices_IndexFunc_impl_Activity_impl_Activity := e_k E_slices_IndexFunc_impl_Activity_impl_Activity (fnOf_ok rfl tysOk trivial Tryz.func195 (by decide) rfl (fun _ h => by cases h) (nilEq_of (by kernel_rfl)))
def impl_ActivityIndex_1 (x : (D_Activity × Unit)) (c : ((List UInt8) × Unit)) : (Option (Bool × Unit)) :=
  (some ((eqS x.1.1 c.1), ()))
def H_impl_ActivityIndex_1 : Hd := ⟨[y_1], [.str], none, .p, .bool, .p, []⟩
def T_impl_ActivityIndex_1 : FSig := sg_ H_impl_ActivityIndex_1 impl_ActivityIndex_1
theorem E_impl_ActivityIndex_1 : fnOf tys [] Tryz.f196 H_impl_ActivityIndex_1 = T_impl_ActivityIndex_1 := by kernel_rfl
theorem K_impl_ActivityIndex_1 : SigOk Tryz.prog 196 T_impl_ActivityIndex_1 := e_k E_impl_ActivityIndex_1 (fnOf_ok rfl tysOk trivial Tryz.func196 (by decide) rfl (fun _ h => by cases h) (nilEq_of (by kernel_rfl)))
def impl_ActivityIndex (x : (D_Project × ((List UInt8) × Unit))) (c : Unit) : (Option (Int × Unit)) :=
  (Option.bind ((Option.bind (slices_IndexFunc_impl_Activity_impl_Activity (x.1.2.1, ((fun v0 => (Option.bind (impl_ActivityIndex_1 v0 (x.2.1, ())) fun v1 => (some v1.1))), ())) ()) fun v2 => (some v2.1)) : (Option Int)) fun v3 => (some (v3, ())))
def H_impl_ActivityIndex : Hd := ⟨[y_0, .str], [], none, .p, .int .i64, .p, []⟩
def T_impl_ActivityIndex : FSig := sg_ H_impl_ActivityIndex impl_ActivityIndex
theorem E_impl_ActivityIndex : fnOf tys [(195, T_slices_IndexFunc_impl_Activity_impl_Activity), (196, T_impl_ActivityIndex_1)] Tryz.f142 H_impl_ActivityIndex = T_impl_ActivityIndex := by kernel_rfl
theorem K_impl_ActivityIndex : SigOk Tryz.prog 142 T_impl_ActivityIndex := e_k E_impl_ActivityIndex (fnOf_ok rfl tysOk ⟨K_slices_IndexFunc_impl_Activity_impl_Activity, K_impl_ActivityIndex_1, trivial⟩ Tryz.func142 (by decide) rfl (fun _ h => by cases h) (nilEq_of (by kernel_rfl)))
def impl_isTime (x : (Int × Unit)) (c : Unit) : (Option (Bool × Unit)) :=
  (Option.bind ((Option.bind (impl_within (x.1, (0, (60, ()))) ()) fun v0 => (some v0.1)) : (Option Bool)) fun v1 => (some (v1, ())))
def H_impl_isTime : Hd := ⟨[.int .i64], [], none, .p, .bool, .p, []⟩
def T_impl_isTime : FSig := sg_ H_impl_isTime impl_isTime
theorem E_impl_isTime : fnOf tys [(75, T_impl_within)] Tryz.f104 H_impl_isTime = T_impl_isTime := by kernel_rfl
theorem K_impl_isTime : SigOk Tryz.prog 104 T_impl_isTime := e_k E_impl_isTime (fnOf_ok rfl tysOk ⟨K_impl_within, trivial⟩ Tryz.func104 (by decide) rfl (fun _ h => by cases h) (nilEq_of (by kernel_rfl)))
abbrev s_impl_StepsOk_L0 : Type := (Int × (Int × ((List D_Step) × ((List D_Step) × Unit))))
def impl_StepsOk_L0 : s_impl_StepsOk_L0 → Option (Out s_impl_StepsOk_L0 ((Bool × s_impl_StepsOk_L0) ⊕ Empty) (Bool × Unit)) :=
  (fun v0 => (if (ltZ v0.1 v0.2.1) = true then (Option.bind (getI v0.2.2.1 v0.1) fun v1 => (Option.bind ((Option.bind (impl_isTime (v1.1, ()) ()) fun v2 => (some v2.1)) : (Option Bool)) fun v3 => (Option.bind ((if (notB v3) = true then (some (true, (v0.1, (v0.2.1, (v0.2.2.1, (v0.2.2.2.1, ())))))) else (Option.bind ((Option.bind (impl_isAmount (v1.2.1, ()) ()) fun v4 => (some v4.1)) : (Option Bool)) fun v5 => (Option.bind ((if (notB v5) = true then (some (true, (v0.1, (v0.2.1, (v0.2.2.1, (v0.2.2.2.1, ())))))) else (Option.bind ((if (eqZ v0.1 0) = true then (Option.bind ((if (notB (eqZ v1.1 0)) = true then (some (true, (v0.1, (v0.2.1, (v0.2.2.1, (v0.2.2.2.1, ())))))) else (Option.bind ((if (ltZ 0 v0.1) = true then (Option.bind (getI v0.2.2.2.1 (subZ .i64 v0.1 1)) fun v6 => (some ((leZ v1.1 v6.1), (v0.1, (v0.2.1, (v0.2.2.1, (v0.2.2.2.1, ()))))))) else (some (false, (v0.1, (v0.2.1, (v0.2.2.1, (v0.2.2.2.1, ()))))))) : (Option (Bool × (Int × (Int × ((List D_Step) × ((List D_Step) × Unit))))))) fun v7 => (some (v7.1, (v7.2.1, (v7.2.2.1, (v7.2.2.2.1, (v7.2.2.2.2.1, ())))))))) : (Option (Bool × (Int × (Int × ((List D_Step) × ((List D_Step) × Unit))))))) fun v8 => (some (v8.1, (v8.2.1, (v8.2.2.1, (v8.2.2.2.1, (v8.2.2.2.2.1, ()))))))) else (Option.bind ((if (ltZ 0 v0.1) = true then (Option.bind (getI v0.2.2.2.1 (subZ .i64 v0.1 1)) fun v9 => (some ((leZ v1.1 v9.1), (v0.1, (v0.2.1, (v0.2.2.1, (v0.2.2.2.1, ()))))))) else (some (false, (v0.1, (v0.2.1, (v0.2.2.1, (v0.2.2.2.1, ()))))))) : (Option (Bool × (Int × (Int × ((List D_Step) × ((List D_Step) × Unit))))))) fun v10 => (some (v10.1, (v10.2.1, (v10.2.2.1, (v10.2.2.2.1, (v10.2.2.2.2.1, ())))))))) : (Option (Bool × (Int × (Int × ((List D_Step) × ((List D_Step) × Unit))))))) fun v11 => (some (v11.1, (v11.2.1, (v11.2.2.1, (v11.2.2.2.1, (v11.2.2.2.2.1, ())))))))) : (Option (Bool × (Int × (Int × ((List D_Step) × ((List D_Step) × Unit))))))) fun v12 => (some (v12.1, (v12.2.1, (v12.2.2.1, (v12.2.2.2.1, (v12.2.2.2.2.1, ()))))))))) : (Option (Bool × (Int × (Int × ((List D_Step) × ((List D_Step) × Unit))))))) fun v13 => (if v13.1 = true then (some (Out.ret (false, ()))) else (some (Out.norm ((addZ .i64 v13.2.1 1), (v13.2.2.1, (v13.2.2.2.1, (v13.2.2.2.2.1, ())))))))))) else (some (Out.exit (Sum.inl ((ltZ v0.1 v0.2.1), (v0.1, (v0.2.1, (v0.2.2.1, (v0.2.2.2.1, ()))))))))))
def impl_StepsOk (x : ((List D_Step) × Unit)) (c : Unit) : (Option (Bool × Unit)) :=
  (Option.bind (loopN (A := s_impl_StepsOk_L0) big impl_StepsOk_L0 (0, ((lenI x.1), (x.1, (x.1, ()))))) fun v14 => (match v14 with | Out.norm v15 => none | Out.exit v16 => (match ((match v16 with | Sum.inl v21 => (Sum.inl (v21.2.2.2.2.1, ())) | Sum.inr v22 => (Empty.elim v22)) : (((List D_Step) × Unit) ⊕ Empty)) with | Sum.inl v17 => (Option.bind ((Option.bind (impl_within ((lenI v17.1), (1, (8, ()))) ()) fun v18 => (some v18.1)) : (Option Bool)) fun v19 => (some (v19, ()))) | Sum.inr v20 => none) | Out.ret v23 => (some v23)))
def H_impl_StepsOk : Hd := ⟨[.sl 124 (.st [.int .i64, .int .i64])], [], none, .p, .bool, .p, []⟩
def T_impl_StepsOk : FSig := sg_ H_impl_StepsOk impl_StepsOk
theorem E_impl_StepsOk : fnOf tys [(75, T_impl_within), (104, T_impl_isTime), (243, T_impl_isAmount)] Tryz.f197 H_impl_StepsOk = T_impl_StepsOk := by kernel_rfl
theorem K_impl_StepsOk : SigOk Tryz.prog 197 T_impl_StepsOk := e_k E_impl_StepsOk (fnOf_ok rfl tysOk ⟨K_impl_within, K_impl_isTime, K_impl_isAmount, trivial⟩ Tryz.func197 (by decide) rfl (fun _ h => by cases h) (nilEq_of (by kernel_rfl)))
abbrev s_impl_ResourceOk_L0 : Type := (Int × (Int × ((List Int) × (Int × (Int × ((List (List Int)) × (D_Resource × Unit)))))))
def impl_ResourceOk_L0 : s_impl_ResourceOk_L0 → Option (Out s_impl_ResourceOk_L0 ((Bool × s_impl_ResourceOk_L0) ⊕ Empty) (Bool × Unit)) :=
  (fun v2 => (if (ltZ v2.1 v2.2.1) = true then (Option.bind (getI v2.2.2.1 v2.1) fun v3 => (Option.bind ((Option.bind (impl_within (v3, (0, (12, ()))) ()) fun v4 => (some v4.1)) : (Option Bool)) fun v5 => (if (notB v5) = true then (some (Out.ret (false, ()))) else (some (Out.norm ((addZ .i64 v2.1 1), (v2.2.1, (v2.2.2.1, (v2.2.2.2.1, (v2.2.2.2.2.1, (v2.2.2.2.2.2.1, (v2.2.2.2.2.2.2.1, ())))))))))))) else (some (Out.exit (Sum.inl ((ltZ v2.1 v2.2.1), (v2.1, (v2.2.1, (v2.2.2.1, (v2.2.2.2.1, (v2.2.2.2.2.1, (v2.2.2.2.2.2.1, (v2.2.2.2.2.2.2.1, ())))))))))))))
abbrev s_impl_ResourceOk_L1 : Type := (Int × (Int × ((List (List Int)) × (D_Resource × Unit))))
def impl_ResourceOk_L1 : s_impl_ResourceOk_L1 → Option (Out s_impl_ResourceOk_L1 ((Bool × s_impl_ResourceOk_L1) ⊕ Empty) (Bool × Unit)) :=
  (fun v0 => (if (ltZ v0.1 v0.2.1) = true then (Option.bind (getI v0.2.2.1 v0.1) fun v1 => (if (notB (eqZ (lenI v1) 4)) = true then (some (Out.ret (false, ()))) else (Option.bind (loopN (A := s_impl_ResourceOk_L0) big impl_ResourceOk_L0 (0, ((lenI v1), (v1, (v0.1, (v0.2.1, (v0.2.2.1, (v0.2.2.2.1, ())))))))) fun v6 => (match v6 with | Out.norm v7 => none | Out.exit v8 => (match ((match v8 with | Sum.inl v13 => (Sum.inl (v13.2.2.2.2.1, (v13.2.2.2.2.2.1, (v13.2.2.2.2.2.2.1, (v13.2.2.2.2.2.2.2.1, ()))))) | Sum.inr v14 => (Empty.elim v14)) : ((Int × (Int × ((List (List Int)) × (D_Resource × Unit)))) ⊕ Empty)) with | Sum.inl v9 => (some (Out.norm ((addZ .i64 v9.1 1), (v9.2.1, (v9.2.2.1, (v9.2.2.2.1, ())))))) | Sum.inr v10 => (match ((Empty.elim v10) : ((Int × (Int × ((List (List Int)) × (D_Resource × Unit)))) ⊕ Empty)) with | Sum.inl v11 => (some (Out.norm ((addZ .i64 v11.1 1), (v11.2.1, (v11.2.2.1, (v11.2.2.2.1, ())))))) | Sum.inr v12 => (some (Out.exit (Sum.inr (Empty.elim v12)))))) | Out.ret v15 => (some (Out.ret v15)))))) else (some (Out.exit (Sum.inl ((ltZ v0.1 v0.2.1), (v0.1, (v0.2.1, (v0.2.2.1, (v0.2.2.2.1, ()))))))))))
def impl_ResourceOk (x : (D_Resource × Unit)) (c : Unit) : (Option (Bool × Unit)) :=
  (Option.bind (loopN (A := s_impl_ResourceOk_L1) big impl_ResourceOk_L1 (0, ((lenI x.1.2.1), (x.1.2.1, (x.1, ()))))) fun v16 => (match v16 with | Out.norm v17 => none | Out.exit v18 => (match ((match v18 with | Sum.inl v25 => (Sum.inl (v25.2.2.2.2.1, ())) | Sum.inr v26 => (Empty.elim v26)) : ((D_Resource × Unit) ⊕ Empty)) with | Sum.inl v19 => (Option.bind ((Option.bind (impl_StepsOk (v19.1.1, ()) ()) fun v20 => (some v20.1)) : (Option Bool)) fun v21 => (Option.bind ((if v21 = true then (Option.bind ((if (eqZ (lenI v19.1.2.1) 0) = true then (some (true, ())) else (some ((eqZ (lenI v19.1.2.1) 4), ()))) : (Option (Bool × Unit))) fun v22 => (some (v22.1, ()))) else (some (false, ()))) : (Option (Bool × Unit))) fun v23 => (some (v23.1, ())))) | Sum.inr v24 => none) | Out.ret v27 => (some v27)))
def H_impl_ResourceOk : Hd := ⟨[y_2], [], none, .p, .bool, .p, []⟩
def T_impl_ResourceOk : FSig := sg_ H_impl_ResourceOk impl_ResourceOk
theorem E_impl_ResourceOk : fnOf tys [(75, T_impl_within), (197, T_impl_StepsOk)] Tryz.f143 H_impl_ResourceOk = T_impl_ResourceOk := by kernel_rfl
theorem K_impl_ResourceOk : SigOk Tryz.prog 143 T_impl_ResourceOk := e_k E_impl_ResourceOk (fnOf_ok rfl tysOk ⟨K_impl_within, K_impl_StepsOk, trivial⟩ Tryz.func143 (by decide) rfl (fun _ h => by cases h) (nilEq_of (by kernel_rfl)))
abbrev s_slices_IndexFunc_impl_Link_impl_Link_L0 : Type := (Int × (Int × (((D_Link × Unit) → (Option Bool)) × ((List D_Link) × Unit))))
def slices_IndexFunc_impl_Link_impl_Link_L0 : s_slices_IndexFunc_impl_Link_impl_Link_L0 → Option (Out s_slices_IndexFunc_impl_Link_impl_Link_L0 ((Bool × s_slices_IndexFunc_impl_Link_impl_Link_L0) ⊕ Empty) (Int × Unit)) :=
  (fun v0 => (if (ltZ v0.1 v0.2.1) = true then (Option.bind (getI v0.2.2.2.1 v0.1) fun v1 => (Option.bind (v0.2.2.1 (v1, ())) fun v2 => (if v2 = true then (some (Out.ret (v0.1, ()))) else (some (Out.norm ((addZ .i64 v0.1 1), (v0.2.1, (v0.2.2.1, (v0.2.2.2.1, ()))))))))) else (some (Out.exit (Sum.inl ((ltZ v0.1 v0.2.1), (v0.1, (v0.2.1, (v0.2.2.1, (v0.2.2.2.1, ()))))))))))
def slices_IndexFunc_impl_Link_impl_Link (x : ((List D_Link) × (((D_Link × Unit) → (Option Bool)) × Unit))) (c : Unit) : (Option (Int × Unit)) :=
  (Option.bind (loopN (A := s_slices_IndexFunc_impl_Link_impl_Link_L0) big slices_IndexFunc_impl_Link_impl_Link_L0 (0, ((lenI x.1), (x.2.1, (x.1, ()))))) fun v3 => (match v3 with | Out.norm v4 => none | Out.exit v5 => (match ((match v5 with | Sum.inl v8 => (Sum.inl ()) | Sum.inr v9 => (Empty.elim v9)) : (Unit ⊕ Empty)) with | Sum.inl v6 => (some ((-1), ())) | Sum.inr v7 => none) | Out.ret v10 => (some v10)))
def H_slices_IndexFunc_impl_Link_impl_Link : Hd := ⟨[.sl 128 (y_5), .fn [y_5] (.bool)], [], none, .p, .int .i64, .p, []⟩
def T_slices_IndexFunc_impl_Link_impl_Link : FSig := sg_ H_slices_IndexFunc_impl_Link_impl_Link slices_IndexFunc_impl_Link_impl_Link
theorem E_slices_IndexFunc_impl_Link_impl_Link : fnOf tys [] Tryz.f198 H_slices_IndexFunc_impl_Link_impl_Link = T_slices_IndexFunc_impl_Link_impl_Link := by kernel_rfl
theorem K_slices_IndexFunc_impl_Link_impl_Link : SigOk Tryz.prog 198 T_slices_IndexFunc_impl_Link_impl_Link := e_k E_slices_IndexFunc_impl_Link_impl_Link (fnOf_ok rfl tysOk trivial Tryz.func198 (by decide) rfl (fun _ h => by cases h) (nilEq_of (by kernel_rfl)))
def slices_ContainsFunc_impl_Link_impl_Link (x : ((List D_Link) × (((D_Link × Unit) → (Option Bool)) × Unit))) (c : Unit) : (Option (Bool × Unit)) :=
  (Option.bind ((Option.bind (slices_IndexFunc_impl_Link_impl_Link (x.1, (x.2.1, ())) ()) fun v0 => (some v0.1)) : (Option Int)) fun v1 => (some ((leZ 0 v1), ())))
def H_slices_ContainsFunc_impl_Link_impl_Link : Hd := ⟨[.sl 128 (y_5), .fn [y_5] (.bool)], [], none, .p, .bool, .p, []⟩
def T_slices_ContainsFunc_impl_Link_impl_Link : FSig := sg_ H_slices_ContainsFunc_impl_Link_impl_Link slices_ContainsFunc_impl_Link_impl_Link
theorem E_slices_ContainsFunc_impl_Link_impl_Link : fnOf tys [(198, T_slices_IndexFunc_impl_Link_impl_Link)] Tryz.f144 H_slices_ContainsFunc_impl_Link_impl_Link = T_slices_ContainsFunc_impl_Link_impl_Link := by kernel_rfl
theorem K_slices_ContainsFunc_impl_Link_impl_Link : SigOk Tryz.prog 144 T_slices_ContainsFunc_impl_Link_impl_Link := e_k E_slices_ContainsFunc_impl_Link_impl_Link (fnOf_ok rfl tysOk ⟨K_slices_IndexFunc_impl_Link_impl_Link, trivial⟩ Tryz.func144 (by decide) rfl (fun _ h => by cases h) (nilEq_of (by kernel_rfl)))
def impl_Project_hasActivity (x : (D_Project × (Int × Unit))) (c : Unit) : (Option (Bool × Unit)) :=
  (Option.bind ((Option.bind (impl_within (x.2.1, (0, ((subZ .i64 (lenI x.1.2.1) 1), ()))) ()) fun v0 => (some v0.1)) : (Option Bool)) fun v1 => (some (v1, ())))
def H_impl_Project_hasActivity : Hd := ⟨[y_0, .int .i64], [], none, .p, .bool, .p, []⟩
def T_impl_Project_hasActivity : FSig := sg_ H_impl_Project_hasActivity impl_Project_hasActivity
theorem E_impl_Project_hasActivity : fnOf tys [(75, T_impl_within)] Tryz.f81 H_impl_Project_hasActivity = T_impl_Project_hasActivity := by kernel_rfl
theorem K_impl_Project_hasActivity : SigOk Tryz.prog 81 T_impl_Project_hasActivity := e_k E_impl_Project_hasActivity (fnOf_ok rfl tysOk ⟨K_impl_within, trivial⟩ Tryz.func81 (by decide) rfl (fun _ h => by cases h) (nilEq_of (by kernel_rfl)))
def impl_Project_linkOk (x : (D_Project × (D_Link × Unit))) (c : Unit) : (Option (Bool × Unit)) :=
  (Option.bind ((Option.bind (impl_Project_hasActivity (x.1, (x.2.1.1, ())) ()) fun v0 => (some v0.1)) : (Option Bool)) fun v1 => (Option.bind ((if v1 = true then (Option.bind ((Option.bind (impl_Project_hasActivity (x.1, (x.2.1.2.1, ())) ()) fun v2 => (some v2.1)) : (Option Bool)) fun v3 => (Option.bind ((if v3 = true then (Option.bind ((if (notB (eqZ x.2.1.1 x.2.1.2.1)) = true then (Option.bind ((Option.bind (impl_within (x.2.1.2.2.2.1, ((-60), (60, ()))) ()) fun v4 => (some v4.1)) : (Option Bool)) fun v5 => (some (v5, ()))) else (some (false, ()))) : (Option (Bool × Unit))) fun v6 => (some (v6.1, ()))) else (some (false, ()))) : (Option (Bool × Unit))) fun v7 => (some (v7.1, ())))) else (some (false, ()))) : (Option (Bool × Unit))) fun v8 => (some (v8.1, ()))))
def H_impl_Project_linkOk : Hd := ⟨[y_0, y_5], [], none, .p, .bool, .p, []⟩
def T_impl_Project_linkOk : FSig := sg_ H_impl_Project_linkOk impl_Project_linkOk
theorem E_impl_Project_linkOk : fnOf tys [(75, T_impl_within), (81, T_impl_Project_hasActivity)] Tryz.f146 H_impl_Project_linkOk = T_impl_Project_linkOk := by kernel_rfl
theorem K_impl_Project_linkOk : SigOk Tryz.prog 146 T_impl_Project_linkOk := e_k E_impl_Project_linkOk (fnOf_ok rfl tysOk ⟨K_impl_within, K_impl_Project_hasActivity, trivial⟩ Tryz.func146 (by decide) rfl (fun _ h => by cases h) (nilEq_of (by kernel_rfl)))
def impl_ProjectOk_1 (x : (D_Link × Unit)) (c : (D_Project × Unit)) : (Option (Bool × Unit)) :=
  (Option.bind ((Option.bind (impl_Project_linkOk (c.1, (x.1, ())) ()) fun v0 => (some v0.1)) : (Option Bool)) fun v1 => (some ((notB v1), ())))
def H_impl_ProjectOk_1 : Hd := ⟨[y_5], [y_0], none, .p, .bool, .p, []⟩
def T_impl_ProjectOk_1 : FSig := sg_ H_impl_ProjectOk_1 impl_ProjectOk_1
theorem E_impl_ProjectOk_1 : fnOf tys [(146, T_impl_Project_linkOk)] Tryz.f145 H_impl_ProjectOk_1 = T_impl_ProjectOk_1 := by kernel_rfl
theorem K_impl_ProjectOk_1 : SigOk Tryz.prog 145 T_impl_ProjectOk_1 := e_k E_impl_ProjectOk_1 (fnOf_ok rfl tysOk ⟨K_impl_Project_linkOk, trivial⟩ Tryz.func145 (by decide) rfl (fun _ h => by cases h) (nilEq_of (by kernel_rfl)))
abbrev s_impl_ProjectOk_L0 : Type := (Int × (Int × ((List D_Activity) × (D_Project × Unit))))
def impl_ProjectOk_L0 : s_impl_ProjectOk_L0 → Option (Out s_impl_ProjectOk_L0 ((Bool × s_impl_ProjectOk_L0) ⊕ Empty) (Bool × Unit)) :=
  (fun v8 => (if (ltZ v8.1 v8.2.1) = true then (Option.bind (getI v8.2.2.1 v8.1) fun v9 => (Option.bind ((Option.bind (impl_ActivityOk (v9, ((lenI v8.2.2.2.1.2.2.2.1), ((lenI v8.2.2.2.1.2.2.2.2.1), ()))) ()) fun v10 => (some v10.1)) : (Option Bool)) fun v11 => (Option.bind ((if (notB v11) = true then (some (true, (v8.1, (v8.2.1, (v8.2.2.1, (v8.2.2.2.1, ())))))) else (Option.bind ((Option.bind (impl_ActivityIndex (v8.2.2.2.1, (v9.1, ())) ()) fun v12 => (some v12.1)) : (Option Int)) fun v13 => (some ((notB (eqZ v13 v8.1)), (v8.1, (v8.2.1, (v8.2.2.1, (v8.2.2.2.1, ())))))))) : (Option (Bool × (Int × (Int × ((List D_Activity) × (D_Project × Unit))))))) fun v14 => (if v14.1 = true then (some (Out.ret (false, ()))) else (some (Out.norm ((addZ .i64 v14.2.1 1), (v14.2.2.1, (v14.2.2.2.1, (v14.2.2.2.2.1, ())))))))))) else (some (Out.exit (Sum.inl ((ltZ v8.1 v8.2.1), (v8.1, (v8.2.1, (v8.2.2.1, (v8.2.2.2.1, ()))))))))))
abbrev s_impl_ProjectOk_L1 : Type := (Int × (Int × ((List D_Resource) × (D_Project × Unit))))
def impl_ProjectOk_L1 : s_impl_ProjectOk_L1 → Option (Out s_impl_ProjectOk_L1 ((Bool × s_impl_ProjectOk_L1) ⊕ Empty) (Bool × Unit)) :=
  (fun v19 => (if (ltZ v19.1 v19.2.1) = true then (Option.bind (getI v19.2.2.1 v19.1) fun v20 => (Option.bind ((Option.bind (impl_ResourceOk (v20, ()) ()) fun v21 => (some v21.1)) : (Option Bool)) fun v22 => (if (notB v22) = true then (some (Out.ret (false, ()))) else (some (Out.norm ((addZ .i64 v19.1 1), (v19.2.1, (v19.2.2.1, (v19.2.2.2.1, ()))))))))) else (some (Out.exit (Sum.inl ((ltZ v19.1 v19.2.1), (v19.1, (v19.2.1, (v19.2.2.1, (v19.2.2.2.1, ()))))))))))
abbrev s_impl_ProjectOk_L2 : Type := (Int × (Int × ((List Int) × (D_Project × Unit))))
def impl_ProjectOk_L2 : s_impl_ProjectOk_L2 → Option (Out s_impl_ProjectOk_L2 ((Bool × s_impl_ProjectOk_L2) ⊕ Empty) (Bool × Unit)) :=
  (fun v27 => (if (ltZ v27.1 v27.2.1) = true then (Option.bind (getI v27.2.2.1 v27.1) fun v28 => (Option.bind ((Option.bind (impl_within (v28, (0, (100, ()))) ()) fun v29 => (some v29.1)) : (Option Bool)) fun v30 => (if (notB v30) = true then (some (Out.ret (false, ()))) else (some (Out.norm ((addZ .i64 v27.1 1), (v27.2.1, (v27.2.2.1, (v27.2.2.2.1, ()))))))))) else (some (Out.exit (Sum.inl ((ltZ v27.1 v27.2.1), (v27.1, (v27.2.1, (v27.2.2.1, (v27.2.2.2.1, ()))))))))))
def impl_ProjectOk (x : (D_Project × Unit)) (c : Unit) : (Option (Bool × Unit)) :=
  (Option.bind ((Option.bind (impl_within (x.1.1, (1, (60, ()))) ()) fun v0 => (some v0.1)) : (Option Bool)) fun v1 => (Option.bind ((if (notB v1) = true then (some (true, (x.1, ()))) else (Option.bind ((Option.bind (impl_within ((lenI x.1.2.1), (1, (6, ()))) ()) fun v2 => (some v2.1)) : (Option Bool)) fun v3 => (Option.bind ((if (notB v3) = true then (some (true, (x.1, ()))) else (Option.bind ((if (ltZ 3 (lenI x.1.2.2.2.1)) = true then (some (true, (x.1, ()))) else (Option.bind ((if (ltZ 2 (lenI x.1.2.2.2.2.1)) = true then (some (true, (x.1, ()))) else (some ((ltZ 12 (lenI x.1.2.2.1)), (x.1, ())))) : (Option (Bool × (D_Project × Unit)))) fun v4 => (some (v4.1, (v4.2.1, ()))))) : (Option (Bool × (D_Project × Unit)))) fun v5 => (some (v5.1, (v5.2.1, ()))))) : (Option (Bool × (D_Project × Unit)))) fun v6 => (some (v6.1, (v6.2.1, ())))))) : (Option (Bool × (D_Project × Unit)))) fun v7 => (if v7.1 = true then (some (false, ())) else (Option.bind (loopN (A := s_impl_ProjectOk_L0) big impl_ProjectOk_L0 (0, ((lenI v7.2.1.2.1), (v7.2.1.2.1, (v7.2.1, ()))))) fun v15 => (match v15 with | Out.norm v16 => none | Out.exit v17 => (match ((match v17 with | Sum.inl v48 => (Sum.inl (v48.2.2.2.2.1, ())) | Sum.inr v49 => (Empty.elim v49)) : ((D_Project × Unit) ⊕ Empty)) with | Sum.inl v18 => (Option.bind (loopN (A := s_impl_ProjectOk_L1) big impl_ProjectOk_L1 (0, ((lenI v18.1.2.2.2.1), (v18.1.2.2.2.1, (v18.1, ()))))) fun v23 => (match v23 with | Out.norm v24 => none | Out.exit v25 => (match ((match v25 with | Sum.inl v44 => (Sum.inl (v44.2.2.2.2.1, ())) | Sum.inr v45 => (Empty.elim v45)) : ((D_Project × Unit) ⊕ Empty)) with | Sum.inl v26 => (Option.bind (loopN (A := s_impl_ProjectOk_L2) big impl_ProjectOk_L2 (0, ((lenI v26.1.2.2.2.2.1), (v26.1.2.2.2.2.1, (v26.1, ()))))) fun v31 => (match v31 with | Out.norm v32 => none | Out.exit v33 => (match ((match v33 with | Sum.inl v40 => (Sum.inl (v40.2.2.2.2.1, ())) | Sum.inr v41 => (Empty.elim v41)) : ((D_Project × Unit) ⊕ Empty)) with | Sum.inl v34 => (Option.bind ((Option.bind (slices_ContainsFunc_impl_Link_impl_Link (v34.1.2.2.1, ((fun v35 => (Option.bind (impl_ProjectOk_1 v35 (v34.1, ())) fun v36 => (some v36.1))), ())) ()) fun v37 => (some v37.1)) : (Option Bool)) fun v38 => (some ((notB v38), ()))) | Sum.inr v39 => none) | Out.ret v42 => (some v42))) | Sum.inr v43 => none) | Out.ret v46 => (some v46))) | Sum.inr v47 => none) | Out.ret v50 => (some v50))))))
def H_impl_ProjectOk : Hd := ⟨[y_0], [], none, .p, .bool, .p, []⟩
def T_impl_ProjectOk : FSig := sg_ H_impl_ProjectOk impl_ProjectOk
theorem E_impl_ProjectOk : fnOf tys [(75, T_impl_within), (141, T_impl_ActivityOk), (142, T_impl_ActivityIndex), (143, T_impl_ResourceOk), (144, T_slices_ContainsFunc_impl_Link_impl_Link), (145, T_impl_ProjectOk_1)] Tryz.f63 H_impl_ProjectOk = T_impl_ProjectOk := by kernel_rfl
theorem K_impl_ProjectOk : SigOk Tryz.prog 63 T_impl_ProjectOk := e_k E_impl_ProjectOk (fnOf_ok rfl tysOk ⟨K_impl_within, K_impl_ActivityOk, K_impl_ActivityIndex, K_impl_ResourceOk, K_slices_ContainsFunc_impl_Link_impl_Link, K_impl_ProjectOk_1, trivial⟩ Tryz.func63 (by decide) rfl (fun _ h => by cases h) (nilEq_of (by kernel_rfl)))
end Go.Proofs.YtjhpeeapijjgjaaGreat