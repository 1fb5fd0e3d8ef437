/-
  The functions of this seat as plain Lean functions, and that the program computes them. No condition.
-/
import Derived.Test.YtholdafohofboaaGreatDoorN37
import Derived.Test.YtholdafohofboaaGreatDooreX
import Derived.Test.YtholdafohofboaaGreatDoorProg
import Derived.KernelRfl
namespace Go.Proofs.YtholdafohofboaaGreatDoor
open Go.Abs
set_option linter.unusedVariables false
set_option maxRecDepth 100000
abbrev D_Mode : Type := (Int × ((List Int) × ((List Int) × Unit)))
abbrev D_Activity : Type := ((List UInt8) × (Int × ((List D_Mode) × Unit)))
abbrev D_Link : Type := (Int × (Int × (Bool × (Int × Unit))))
abbrev D_Step : Type := (Int × (Int × Unit))
abbrev D_Resource : Type := ((List D_Step) × ((List (List Int)) × Unit))
abbrev D_Project : Type := (Int × ((List D_Activity) × ((List D_Link) × ((List D_Resource) × ((List Int) × Unit)))))
abbrev D_Schedule : Type := ((List Int) × ((List Int) × Unit))
abbrev D_Rule : Type := (Int × (Int × D_Step))
abbrev D_Literal : Type := (Int × D_Step)
abbrev D_Line : Type := (Int × (D_Rule × ((List D_Literal) × Unit)))
abbrev D_Result : Type := (Int × (D_Schedule × (Int × (Int × ((List D_Line) × (Int × Unit))))))
abbrev D_Console : Type := (D_Project × (D_Result × (Int × Unit)))
theorem tn3 : TnOk Tryz.prog 3 (.int .i64) := ⟨Tryz.underlying3, fun _ h => (by cases h), Tryz.t3, rfl, rfl, fun _ _ => rfl⟩
theorem tn4 : TnOk Tryz.prog 4 (.bool) := ⟨Tryz.underlying4, fun _ h => (by cases h), Tryz.t4, rfl, rfl, fun _ _ => rfl⟩
theorem tn5 : TnOk Tryz.prog 5 (.int .u8) := ⟨Tryz.underlying5, fun _ h => (by cases h), Tryz.t5, rfl, rfl, fun _ _ => rfl⟩
theorem tn9 : TnOk Tryz.prog 9 (.str) := ⟨Tryz.underlying9, fun _ h => (by cases h), Tryz.t9, rfl, rfl, fun _ _ => rfl⟩
theorem tn22 : TnOk Tryz.prog 22 (.sl 152 (.st [.str, .int .i64, .sl 254 (.st [.int .i64, .sl 3 (.int .i64), .sl 3 (.int .i64)])])) := ⟨⟨Tryz.underlying22, Tryz.t152, _, rfl, rfl, rfl, rfl, by decide, by decide, fun _ _ => rfl, fun k h => by cases h⟩, fun _ h => (by cases h), Tryz.t22, rfl, rfl, fun _ _ => rfl⟩
theorem tn23 : TnOk Tryz.prog 23 (.sl 165 (.st [.int .i64, .int .i64, .bool, .int .i64])) := ⟨⟨Tryz.underlying23, Tryz.t165, _, rfl, rfl, rfl, rfl, by decide, by decide, fun _ _ => rfl, fun k h => by cases h⟩, fun _ h => (by cases h), Tryz.t23, rfl, rfl, fun _ _ => rfl⟩
theorem tn24 : TnOk Tryz.prog 24 (.sl 156 (.st [.sl 257 (.st [.int .i64, .int .i64]), .sl 25 (.sl 3 (.int .i64))])) := ⟨⟨Tryz.underlying24, Tryz.t156, _, rfl, rfl, rfl, rfl, by decide, by decide, fun _ _ => rfl, fun k h => by cases h⟩, fun _ h => (by cases h), Tryz.t24, rfl, rfl, fun _ _ => rfl⟩
theorem tn25 : TnOk Tryz.prog 25 (.sl 3 (.int .i64)) := ⟨⟨Tryz.underlying25, Tryz.t3, _, rfl, rfl, rfl, rfl, by decide, by decide, fun _ _ => rfl, fun k h => by cases h; exact Tryz.underlying3⟩, fun _ h => (by cases h), Tryz.t25, rfl, rfl, fun _ _ => rfl⟩
theorem tn26 : TnOk Tryz.prog 26 (.st [.int .i64, .sl 152 (.st [.str, .int .i64, .sl 254 (.st [.int .i64, .sl 3 (.int .i64), .sl 3 (.int .i64)])]), .sl 165 (.st [.int .i64, .int .i64, .bool, .int .i64]), .sl 156 (.st [.sl 257 (.st [.int .i64, .int .i64]), .sl 25 (.sl 3 (.int .i64))]), .sl 3 (.int .i64)]) := ⟨⟨_, Tryz.underlying26, Tryz.eqGuardType26, Tryz.stoodInHeld26, rfl, fun j τ h => by
    cases j with
    | zero => cases h; exact ⟨_, _, rfl, rfl, by decide, by decide, Tryz.underlying3, rfl, fun us h => by cases h⟩
    | succ j =>
     cases j with
     | zero => cases h; exact ⟨_, _, rfl, rfl, by decide, by decide, Tryz.underlying22, rfl, fun us h => by cases h⟩
     | succ j =>
      cases j with
      | zero => cases h; exact ⟨_, _, rfl, rfl, by decide, by decide, Tryz.underlying23, rfl, fun us h => by cases h⟩
      | succ j =>
       cases j with
       | zero => cases h; exact ⟨_, _, rfl, rfl, by decide, by decide, Tryz.underlying24, rfl, fun us h => by cases h⟩
       | succ j =>
        cases j with
        | zero => cases h; exact ⟨_, _, rfl, rfl, by decide, by decide, Tryz.underlying25, rfl, fun us h => by cases h⟩
        | succ j =>
         cases h⟩, (fun us hus fs hfs j τ h f hf => by
    cases hus
    rw [Tryz.underlying26] at hfs
    cases hfs
    cases j with
    | zero => cases h; cases hf; exact ⟨fun k e => by cases e; exact Tryz.underlying3, fun e => (by cases e), fun e => (by cases e)⟩
    | succ j =>
     cases j with
     | zero => cases h; cases hf; exact ⟨fun k e => (by cases e), fun e => (by cases e), fun e => (by cases e)⟩
     | succ j =>
      cases j with
      | zero => cases h; cases hf; exact ⟨fun k e => (by cases e), fun e => (by cases e), fun e => (by cases e)⟩
      | succ j =>
       cases j with
       | zero => cases h; cases hf; exact ⟨fun k e => (by cases e), fun e => (by cases e), fun e => (by cases e)⟩
       | succ j =>
        cases j with
        | zero => cases h; cases hf; exact ⟨fun k e => (by cases e), fun e => (by cases e), fun e => (by cases e)⟩
        | succ j =>
         cases h), Tryz.t26, rfl, rfl, fun _ _ => rfl⟩
theorem tn27 : TnOk Tryz.prog 27 (.st [.int .i64, .sl 152 (.st [.str, .int .i64, .sl 254 (.st [.int .i64, .sl 3 (.int .i64), .sl 3 (.int .i64)])]), .sl 165 (.st [.int .i64, .int .i64, .bool, .int .i64]), .sl 156 (.st [.sl 257 (.st [.int .i64, .int .i64]), .sl 25 (.sl 3 (.int .i64))]), .sl 3 (.int .i64)]) := ⟨⟨_, Tryz.underlying27, Tryz.eqGuardType27, Tryz.stoodInHeld27, rfl, fun j τ h => by
    cases j with
    | zero => cases h; exact ⟨_, _, rfl, rfl, by decide, by decide, Tryz.underlying3, rfl, fun us h => by cases h⟩
    | succ j =>
     cases j with
     | zero => cases h; exact ⟨_, _, rfl, rfl, by decide, by decide, Tryz.underlying22, rfl, fun us h => by cases h⟩
     | succ j =>
      cases j with
      | zero => cases h; exact ⟨_, _, rfl, rfl, by decide, by decide, Tryz.underlying23, rfl, fun us h => by cases h⟩
      | succ j =>
       cases j with
       | zero => cases h; exact ⟨_, _, rfl, rfl, by decide, by decide, Tryz.underlying24, rfl, fun us h => by cases h⟩
       | succ j =>
        cases j with
        | zero => cases h; exact ⟨_, _, rfl, rfl, by decide, by decide, Tryz.underlying25, rfl, fun us h => by cases h⟩
        | succ j =>
         cases h⟩, (fun us hus fs hfs j τ h f hf => by
    cases hus
    rw [Tryz.underlying27] at hfs
    cases hfs
    cases j with
    | zero => cases h; cases hf; exact ⟨fun k e => by cases e; exact Tryz.underlying3, fun e => (by cases e), fun e => (by cases e)⟩
    | succ j =>
     cases j with
     | zero => cases h; cases hf; exact ⟨fun k e => (by cases e), fun e => (by cases e), fun e => (by cases e)⟩
     | succ j =>
      cases j with
      | zero => cases h; cases hf; exact ⟨fun k e => (by cases e), fun e => (by cases e), fun e => (by cases e)⟩
      | succ j =>
       cases j with
       | zero => cases h; cases hf; exact ⟨fun k e => (by cases e), fun e => (by cases e), fun e => (by cases e)⟩
       | succ j =>
        cases j with
        | zero => cases h; cases hf; exact ⟨fun k e => (by cases e), fun e => (by cases e), fun e => (by cases e)⟩
        | succ j =>
         cases h), Tryz.t27, rfl, rfl, fun _ _ => rfl⟩
theorem tn28 : TnOk Tryz.prog 28 (.st [.sl 3 (.int .i64), .sl 3 (.int .i64)]) := ⟨⟨_, Tryz.underlying28, Tryz.eqGuardType28, Tryz.stoodInHeld28, rfl, fun j τ h => by
    cases j with
    | zero => cases h; exact ⟨_, _, rfl, rfl, by decide, by decide, Tryz.underlying25, rfl, fun us h => by cases h⟩
    | succ j =>
     cases j with
     | zero => cases h; exact ⟨_, _, rfl, rfl, by decide, by decide, Tryz.underlying25, rfl, fun us h => by cases h⟩
     | succ j =>
      cases h⟩, (fun us hus fs hfs j τ h f hf => by
    cases hus
    rw [Tryz.underlying28] at hfs
    cases hfs
    cases j with
    | zero => cases h; cases hf; exact ⟨fun k e => (by cases e), fun e => (by cases e), fun e => (by cases e)⟩
    | succ j =>
     cases j with
     | zero => cases h; cases hf; exact ⟨fun k e => (by cases e), fun e => (by cases e), fun e => (by cases e)⟩
     | succ j =>
      cases h), Tryz.t28, rfl, rfl, fun _ _ => rfl⟩
theorem tn29 : TnOk Tryz.prog 29 (.st [.sl 3 (.int .i64), .sl 3 (.int .i64)]) := ⟨⟨_, Tryz.underlying29, Tryz.eqGuardType29, Tryz.stoodInHeld29, rfl, fun j τ h => by
    cases j with
    | zero => cases h; exact ⟨_, _, rfl, rfl, by decide, by decide, Tryz.underlying25, rfl, fun us h => by cases h⟩
    | succ j =>
     cases j with
     | zero => cases h; exact ⟨_, _, rfl, rfl, by decide, by decide, Tryz.underlying25, rfl, fun us h => by cases h⟩
     | succ j =>
      cases h⟩, (fun us hus fs hfs j τ h f hf => by
    cases hus
    rw [Tryz.underlying29] at hfs
    cases hfs
    cases j with
    | zero => cases h; cases hf; exact ⟨fun k e => (by cases e), fun e => (by cases e), fun e => (by cases e)⟩
    | succ j =>
     cases j with
     | zero => cases h; cases hf; exact ⟨fun k e => (by cases e), fun e => (by cases e), fun e => (by cases e)⟩
     | succ j =>
      cases h), Tryz.t29, rfl, rfl, fun _ _ => rfl⟩
theorem tn30 : TnOk Tryz.prog 30 (.fn [.st [.int .i64, .sl 152 (.st [.str, .int .i64, .sl 254 (.st [.int .i64, .sl 3 (.int .i64), .sl 3 (.int .i64)])]), .sl 165 (.st [.int .i64, .int .i64, .bool, .int .i64]), .sl 156 (.st [.sl 257 (.st [.int .i64, .int .i64]), .sl 25 (.sl 3 (.int .i64))]), .sl 3 (.int .i64)], .int .i64] (.int .i64)) := ⟨⟨_, _, _, Tryz.underlying30⟩, fun _ h => (by cases h), Tryz.t30, rfl, rfl, fun _ h => by cases h⟩
theorem tn31 : TnOk Tryz.prog 31 (.fn [.st [.sl 3 (.int .i64), .sl 3 (.int .i64)], .int .i64] (.int .i64)) := ⟨⟨_, _, _, Tryz.underlying31⟩, fun _ h => (by cases h), Tryz.t31, rfl, rfl, fun _ h => by cases h⟩
theorem tn33 : TnOk Tryz.prog 33 (.sl 92 (.st [.str, .int .i64, .sl 158 (.st [.int .i64, .sl 3 (.int .i64), .sl 3 (.int .i64)])])) := ⟨⟨Tryz.underlying33, Tryz.t92, _, rfl, rfl, rfl, rfl, by decide, by decide, fun _ _ => rfl, fun k h => by cases h⟩, fun _ h => (by cases h), Tryz.t33, rfl, rfl, fun _ _ => rfl⟩
theorem tn34 : TnOk Tryz.prog 34 (.sl 163 (.st [.int .i64, .int .i64, .bool, .int .i64])) := ⟨⟨Tryz.underlying34, Tryz.t163, _, rfl, rfl, rfl, rfl, by decide, by decide, fun _ _ => rfl, fun k h => by cases h⟩, fun _ h => (by cases h), Tryz.t34, rfl, rfl, fun _ _ => rfl⟩
theorem tn35 : TnOk Tryz.prog 35 (.sl 104 (.st [.sl 169 (.st [.int .i64, .int .i64]), .sl 25 (.sl 3 (.int .i64))])) := ⟨⟨Tryz.underlying35, Tryz.t104, _, rfl, rfl, rfl, rfl, by decide, by decide, fun _ _ => rfl, fun k h => by cases h⟩, fun _ h => (by cases h), Tryz.t35, rfl, rfl, fun _ _ => rfl⟩
theorem tn36 : TnOk Tryz.prog 36 (.st [.int .i64, .sl 92 (.st [.str, .int .i64, .sl 158 (.st [.int .i64, .sl 3 (.int .i64), .sl 3 (.int .i64)])]), .sl 163 (.st [.int .i64, .int .i64, .bool, .int .i64]), .sl 104 (.st [.sl 169 (.st [.int .i64, .int .i64]), .sl 25 (.sl 3 (.int .i64))]), .sl 3 (.int .i64)]) := ⟨⟨_, Tryz.underlying36, Tryz.eqGuardType36, Tryz.stoodInHeld36, rfl, fun j τ h => by
    cases j with
    | zero => cases h; exact ⟨_, _, rfl, rfl, by decide, by decide, Tryz.underlying3, rfl, fun us h => by cases h⟩
    | succ j =>
     cases j with
     | zero => cases h; exact ⟨_, _, rfl, rfl, by decide, by decide, Tryz.underlying33, rfl, fun us h => by cases h⟩
     | succ j =>
      cases j with
      | zero => cases h; exact ⟨_, _, rfl, rfl, by decide, by decide, Tryz.underlying34, rfl, fun us h => by cases h⟩
      | succ j =>
       cases j with
       | zero => cases h; exact ⟨_, _, rfl, rfl, by decide, by decide, Tryz.underlying35, rfl, fun us h => by cases h⟩
       | succ j =>
        cases j with
        | zero => cases h; exact ⟨_, _, rfl, rfl, by decide, by decide, Tryz.underlying25, rfl, fun us h => by cases h⟩
        | succ j =>
         cases h⟩, (fun us hus fs hfs j τ h f hf => by
    cases hus
    rw [Tryz.underlying36] at hfs
    cases hfs
    cases j with
    | zero => cases h; cases hf; exact ⟨fun k e => by cases e; exact Tryz.underlying3, fun e => (by cases e), fun e => (by cases e)⟩
    | succ j =>
     cases j with
     | zero => cases h; cases hf; exact ⟨fun k e => (by cases e), fun e => (by cases e), fun e => (by cases e)⟩
     | succ j =>
      cases j with
      | zero => cases h; cases hf; exact ⟨fun k e => (by cases e), fun e => (by cases e), fun e => (by cases e)⟩
      | succ j =>
       cases j with
       | zero => cases h; cases hf; exact ⟨fun k e => (by cases e), fun e => (by cases e), fun e => (by cases e)⟩
       | succ j =>
        cases j with
        | zero => cases h; cases hf; exact ⟨fun k e => (by cases e), fun e => (by cases e), fun e => (by cases e)⟩
        | succ j =>
         cases h), Tryz.t36, rfl, rfl, fun _ _ => rfl⟩
theorem tn37 : TnOk Tryz.prog 37 (.st [.int .i64, .sl 92 (.st [.str, .int .i64, .sl 158 (.st [.int .i64, .sl 3 (.int .i64), .sl 3 (.int .i64)])]), .sl 163 (.st [.int .i64, .int .i64, .bool, .int .i64]), .sl 104 (.st [.sl 169 (.st [.int .i64, .int .i64]), .sl 25 (.sl 3 (.int .i64))]), .sl 3 (.int .i64)]) := ⟨⟨_, Tryz.underlying37, Tryz.eqGuardType37, Tryz.stoodInHeld37, rfl, fun j τ h => by
    cases j with
    | zero => cases h; exact ⟨_, _, rfl, rfl, by decide, by decide, Tryz.underlying3, rfl, fun us h => by cases h⟩
    | succ j =>
     cases j with
     | zero => cases h; exact ⟨_, _, rfl, rfl, by decide, by decide, Tryz.underlying33, rfl, fun us h => by cases h⟩
     | succ j =>
      cases j with
      | zero => cases h; exact ⟨_, _, rfl, rfl, by decide, by decide, Tryz.underlying34, rfl, fun us h => by cases h⟩
      | succ j =>
       cases j with
       | zero => cases h; exact ⟨_, _, rfl, rfl, by decide, by decide, Tryz.underlying35, rfl, fun us h => by cases h⟩
       | succ j =>
        cases j with
        | zero => cases h; exact ⟨_, _, rfl, rfl, by decide, by decide, Tryz.underlying25, rfl, fun us h => by cases h⟩
        | succ j =>
         cases h⟩, (fun us hus fs hfs j τ h f hf => by
    cases hus
    rw [Tryz.underlying37] at hfs
    cases hfs
    cases j with
    | zero => cases h; cases hf; exact ⟨fun k e => by cases e; exact Tryz.underlying3, fun e => (by cases e), fun e => (by cases e)⟩
    | succ j =>
     cases j with
     | zero => cases h; cases hf; exact ⟨fun k e => (by cases e), fun e => (by cases e), fun e => (by cases e)⟩
     | succ j =>
      cases j with
      | zero => cases h; cases hf; exact ⟨fun k e => (by cases e), fun e => (by cases e), fun e => (by cases e)⟩
      | succ j =>
       cases j with
       | zero => cases h; cases hf; exact ⟨fun k e => (by cases e), fun e => (by cases e), fun e => (by cases e)⟩
       | succ j =>
        cases j with
        | zero => cases h; cases hf; exact ⟨fun k e => (by cases e), fun e => (by cases e), fun e => (by cases e)⟩
        | succ j =>
         cases h), Tryz.t37, rfl, rfl, fun _ _ => rfl⟩
theorem tn38 : TnOk Tryz.prog 38 (.fn [.st [.int .i64, .sl 152 (.st [.str, .int .i64, .sl 254 (.st [.int .i64, .sl 3 (.int .i64), .sl 3 (.int .i64)])]), .sl 165 (.st [.int .i64, .int .i64, .bool, .int .i64]), .sl 156 (.st [.sl 257 (.st [.int .i64, .int .i64]), .sl 25 (.sl 3 (.int .i64))]), .sl 3 (.int .i64)]] (.st [.int .i64, .sl 92 (.st [.str, .int .i64, .sl 158 (.st [.int .i64, .sl 3 (.int .i64), .sl 3 (.int .i64)])]), .sl 163 (.st [.int .i64, .int .i64, .bool, .int .i64]), .sl 104 (.st [.sl 169 (.st [.int .i64, .int .i64]), .sl 25 (.sl 3 (.int .i64))]), .sl 3 (.int .i64)])) := ⟨⟨_, _, _, Tryz.underlying38⟩, fun _ h => (by cases h), Tryz.t38, rfl, rfl, fun _ h => by cases h⟩
theorem tn39 : TnOk Tryz.prog 39 (.st [.sl 3 (.int .i64), .sl 3 (.int .i64)]) := ⟨⟨_, Tryz.underlying39, Tryz.eqGuardType39, Tryz.stoodInHeld39, rfl, fun j τ h => by
    cases j with
    | zero => cases h; exact ⟨_, _, rfl, rfl, by decide, by decide, Tryz.underlying25, rfl, fun us h => by cases h⟩
    | succ j =>
     cases j with
     | zero => cases h; exact ⟨_, _, rfl, rfl, by decide, by decide, Tryz.underlying25, rfl, fun us h => by cases h⟩
     | succ j =>
      cases h⟩, (fun us hus fs hfs j τ h f hf => by
    cases hus
    rw [Tryz.underlying39] at hfs
    cases hfs
    cases j with
    | zero => cases h; cases hf; exact ⟨fun k e => (by cases e), fun e => (by cases e), fun e => (by cases e)⟩
    | succ j =>
     cases j with
     | zero => cases h; cases hf; exact ⟨fun k e => (by cases e), fun e => (by cases e), fun e => (by cases e)⟩
     | succ j =>
      cases h), Tryz.t39, rfl, rfl, fun _ _ => rfl⟩
theorem tn40 : TnOk Tryz.prog 40 (.fn [.st [.sl 3 (.int .i64), .sl 3 (.int .i64)]] (.st [.sl 3 (.int .i64), .sl 3 (.int .i64)])) := ⟨⟨_, _, _, Tryz.underlying40⟩, fun _ h => (by cases h), Tryz.t40, rfl, rfl, fun _ h => by cases h⟩
theorem tn41 : TnOk Tryz.prog 41 (.fn [.st [.int .i64, .sl 92 (.st [.str, .int .i64, .sl 158 (.st [.int .i64, .sl 3 (.int .i64), .sl 3 (.int .i64)])]), .sl 163 (.st [.int .i64, .int .i64, .bool, .int .i64]), .sl 104 (.st [.sl 169 (.st [.int .i64, .int .i64]), .sl 25 (.sl 3 (.int .i64))]), .sl 3 (.int .i64)], .st [.int .i64, .sl 92 (.st [.str, .int .i64, .sl 158 (.st [.int .i64, .sl 3 (.int .i64), .sl 3 (.int .i64)])]), .sl 163 (.st [.int .i64, .int .i64, .bool, .int .i64]), .sl 104 (.st [.sl 169 (.st [.int .i64, .int .i64]), .sl 25 (.sl 3 (.int .i64))]), .sl 3 (.int .i64)]] (.bool)) := ⟨⟨_, _, _, Tryz.underlying41⟩, fun _ h => (by cases h), Tryz.t41, rfl, rfl, fun _ h => by cases h⟩
theorem tn42 : TnOk Tryz.prog 42 (.fn [.st [.sl 3 (.int .i64), .sl 3 (.int .i64)], .st [.sl 3 (.int .i64), .sl 3 (.int .i64)]] (.bool)) := ⟨⟨_, _, _, Tryz.underlying42⟩, fun _ h => (by cases h), Tryz.t42, rfl, rfl, fun _ h => by cases h⟩
theorem tn51 : TnOk Tryz.prog 51 (.sl 180 (.st [.int .i64, .st [.int .i64, .int .i64, .int .i64, .int .i64], .sl 262 (.st [.int .i64, .int .i64, .int .i64])])) := ⟨⟨Tryz.underlying51, Tryz.t180, _, rfl, rfl, rfl, rfl, by decide, by decide, fun _ _ => rfl, fun k h => by cases h⟩, fun _ h => (by cases h), Tryz.t51, rfl, rfl, fun _ _ => rfl⟩
theorem tn52 : TnOk Tryz.prog 52 (.st [.int .i64, .st [.sl 3 (.int .i64), .sl 3 (.int .i64)], .int .i64, .int .i64, .sl 180 (.st [.int .i64, .st [.int .i64, .int .i64, .int .i64, .int .i64], .sl 262 (.st [.int .i64, .int .i64, .int .i64])]), .int .i64]) := ⟨⟨_, Tryz.underlying52, Tryz.eqGuardType52, Tryz.stoodInHeld52, rfl, fun j τ h => by
    cases j with
    | zero => cases h; exact ⟨_, _, rfl, rfl, by decide, by decide, Tryz.underlying3, rfl, fun us h => by cases h⟩
    | succ j =>
     cases j with
     | zero => cases h; exact ⟨_, _, rfl, rfl, by decide, by decide, Tryz.underlying29, rfl, ⟨_, rfl⟩⟩
     | succ j =>
      cases j with
      | zero => cases h; exact ⟨_, _, rfl, rfl, by decide, by decide, Tryz.underlying3, rfl, fun us h => by cases h⟩
      | succ j =>
       cases j with
       | zero => cases h; exact ⟨_, _, rfl, rfl, by decide, by decide, Tryz.underlying3, rfl, fun us h => by cases h⟩
       | succ j =>
        cases j with
        | zero => cases h; exact ⟨_, _, rfl, rfl, by decide, by decide, Tryz.underlying51, rfl, fun us h => by cases h⟩
        | succ j =>
         cases j with
         | zero => cases h; exact ⟨_, _, rfl, rfl, by decide, by decide, Tryz.underlying3, rfl, fun us h => by cases h⟩
         | succ j =>
          cases h⟩, (fun us hus fs hfs j τ h f hf => by
    cases hus
    rw [Tryz.underlying52] at hfs
    cases hfs
    cases j with
    | zero => cases h; cases hf; exact ⟨fun k e => by cases e; exact Tryz.underlying3, fun e => (by cases e), fun e => (by cases e)⟩
    | succ j =>
     cases j with
     | zero => cases h; cases hf; exact ⟨fun k e => (by cases e), fun e => (by cases e), fun e => (by cases e)⟩
     | succ j =>
      cases j with
      | zero => cases h; cases hf; exact ⟨fun k e => by cases e; exact Tryz.underlying3, fun e => (by cases e), fun e => (by cases e)⟩
      | succ j =>
       cases j with
       | zero => cases h; cases hf; exact ⟨fun k e => by cases e; exact Tryz.underlying3, fun e => (by cases e), fun e => (by cases e)⟩
       | succ j =>
        cases j with
        | zero => cases h; cases hf; exact ⟨fun k e => (by cases e), fun e => (by cases e), fun e => (by cases e)⟩
        | succ j =>
         cases j with
         | zero => cases h; cases hf; exact ⟨fun k e => by cases e; exact Tryz.underlying3, fun e => (by cases e), fun e => (by cases e)⟩
         | succ j =>
          cases h), Tryz.t52, rfl, rfl, fun _ _ => rfl⟩
theorem tn53 : TnOk Tryz.prog 53 (.st [.int .i64, .st [.sl 3 (.int .i64), .sl 3 (.int .i64)], .int .i64, .int .i64, .sl 180 (.st [.int .i64, .st [.int .i64, .int .i64, .int .i64, .int .i64], .sl 262 (.st [.int .i64, .int .i64, .int .i64])]), .int .i64]) := ⟨⟨_, Tryz.underlying53, Tryz.eqGuardType53, Tryz.stoodInHeld53, rfl, fun j τ h => by
    cases j with
    | zero => cases h; exact ⟨_, _, rfl, rfl, by decide, by decide, Tryz.underlying3, rfl, fun us h => by cases h⟩
    | succ j =>
     cases j with
     | zero => cases h; exact ⟨_, _, rfl, rfl, by decide, by decide, Tryz.underlying29, rfl, ⟨_, rfl⟩⟩
     | succ j =>
      cases j with
      | zero => cases h; exact ⟨_, _, rfl, rfl, by decide, by decide, Tryz.underlying3, rfl, fun us h => by cases h⟩
      | succ j =>
       cases j with
       | zero => cases h; exact ⟨_, _, rfl, rfl, by decide, by decide, Tryz.underlying3, rfl, fun us h => by cases h⟩
       | succ j =>
        cases j with
        | zero => cases h; exact ⟨_, _, rfl, rfl, by decide, by decide, Tryz.underlying51, rfl, fun us h => by cases h⟩
        | succ j =>
         cases j with
         | zero => cases h; exact ⟨_, _, rfl, rfl, by decide, by decide, Tryz.underlying3, rfl, fun us h => by cases h⟩
         | succ j =>
          cases h⟩, (fun us hus fs hfs j τ h f hf => by
    cases hus
    rw [Tryz.underlying53] at hfs
    cases hfs
    cases j with
    | zero => cases h; cases hf; exact ⟨fun k e => by cases e; exact Tryz.underlying3, fun e => (by cases e), fun e => (by cases e)⟩
    | succ j =>
     cases j with
     | zero => cases h; cases hf; exact ⟨fun k e => (by cases e), fun e => (by cases e), fun e => (by cases e)⟩
     | succ j =>
      cases j with
      | zero => cases h; cases hf; exact ⟨fun k e => by cases e; exact Tryz.underlying3, fun e => (by cases e), fun e => (by cases e)⟩
      | succ j =>
       cases j with
       | zero => cases h; cases hf; exact ⟨fun k e => by cases e; exact Tryz.underlying3, fun e => (by cases e), fun e => (by cases e)⟩
       | succ j =>
        cases j with
        | zero => cases h; cases hf; exact ⟨fun k e => (by cases e), fun e => (by cases e), fun e => (by cases e)⟩
        | succ j =>
         cases j with
         | zero => cases h; cases hf; exact ⟨fun k e => by cases e; exact Tryz.underlying3, fun e => (by cases e), fun e => (by cases e)⟩
         | succ j =>
          cases h), Tryz.t53, rfl, rfl, fun _ _ => rfl⟩
theorem tn54 : TnOk Tryz.prog 54 (.fn [.st [.int .i64, .st [.sl 3 (.int .i64), .sl 3 (.int .i64)], .int .i64, .int .i64, .sl 180 (.st [.int .i64, .st [.int .i64, .int .i64, .int .i64, .int .i64], .sl 262 (.st [.int .i64, .int .i64, .int .i64])]), .int .i64], .int .i64] (.int .i64)) := ⟨⟨_, _, _, Tryz.underlying54⟩, fun _ h => (by cases h), Tryz.t54, rfl, rfl, fun _ h => by cases h⟩
theorem tn56 : TnOk Tryz.prog 56 (.sl 186 (.st [.int .i64, .st [.int .i64, .int .i64, .int .i64, .int .i64], .sl 140 (.st [.int .i64, .int .i64, .int .i64])])) := ⟨⟨Tryz.underlying56, Tryz.t186, _, rfl, rfl, rfl, rfl, by decide, by decide, fun _ _ => rfl, fun k h => by cases h⟩, fun _ h => (by cases h), Tryz.t56, rfl, rfl, fun _ _ => rfl⟩
theorem tn57 : TnOk Tryz.prog 57 (.st [.int .i64, .st [.sl 3 (.int .i64), .sl 3 (.int .i64)], .int .i64, .int .i64, .sl 186 (.st [.int .i64, .st [.int .i64, .int .i64, .int .i64, .int .i64], .sl 140 (.st [.int .i64, .int .i64, .int .i64])]), .int .i64]) := ⟨⟨_, Tryz.underlying57, Tryz.eqGuardType57, Tryz.stoodInHeld57, rfl, fun j τ h => by
    cases j with
    | zero => cases h; exact ⟨_, _, rfl, rfl, by decide, by decide, Tryz.underlying3, rfl, fun us h => by cases h⟩
    | succ j =>
     cases j with
     | zero => cases h; exact ⟨_, _, rfl, rfl, by decide, by decide, Tryz.underlying39, rfl, ⟨_, rfl⟩⟩
     | succ j =>
      cases j with
      | zero => cases h; exact ⟨_, _, rfl, rfl, by decide, by decide, Tryz.underlying3, rfl, fun us h => by cases h⟩
      | succ j =>
       cases j with
       | zero => cases h; exact ⟨_, _, rfl, rfl, by decide, by decide, Tryz.underlying3, rfl, fun us h => by cases h⟩
       | succ j =>
        cases j with
        | zero => cases h; exact ⟨_, _, rfl, rfl, by decide, by decide, Tryz.underlying56, rfl, fun us h => by cases h⟩
        | succ j =>
         cases j with
         | zero => cases h; exact ⟨_, _, rfl, rfl, by decide, by decide, Tryz.underlying3, rfl, fun us h => by cases h⟩
         | succ j =>
          cases h⟩, (fun us hus fs hfs j τ h f hf => by
    cases hus
    rw [Tryz.underlying57] at hfs
    cases hfs
    cases j with
    | zero => cases h; cases hf; exact ⟨fun k e => by cases e; exact Tryz.underlying3, fun e => (by cases e), fun e => (by cases e)⟩
    | succ j =>
     cases j with
     | zero => cases h; cases hf; exact ⟨fun k e => (by cases e), fun e => (by cases e), fun e => (by cases e)⟩
     | succ j =>
      cases j with
      | zero => cases h; cases hf; exact ⟨fun k e => by cases e; exact Tryz.underlying3, fun e => (by cases e), fun e => (by cases e)⟩
      | succ j =>
       cases j with
       | zero => cases h; cases hf; exact ⟨fun k e => by cases e; exact Tryz.underlying3, fun e => (by cases e), fun e => (by cases e)⟩
       | succ j =>
        cases j with
        | zero => cases h; cases hf; exact ⟨fun k e => (by cases e), fun e => (by cases e), fun e => (by cases e)⟩
        | succ j =>
         cases j with
         | zero => cases h; cases hf; exact ⟨fun k e => by cases e; exact Tryz.underlying3, fun e => (by cases e), fun e => (by cases e)⟩
         | succ j =>
          cases h), Tryz.t57, rfl, rfl, fun _ _ => rfl⟩
theorem tn58 : TnOk Tryz.prog 58 (.st [.int .i64, .st [.sl 3 (.int .i64), .sl 3 (.int .i64)], .int .i64, .int .i64, .sl 186 (.st [.int .i64, .st [.int .i64, .int .i64, .int .i64, .int .i64], .sl 140 (.st [.int .i64, .int .i64, .int .i64])]), .int .i64]) := ⟨⟨_, Tryz.underlying58, Tryz.eqGuardType58, Tryz.stoodInHeld58, rfl, fun j τ h => by
    cases j with
    | zero => cases h; exact ⟨_, _, rfl, rfl, by decide, by decide, Tryz.underlying3, rfl, fun us h => by cases h⟩
    | succ j =>
     cases j with
     | zero => cases h; exact ⟨_, _, rfl, rfl, by decide, by decide, Tryz.underlying39, rfl, ⟨_, rfl⟩⟩
     | succ j =>
      cases j with
      | zero => cases h; exact ⟨_, _, rfl, rfl, by decide, by decide, Tryz.underlying3, rfl, fun us h => by cases h⟩
      | succ j =>
       cases j with
       | zero => cases h; exact ⟨_, _, rfl, rfl, by decide, by decide, Tryz.underlying3, rfl, fun us h => by cases h⟩
       | succ j =>
        cases j with
        | zero => cases h; exact ⟨_, _, rfl, rfl, by decide, by decide, Tryz.underlying56, rfl, fun us h => by cases h⟩
        | succ j =>
         cases j with
         | zero => cases h; exact ⟨_, _, rfl, rfl, by decide, by decide, Tryz.underlying3, rfl, fun us h => by cases h⟩
         | succ j =>
          cases h⟩, (fun us hus fs hfs j τ h f hf => by
    cases hus
    rw [Tryz.underlying58] at hfs
    cases hfs
    cases j with
    | zero => cases h; cases hf; exact ⟨fun k e => by cases e; exact Tryz.underlying3, fun e => (by cases e), fun e => (by cases e)⟩
    | succ j =>
     cases j with
     | zero => cases h; cases hf; exact ⟨fun k e => (by cases e), fun e => (by cases e), fun e => (by cases e)⟩
     | succ j =>
      cases j with
      | zero => cases h; cases hf; exact ⟨fun k e => by cases e; exact Tryz.underlying3, fun e => (by cases e), fun e => (by cases e)⟩
      | succ j =>
       cases j with
       | zero => cases h; cases hf; exact ⟨fun k e => by cases e; exact Tryz.underlying3, fun e => (by cases e), fun e => (by cases e)⟩
       | succ j =>
        cases j with
        | zero => cases h; cases hf; exact ⟨fun k e => (by cases e), fun e => (by cases e), fun e => (by cases e)⟩
        | succ j =>
         cases j with
         | zero => cases h; cases hf; exact ⟨fun k e => by cases e; exact Tryz.underlying3, fun e => (by cases e), fun e => (by cases e)⟩
         | succ j =>
          cases h), Tryz.t58, rfl, rfl, fun _ _ => rfl⟩
theorem tn59 : TnOk Tryz.prog 59 (.fn [.st [.int .i64, .st [.sl 3 (.int .i64), .sl 3 (.int .i64)], .int .i64, .int .i64, .sl 180 (.st [.int .i64, .st [.int .i64, .int .i64, .int .i64, .int .i64], .sl 262 (.st [.int .i64, .int .i64, .int .i64])]), .int .i64]] (.st [.int .i64, .st [.sl 3 (.int .i64), .sl 3 (.int .i64)], .int .i64, .int .i64, .sl 186 (.st [.int .i64, .st [.int .i64, .int .i64, .int .i64, .int .i64], .sl 140 (.st [.int .i64, .int .i64, .int .i64])]), .int .i64])) := ⟨⟨_, _, _, Tryz.underlying59⟩, fun _ h => (by cases h), Tryz.t59, rfl, rfl, fun _ h => by cases h⟩
theorem tn60 : TnOk Tryz.prog 60 (.fn [.st [.int .i64, .st [.sl 3 (.int .i64), .sl 3 (.int .i64)], .int .i64, .int .i64, .sl 186 (.st [.int .i64, .st [.int .i64, .int .i64, .int .i64, .int .i64], .sl 140 (.st [.int .i64, .int .i64, .int .i64])]), .int .i64], .st [.int .i64, .st [.sl 3 (.int .i64), .sl 3 (.int .i64)], .int .i64, .int .i64, .sl 186 (.st [.int .i64, .st [.int .i64, .int .i64, .int .i64, .int .i64], .sl 140 (.st [.int .i64, .int .i64, .int .i64])]), .int .i64]] (.bool)) := ⟨⟨_, _, _, Tryz.underlying60⟩, fun _ h => (by cases h), Tryz.t60, rfl, rfl, fun _ h => by cases h⟩
theorem tn62 : TnOk Tryz.prog 62 (.st [.st [.int .i64, .sl 152 (.st [.str, .int .i64, .sl 254 (.st [.int .i64, .sl 3 (.int .i64), .sl 3 (.int .i64)])]), .sl 165 (.st [.int .i64, .int .i64, .bool, .int .i64]), .sl 156 (.st [.sl 257 (.st [.int .i64, .int .i64]), .sl 25 (.sl 3 (.int .i64))]), .sl 3 (.int .i64)], .st [.int .i64, .st [.sl 3 (.int .i64), .sl 3 (.int .i64)], .int .i64, .int .i64, .sl 180 (.st [.int .i64, .st [.int .i64, .int .i64, .int .i64, .int .i64], .sl 262 (.st [.int .i64, .int .i64, .int .i64])]), .int .i64], .int .i64]) := ⟨⟨_, Tryz.underlying62, Tryz.eqGuardType62, Tryz.stoodInHeld62, rfl, fun j τ h => by
    cases j with
    | zero => cases h; exact ⟨_, _, rfl, rfl, by decide, by decide, Tryz.underlying27, rfl, ⟨_, rfl⟩⟩
    | succ j =>
     cases j with
     | zero => cases h; exact ⟨_, _, rfl, rfl, by decide, by decide, Tryz.underlying53, rfl, ⟨_, rfl⟩⟩
     | succ j =>
      cases j with
      | zero => cases h; exact ⟨_, _, rfl, rfl, by decide, by decide, Tryz.underlying3, rfl, fun us h => by cases h⟩
      | succ j =>
       cases h⟩, (fun us hus fs hfs j τ h f hf => by
    cases hus
    rw [Tryz.underlying62] at hfs
    cases hfs
    cases j with
    | zero => cases h; cases hf; exact ⟨fun k e => (by cases e), fun e => (by cases e), fun e => (by cases e)⟩
    | succ j =>
     cases j with
     | zero => cases h; cases hf; exact ⟨fun k e => (by cases e), fun e => (by cases e), fun e => (by cases e)⟩
     | succ j =>
      cases j with
      | zero => cases h; cases hf; exact ⟨fun k e => by cases e; exact Tryz.underlying3, fun e => (by cases e), fun e => (by cases e)⟩
      | succ j =>
       cases h), Tryz.t62, rfl, rfl, fun _ _ => rfl⟩
theorem tn63 : TnOk Tryz.prog 63 (.st [.st [.int .i64, .sl 152 (.st [.str, .int .i64, .sl 254 (.st [.int .i64, .sl 3 (.int .i64), .sl 3 (.int .i64)])]), .sl 165 (.st [.int .i64, .int .i64, .bool, .int .i64]), .sl 156 (.st [.sl 257 (.st [.int .i64, .int .i64]), .sl 25 (.sl 3 (.int .i64))]), .sl 3 (.int .i64)], .st [.int .i64, .st [.sl 3 (.int .i64), .sl 3 (.int .i64)], .int .i64, .int .i64, .sl 180 (.st [.int .i64, .st [.int .i64, .int .i64, .int .i64, .int .i64], .sl 262 (.st [.int .i64, .int .i64, .int .i64])]), .int .i64], .int .i64]) := ⟨⟨_, Tryz.underlying63, Tryz.eqGuardType63, Tryz.stoodInHeld63, rfl, fun j τ h => by
    cases j with
    | zero => cases h; exact ⟨_, _, rfl, rfl, by decide, by decide, Tryz.underlying27, rfl, ⟨_, rfl⟩⟩
    | succ j =>
     cases j with
     | zero => cases h; exact ⟨_, _, rfl, rfl, by decide, by decide, Tryz.underlying53, rfl, ⟨_, rfl⟩⟩
     | succ j =>
      cases j with
      | zero => cases h; exact ⟨_, _, rfl, rfl, by decide, by decide, Tryz.underlying3, rfl, fun us h => by cases h⟩
      | succ j =>
       cases h⟩, (fun us hus fs hfs j τ h f hf => by
    cases hus
    rw [Tryz.underlying63] at hfs
    cases hfs
    cases j with
    | zero => cases h; cases hf; exact ⟨fun k e => (by cases e), fun e => (by cases e), fun e => (by cases e)⟩
    | succ j =>
     cases j with
     | zero => cases h; cases hf; exact ⟨fun k e => (by cases e), fun e => (by cases e), fun e => (by cases e)⟩
     | succ j =>
      cases j with
      | zero => cases h; cases hf; exact ⟨fun k e => by cases e; exact Tryz.underlying3, fun e => (by cases e), fun e => (by cases e)⟩
      | succ j =>
       cases h), Tryz.t63, rfl, rfl, fun _ _ => rfl⟩
theorem tn64 : TnOk Tryz.prog 64 (.fn [.st [.st [.int .i64, .sl 152 (.st [.str, .int .i64, .sl 254 (.st [.int .i64, .sl 3 (.int .i64), .sl 3 (.int .i64)])]), .sl 165 (.st [.int .i64, .int .i64, .bool, .int .i64]), .sl 156 (.st [.sl 257 (.st [.int .i64, .int .i64]), .sl 25 (.sl 3 (.int .i64))]), .sl 3 (.int .i64)], .st [.int .i64, .st [.sl 3 (.int .i64), .sl 3 (.int .i64)], .int .i64, .int .i64, .sl 180 (.st [.int .i64, .st [.int .i64, .int .i64, .int .i64, .int .i64], .sl 262 (.st [.int .i64, .int .i64, .int .i64])]), .int .i64], .int .i64], .int .i64] (.int .i64)) := ⟨⟨_, _, _, Tryz.underlying64⟩, fun _ h => (by cases h), Tryz.t64, rfl, rfl, fun _ h => by cases h⟩
theorem tn65 : TnOk Tryz.prog 65 (.fn [.st [.st [.int .i64, .sl 92 (.st [.str, .int .i64, .sl 158 (.st [.int .i64, .sl 3 (.int .i64), .sl 3 (.int .i64)])]), .sl 163 (.st [.int .i64, .int .i64, .bool, .int .i64]), .sl 104 (.st [.sl 169 (.st [.int .i64, .int .i64]), .sl 25 (.sl 3 (.int .i64))]), .sl 3 (.int .i64)], .st [.int .i64, .st [.sl 3 (.int .i64), .sl 3 (.int .i64)], .int .i64, .int .i64, .sl 186 (.st [.int .i64, .st [.int .i64, .int .i64, .int .i64, .int .i64], .sl 140 (.st [.int .i64, .int .i64, .int .i64])]), .int .i64], .int .i64]] (.bool)) := ⟨⟨_, _, _, Tryz.underlying65⟩, fun _ h => (by cases h), Tryz.t65, rfl, rfl, fun _ h => by cases h⟩
theorem tn66 : TnOk Tryz.prog 66 (.st [.st [.int .i64, .sl 92 (.st [.str, .int .i64, .sl 158 (.st [.int .i64, .sl 3 (.int .i64), .sl 3 (.int .i64)])]), .sl 163 (.st [.int .i64, .int .i64, .bool, .int .i64]), .sl 104 (.st [.sl 169 (.st [.int .i64, .int .i64]), .sl 25 (.sl 3 (.int .i64))]), .sl 3 (.int .i64)], .st [.int .i64, .st [.sl 3 (.int .i64), .sl 3 (.int .i64)], .int .i64, .int .i64, .sl 186 (.st [.int .i64, .st [.int .i64, .int .i64, .int .i64, .int .i64], .sl 140 (.st [.int .i64, .int .i64, .int .i64])]), .int .i64], .int .i64]) := ⟨⟨_, Tryz.underlying66, Tryz.eqGuardType66, Tryz.stoodInHeld66, rfl, fun j τ h => by
    cases j with
    | zero => cases h; exact ⟨_, _, rfl, rfl, by decide, by decide, Tryz.underlying37, rfl, ⟨_, rfl⟩⟩
    | succ j =>
     cases j with
     | zero => cases h; exact ⟨_, _, rfl, rfl, by decide, by decide, Tryz.underlying58, rfl, ⟨_, rfl⟩⟩
     | succ j =>
      cases j with
      | zero => cases h; exact ⟨_, _, rfl, rfl, by decide, by decide, Tryz.underlying3, rfl, fun us h => by cases h⟩
      | succ j =>
       cases h⟩, (fun us hus fs hfs j τ h f hf => by
    cases hus
    rw [Tryz.underlying66] at hfs
    cases hfs
    cases j with
    | zero => cases h; cases hf; exact ⟨fun k e => (by cases e), fun e => (by cases e), fun e => (by cases e)⟩
    | succ j =>
     cases j with
     | zero => cases h; cases hf; exact ⟨fun k e => (by cases e), fun e => (by cases e), fun e => (by cases e)⟩
     | succ j =>
      cases j with
      | zero => cases h; cases hf; exact ⟨fun k e => by cases e; exact Tryz.underlying3, fun e => (by cases e), fun e => (by cases e)⟩
      | succ j =>
       cases h), Tryz.t66, rfl, rfl, fun _ _ => rfl⟩
theorem tn67 : TnOk Tryz.prog 67 (.st [.st [.int .i64, .sl 92 (.st [.str, .int .i64, .sl 158 (.st [.int .i64, .sl 3 (.int .i64), .sl 3 (.int .i64)])]), .sl 163 (.st [.int .i64, .int .i64, .bool, .int .i64]), .sl 104 (.st [.sl 169 (.st [.int .i64, .int .i64]), .sl 25 (.sl 3 (.int .i64))]), .sl 3 (.int .i64)], .st [.int .i64, .st [.sl 3 (.int .i64), .sl 3 (.int .i64)], .int .i64, .int .i64, .sl 186 (.st [.int .i64, .st [.int .i64, .int .i64, .int .i64, .int .i64], .sl 140 (.st [.int .i64, .int .i64, .int .i64])]), .int .i64], .int .i64]) := ⟨⟨_, Tryz.underlying67, Tryz.eqGuardType67, Tryz.stoodInHeld67, rfl, fun j τ h => by
    cases j with
    | zero => cases h; exact ⟨_, _, rfl, rfl, by decide, by decide, Tryz.underlying37, rfl, ⟨_, rfl⟩⟩
    | succ j =>
     cases j with
     | zero => cases h; exact ⟨_, _, rfl, rfl, by decide, by decide, Tryz.underlying58, rfl, ⟨_, rfl⟩⟩
     | succ j =>
      cases j with
      | zero => cases h; exact ⟨_, _, rfl, rfl, by decide, by decide, Tryz.underlying3, rfl, fun us h => by cases h⟩
      | succ j =>
       cases h⟩, (fun us hus fs hfs j τ h f hf => by
    cases hus
    rw [Tryz.underlying67] at hfs
    cases hfs
    cases j with
    | zero => cases h; cases hf; exact ⟨fun k e => (by cases e), fun e => (by cases e), fun e => (by cases e)⟩
    | succ j =>
     cases j with
     | zero => cases h; cases hf; exact ⟨fun k e => (by cases e), fun e => (by cases e), fun e => (by cases e)⟩
     | succ j =>
      cases j with
      | zero => cases h; cases hf; exact ⟨fun k e => by cases e; exact Tryz.underlying3, fun e => (by cases e), fun e => (by cases e)⟩
      | succ j =>
       cases h), Tryz.t67, rfl, rfl, fun _ _ => rfl⟩
theorem tn68 : TnOk Tryz.prog 68 (.fn [.st [.st [.int .i64, .sl 152 (.st [.str, .int .i64, .sl 254 (.st [.int .i64, .sl 3 (.int .i64), .sl 3 (.int .i64)])]), .sl 165 (.st [.int .i64, .int .i64, .bool, .int .i64]), .sl 156 (.st [.sl 257 (.st [.int .i64, .int .i64]), .sl 25 (.sl 3 (.int .i64))]), .sl 3 (.int .i64)], .st [.int .i64, .st [.sl 3 (.int .i64), .sl 3 (.int .i64)], .int .i64, .int .i64, .sl 180 (.st [.int .i64, .st [.int .i64, .int .i64, .int .i64, .int .i64], .sl 262 (.st [.int .i64, .int .i64, .int .i64])]), .int .i64], .int .i64]] (.st [.st [.int .i64, .sl 92 (.st [.str, .int .i64, .sl 158 (.st [.int .i64, .sl 3 (.int .i64), .sl 3 (.int .i64)])]), .sl 163 (.st [.int .i64, .int .i64, .bool, .int .i64]), .sl 104 (.st [.sl 169 (.st [.int .i64, .int .i64]), .sl 25 (.sl 3 (.int .i64))]), .sl 3 (.int .i64)], .st [.int .i64, .st [.sl 3 (.int .i64), .sl 3 (.int .i64)], .int .i64, .int .i64, .sl 186 (.st [.int .i64, .st [.int .i64, .int .i64, .int .i64, .int .i64], .sl 140 (.st [.int .i64, .int .i64, .int .i64])]), .int .i64], .int .i64])) := ⟨⟨_, _, _, Tryz.underlying68⟩, fun _ h => (by cases h), Tryz.t68, rfl, rfl, fun _ h => by cases h⟩
theorem tn69 : TnOk Tryz.prog 69 (.fn [.st [.st [.int .i64, .sl 92 (.st [.str, .int .i64, .sl 158 (.st [.int .i64, .sl 3 (.int .i64), .sl 3 (.int .i64)])]), .sl 163 (.st [.int .i64, .int .i64, .bool, .int .i64]), .sl 104 (.st [.sl 169 (.st [.int .i64, .int .i64]), .sl 25 (.sl 3 (.int .i64))]), .sl 3 (.int .i64)], .st [.int .i64, .st [.sl 3 (.int .i64), .sl 3 (.int .i64)], .int .i64, .int .i64, .sl 186 (.st [.int .i64, .st [.int .i64, .int .i64, .int .i64, .int .i64], .sl 140 (.st [.int .i64, .int .i64, .int .i64])]), .int .i64], .int .i64], .st [.st [.int .i64, .sl 92 (.st [.str, .int .i64, .sl 158 (.st [.int .i64, .sl 3 (.int .i64), .sl 3 (.int .i64)])]), .sl 163 (.st [.int .i64, .int .i64, .bool, .int .i64]), .sl 104 (.st [.sl 169 (.st [.int .i64, .int .i64]), .sl 25 (.sl 3 (.int .i64))]), .sl 3 (.int .i64)], .st [.int .i64, .st [.sl 3 (.int .i64), .sl 3 (.int .i64)], .int .i64, .int .i64, .sl 186 (.st [.int .i64, .st [.int .i64, .int .i64, .int .i64, .int .i64], .sl 140 (.st [.int .i64, .int .i64, .int .i64])]), .int .i64], .int .i64]] (.bool)) := ⟨⟨_, _, _, Tryz.underlying69⟩, fun _ h => (by cases h), Tryz.t69, rfl, rfl, fun _ h => by cases h⟩
theorem tn70 : TnOk Tryz.prog 70 (.fn [.st [.st [.int .i64, .sl 152 (.st [.str, .int .i64, .sl 254 (.st [.int .i64, .sl 3 (.int .i64), .sl 3 (.int .i64)])]), .sl 165 (.st [.int .i64, .int .i64, .bool, .int .i64]), .sl 156 (.st [.sl 257 (.st [.int .i64, .int .i64]), .sl 25 (.sl 3 (.int .i64))]), .sl 3 (.int .i64)], .st [.int .i64, .st [.sl 3 (.int .i64), .sl 3 (.int .i64)], .int .i64, .int .i64, .sl 180 (.st [.int .i64, .st [.int .i64, .int .i64, .int .i64, .int .i64], .sl 262 (.st [.int .i64, .int .i64, .int .i64])]), .int .i64], .int .i64]] (.bool)) := ⟨⟨_, _, _, Tryz.underlying70⟩, fun _ h => (by cases h), Tryz.t70, rfl, rfl, fun _ h => by cases h⟩
theorem tn77 : TnOk Tryz.prog 77 (.sl 5 (.int .u8)) := ⟨⟨Tryz.underlying77, Tryz.t5, _, rfl, rfl, rfl, rfl, by decide, by decide, fun _ _ => rfl, fun k h => by cases h; exact Tryz.underlying5⟩, fun _ h => (by cases h), Tryz.t77, rfl, rfl, fun _ _ => rfl⟩
theorem tn80 : TnOk Tryz.prog 80 (.sl 25 (.sl 3 (.int .i64))) := ⟨⟨Tryz.underlying80, Tryz.t25, _, rfl, rfl, rfl, rfl, by decide, by decide, fun _ _ => rfl, fun k h => by cases h⟩, fun _ h => (by cases h), Tryz.t80, rfl, rfl, fun _ _ => rfl⟩
theorem tn86 : TnOk Tryz.prog 86 (.st [.int .i64, .int .i64, .int .i64, .int .i64]) := ⟨⟨_, Tryz.underlying86, Tryz.eqGuardType86, Tryz.stoodInHeld86, rfl, fun j τ h => by
    cases j with
    | zero => cases h; exact ⟨_, _, rfl, rfl, by decide, by decide, Tryz.underlying3, rfl, fun us h => by cases h⟩
    | succ j =>
     cases j with
     | zero => cases h; exact ⟨_, _, rfl, rfl, by decide, by decide, Tryz.underlying3, rfl, fun us h => by cases h⟩
     | succ j =>
      cases j with
      | zero => cases h; exact ⟨_, _, rfl, rfl, by decide, by decide, Tryz.underlying3, rfl, fun us h => by cases h⟩
      | succ j =>
       cases j with
       | zero => cases h; exact ⟨_, _, rfl, rfl, by decide, by decide, Tryz.underlying3, rfl, fun us h => by cases h⟩
       | succ j =>
        cases h⟩, (fun us hus fs hfs j τ h f hf => by
    cases hus
    rw [Tryz.underlying86] at hfs
    cases hfs
    cases j with
    | zero => cases h; cases hf; exact ⟨fun k e => by cases e; exact Tryz.underlying3, fun e => (by cases e), fun e => (by cases e)⟩
    | succ j =>
     cases j with
     | zero => cases h; cases hf; exact ⟨fun k e => by cases e; exact Tryz.underlying3, fun e => (by cases e), fun e => (by cases e)⟩
     | succ j =>
      cases j with
      | zero => cases h; cases hf; exact ⟨fun k e => by cases e; exact Tryz.underlying3, fun e => (by cases e), fun e => (by cases e)⟩
      | succ j =>
       cases j with
       | zero => cases h; cases hf; exact ⟨fun k e => by cases e; exact Tryz.underlying3, fun e => (by cases e), fun e => (by cases e)⟩
       | succ j =>
        cases h), Tryz.t86, rfl, rfl, fun _ _ => rfl⟩
theorem tn87 : TnOk Tryz.prog 87 (.st [.int .i64, .int .i64, .int .i64, .int .i64]) := ⟨⟨_, Tryz.underlying87, Tryz.eqGuardType87, Tryz.stoodInHeld87, rfl, fun j τ h => by
    cases j with
    | zero => cases h; exact ⟨_, _, rfl, rfl, by decide, by decide, Tryz.underlying3, rfl, fun us h => by cases h⟩
    | succ j =>
     cases j with
     | zero => cases h; exact ⟨_, _, rfl, rfl, by decide, by decide, Tryz.underlying3, rfl, fun us h => by cases h⟩
     | succ j =>
      cases j with
      | zero => cases h; exact ⟨_, _, rfl, rfl, by decide, by decide, Tryz.underlying3, rfl, fun us h => by cases h⟩
      | succ j =>
       cases j with
       | zero => cases h; exact ⟨_, _, rfl, rfl, by decide, by decide, Tryz.underlying3, rfl, fun us h => by cases h⟩
       | succ j =>
        cases h⟩, (fun us hus fs hfs j τ h f hf => by
    cases hus
    rw [Tryz.underlying87] at hfs
    cases hfs
    cases j with
    | zero => cases h; cases hf; exact ⟨fun k e => by cases e; exact Tryz.underlying3, fun e => (by cases e), fun e => (by cases e)⟩
    | succ j =>
     cases j with
     | zero => cases h; cases hf; exact ⟨fun k e => by cases e; exact Tryz.underlying3, fun e => (by cases e), fun e => (by cases e)⟩
     | succ j =>
      cases j with
      | zero => cases h; cases hf; exact ⟨fun k e => by cases e; exact Tryz.underlying3, fun e => (by cases e), fun e => (by cases e)⟩
      | succ j =>
       cases j with
       | zero => cases h; cases hf; exact ⟨fun k e => by cases e; exact Tryz.underlying3, fun e => (by cases e), fun e => (by cases e)⟩
       | succ j =>
        cases h), Tryz.t87, rfl, rfl, fun _ _ => rfl⟩
theorem tn88 : TnOk Tryz.prog 88 (.fn [.sl 3 (.int .i64), .int .i64] (.bool)) := ⟨⟨_, _, _, Tryz.underlying88⟩, fun _ h => (by cases h), Tryz.t88, rfl, rfl, fun _ h => by cases h⟩
theorem tn90 : TnOk Tryz.prog 90 (.sl 158 (.st [.int .i64, .sl 3 (.int .i64), .sl 3 (.int .i64)])) := ⟨⟨Tryz.underlying90, Tryz.t158, _, rfl, rfl, rfl, rfl, by decide, by decide, fun _ _ => rfl, fun k h => by cases h⟩, fun _ h => (by cases h), Tryz.t90, rfl, rfl, fun _ _ => rfl⟩
theorem tn91 : TnOk Tryz.prog 91 (.st [.str, .int .i64, .sl 158 (.st [.int .i64, .sl 3 (.int .i64), .sl 3 (.int .i64)])]) := ⟨⟨_, Tryz.underlying91, Tryz.eqGuardType91, Tryz.stoodInHeld91, rfl, fun j τ h => by
    cases j with
    | zero => cases h; exact ⟨_, _, rfl, rfl, by decide, by decide, Tryz.underlying9, rfl, fun us h => by cases h⟩
    | succ j =>
     cases j with
     | zero => cases h; exact ⟨_, _, rfl, rfl, by decide, by decide, Tryz.underlying3, rfl, fun us h => by cases h⟩
     | succ j =>
      cases j with
      | zero => cases h; exact ⟨_, _, rfl, rfl, by decide, by decide, Tryz.underlying90, rfl, fun us h => by cases h⟩
      | succ j =>
       cases h⟩, (fun us hus fs hfs j τ h f hf => by
    cases hus
    rw [Tryz.underlying91] at hfs
    cases hfs
    cases j with
    | zero => cases h; cases hf; exact ⟨fun k e => (by cases e), fun e => (by cases e), fun _ => Tryz.underlying9⟩
    | succ j =>
     cases j with
     | zero => cases h; cases hf; exact ⟨fun k e => by cases e; exact Tryz.underlying3, fun e => (by cases e), fun e => (by cases e)⟩
     | succ j =>
      cases j with
      | zero => cases h; cases hf; exact ⟨fun k e => (by cases e), fun e => (by cases e), fun e => (by cases e)⟩
      | succ j =>
       cases h), Tryz.t91, rfl, rfl, fun _ _ => rfl⟩
theorem tn92 : TnOk Tryz.prog 92 (.st [.str, .int .i64, .sl 158 (.st [.int .i64, .sl 3 (.int .i64), .sl 3 (.int .i64)])]) := ⟨⟨_, Tryz.underlying92, Tryz.eqGuardType92, Tryz.stoodInHeld92, rfl, fun j τ h => by
    cases j with
    | zero => cases h; exact ⟨_, _, rfl, rfl, by decide, by decide, Tryz.underlying9, rfl, fun us h => by cases h⟩
    | succ j =>
     cases j with
     | zero => cases h; exact ⟨_, _, rfl, rfl, by decide, by decide, Tryz.underlying3, rfl, fun us h => by cases h⟩
     | succ j =>
      cases j with
      | zero => cases h; exact ⟨_, _, rfl, rfl, by decide, by decide, Tryz.underlying90, rfl, fun us h => by cases h⟩
      | succ j =>
       cases h⟩, (fun us hus fs hfs j τ h f hf => by
    cases hus
    rw [Tryz.underlying92] at hfs
    cases hfs
    cases j with
    | zero => cases h; cases hf; exact ⟨fun k e => (by cases e), fun e => (by cases e), fun _ => Tryz.underlying9⟩
    | succ j =>
     cases j with
     | zero => cases h; cases hf; exact ⟨fun k e => by cases e; exact Tryz.underlying3, fun e => (by cases e), fun e => (by cases e)⟩
     | succ j =>
      cases j with
      | zero => cases h; cases hf; exact ⟨fun k e => (by cases e), fun e => (by cases e), fun e => (by cases e)⟩
      | succ j =>
       cases h), Tryz.t92, rfl, rfl, fun _ _ => rfl⟩
theorem tn94 : TnOk Tryz.prog 94 (.fn [.sl 152 (.st [.str, .int .i64, .sl 254 (.st [.int .i64, .sl 3 (.int .i64), .sl 3 (.int .i64)])]), .int .i64] (.int .i64)) := ⟨⟨_, _, _, Tryz.underlying94⟩, fun _ h => (by cases h), Tryz.t94, rfl, rfl, fun _ h => by cases h⟩
theorem tn95 : TnOk Tryz.prog 95 (.fn [.sl 165 (.st [.int .i64, .int .i64, .bool, .int .i64]), .int .i64] (.int .i64)) := ⟨⟨_, _, _, Tryz.underlying95⟩, fun _ h => (by cases h), Tryz.t95, rfl, rfl, fun _ h => by cases h⟩
theorem tn96 : TnOk Tryz.prog 96 (.fn [.sl 156 (.st [.sl 257 (.st [.int .i64, .int .i64]), .sl 25 (.sl 3 (.int .i64))]), .int .i64] (.int .i64)) := ⟨⟨_, _, _, Tryz.underlying96⟩, fun _ h => (by cases h), Tryz.t96, rfl, rfl, fun _ h => by cases h⟩
theorem tn97 : TnOk Tryz.prog 97 (.fn [.sl 3 (.int .i64), .int .i64] (.int .i64)) := ⟨⟨_, _, _, Tryz.underlying97⟩, fun _ h => (by cases h), Tryz.t97, rfl, rfl, fun _ h => by cases h⟩
theorem tn99 : TnOk Tryz.prog 99 (.fn [.int .i64, .int .i64, .int .i64] (.bool)) := ⟨⟨_, _, _, Tryz.underlying99⟩, fun _ h => (by cases h), Tryz.t99, rfl, rfl, fun _ h => by cases h⟩
theorem tn102 : TnOk Tryz.prog 102 (.sl 169 (.st [.int .i64, .int .i64])) := ⟨⟨Tryz.underlying102, Tryz.t169, _, rfl, rfl, rfl, rfl, by decide, by decide, fun _ _ => rfl, fun k h => by cases h⟩, fun _ h => (by cases h), Tryz.t102, rfl, rfl, fun _ _ => rfl⟩
theorem tn103 : TnOk Tryz.prog 103 (.st [.sl 169 (.st [.int .i64, .int .i64]), .sl 25 (.sl 3 (.int .i64))]) := ⟨⟨_, Tryz.underlying103, Tryz.eqGuardType103, Tryz.stoodInHeld103, rfl, fun j τ h => by
    cases j with
    | zero => cases h; exact ⟨_, _, rfl, rfl, by decide, by decide, Tryz.underlying102, rfl, fun us h => by cases h⟩
    | succ j =>
     cases j with
     | zero => cases h; exact ⟨_, _, rfl, rfl, by decide, by decide, Tryz.underlying80, rfl, fun us h => by cases h⟩
     | succ j =>
      cases h⟩, (fun us hus fs hfs j τ h f hf => by
    cases hus
    rw [Tryz.underlying103] at hfs
    cases hfs
    cases j with
    | zero => cases h; cases hf; exact ⟨fun k e => (by cases e), fun e => (by cases e), fun e => (by cases e)⟩
    | succ j =>
     cases j with
     | zero => cases h; cases hf; exact ⟨fun k e => (by cases e), fun e => (by cases e), fun e => (by cases e)⟩
     | succ j =>
      cases h), Tryz.t103, rfl, rfl, fun _ _ => rfl⟩
theorem tn104 : TnOk Tryz.prog 104 (.st [.sl 169 (.st [.int .i64, .int .i64]), .sl 25 (.sl 3 (.int .i64))]) := ⟨⟨_, Tryz.underlying104, Tryz.eqGuardType104, Tryz.stoodInHeld104, rfl, fun j τ h => by
    cases j with
    | zero => cases h; exact ⟨_, _, rfl, rfl, by decide, by decide, Tryz.underlying102, rfl, fun us h => by cases h⟩
    | succ j =>
     cases j with
     | zero => cases h; exact ⟨_, _, rfl, rfl, by decide, by decide, Tryz.underlying80, rfl, fun us h => by cases h⟩
     | succ j =>
      cases h⟩, (fun us hus fs hfs j τ h f hf => by
    cases hus
    rw [Tryz.underlying104] at hfs
    cases hfs
    cases j with
    | zero => cases h; cases hf; exact ⟨fun k e => (by cases e), fun e => (by cases e), fun e => (by cases e)⟩
    | succ j =>
     cases j with
     | zero => cases h; cases hf; exact ⟨fun k e => (by cases e), fun e => (by cases e), fun e => (by cases e)⟩
     | succ j =>
      cases h), Tryz.t104, rfl, rfl, fun _ _ => rfl⟩
theorem tn105 : TnOk Tryz.prog 105 (.fn [.int .i64] (.str)) := ⟨⟨_, _, _, Tryz.underlying105⟩, fun _ h => (by cases h), Tryz.t105, rfl, rfl, fun _ h => by cases h⟩
theorem tn106 : TnOk Tryz.prog 106 (.fn [.sl 152 (.st [.str, .int .i64, .sl 254 (.st [.int .i64, .sl 3 (.int .i64), .sl 3 (.int .i64)])])] (.sl 92 (.st [.str, .int .i64, .sl 158 (.st [.int .i64, .sl 3 (.int .i64), .sl 3 (.int .i64)])]))) := ⟨⟨_, _, _, Tryz.underlying106⟩, fun _ h => (by cases h), Tryz.t106, rfl, rfl, fun _ h => by cases h⟩
theorem tn107 : TnOk Tryz.prog 107 (.fn [.sl 165 (.st [.int .i64, .int .i64, .bool, .int .i64])] (.sl 163 (.st [.int .i64, .int .i64, .bool, .int .i64]))) := ⟨⟨_, _, _, Tryz.underlying107⟩, fun _ h => (by cases h), Tryz.t107, rfl, rfl, fun _ h => by cases h⟩
theorem tn108 : TnOk Tryz.prog 108 (.fn [.sl 156 (.st [.sl 257 (.st [.int .i64, .int .i64]), .sl 25 (.sl 3 (.int .i64))])] (.sl 104 (.st [.sl 169 (.st [.int .i64, .int .i64]), .sl 25 (.sl 3 (.int .i64))]))) := ⟨⟨_, _, _, Tryz.underlying108⟩, fun _ h => (by cases h), Tryz.t108, rfl, rfl, fun _ h => by cases h⟩
theorem tn109 : TnOk Tryz.prog 109 (.fn [.sl 3 (.int .i64)] (.sl 3 (.int .i64))) := ⟨⟨_, _, _, Tryz.underlying109⟩, fun _ h => (by cases h), Tryz.t109, rfl, rfl, fun _ h => by cases h⟩
theorem tn110 : TnOk Tryz.prog 110 (.fn [.int .i64] (.bool)) := ⟨⟨_, _, _, Tryz.underlying110⟩, fun _ h => (by cases h), Tryz.t110, rfl, rfl, fun _ h => by cases h⟩
theorem tn112 : TnOk Tryz.prog 112 (.fn [.sl 92 (.st [.str, .int .i64, .sl 158 (.st [.int .i64, .sl 3 (.int .i64), .sl 3 (.int .i64)])]), .sl 92 (.st [.str, .int .i64, .sl 158 (.st [.int .i64, .sl 3 (.int .i64), .sl 3 (.int .i64)])])] (.bool)) := ⟨⟨_, _, _, Tryz.underlying112⟩, fun _ h => (by cases h), Tryz.t112, rfl, rfl, fun _ h => by cases h⟩
theorem tn113 : TnOk Tryz.prog 113 (.fn [.sl 163 (.st [.int .i64, .int .i64, .bool, .int .i64]), .sl 163 (.st [.int .i64, .int .i64, .bool, .int .i64])] (.bool)) := ⟨⟨_, _, _, Tryz.underlying113⟩, fun _ h => (by cases h), Tryz.t113, rfl, rfl, fun _ h => by cases h⟩
theorem tn114 : TnOk Tryz.prog 114 (.fn [.sl 104 (.st [.sl 169 (.st [.int .i64, .int .i64]), .sl 25 (.sl 3 (.int .i64))]), .sl 104 (.st [.sl 169 (.st [.int .i64, .int .i64]), .sl 25 (.sl 3 (.int .i64))])] (.bool)) := ⟨⟨_, _, _, Tryz.underlying114⟩, fun _ h => (by cases h), Tryz.t114, rfl, rfl, fun _ h => by cases h⟩
theorem tn115 : TnOk Tryz.prog 115 (.fn [.sl 3 (.int .i64), .sl 3 (.int .i64)] (.bool)) := ⟨⟨_, _, _, Tryz.underlying115⟩, fun _ h => (by cases h), Tryz.t115, rfl, rfl, fun _ h => by cases h⟩
theorem tn119 : TnOk Tryz.prog 119 (.fn [.sl 180 (.st [.int .i64, .st [.int .i64, .int .i64, .int .i64, .int .i64], .sl 262 (.st [.int .i64, .int .i64, .int .i64])]), .int .i64] (.int .i64)) := ⟨⟨_, _, _, Tryz.underlying119⟩, fun _ h => (by cases h), Tryz.t119, rfl, rfl, fun _ h => by cases h⟩
theorem tn120 : TnOk Tryz.prog 120 (.fn [.st [.int .i64, .sl 92 (.st [.str, .int .i64, .sl 158 (.st [.int .i64, .sl 3 (.int .i64), .sl 3 (.int .i64)])]), .sl 163 (.st [.int .i64, .int .i64, .bool, .int .i64]), .sl 104 (.st [.sl 169 (.st [.int .i64, .int .i64]), .sl 25 (.sl 3 (.int .i64))]), .sl 3 (.int .i64)]] (.bool)) := ⟨⟨_, _, _, Tryz.underlying120⟩, fun _ h => (by cases h), Tryz.t120, rfl, rfl, fun _ h => by cases h⟩
theorem tn122 : TnOk Tryz.prog 122 (.fn [.sl 180 (.st [.int .i64, .st [.int .i64, .int .i64, .int .i64, .int .i64], .sl 262 (.st [.int .i64, .int .i64, .int .i64])])] (.sl 186 (.st [.int .i64, .st [.int .i64, .int .i64, .int .i64, .int .i64], .sl 140 (.st [.int .i64, .int .i64, .int .i64])]))) := ⟨⟨_, _, _, Tryz.underlying122⟩, fun _ h => (by cases h), Tryz.t122, rfl, rfl, fun _ h => by cases h⟩
theorem tn123 : TnOk Tryz.prog 123 (.fn [.sl 186 (.st [.int .i64, .st [.int .i64, .int .i64, .int .i64, .int .i64], .sl 140 (.st [.int .i64, .int .i64, .int .i64])]), .sl 186 (.st [.int .i64, .st [.int .i64, .int .i64, .int .i64, .int .i64], .sl 140 (.st [.int .i64, .int .i64, .int .i64])])] (.bool)) := ⟨⟨_, _, _, Tryz.underlying123⟩, fun _ h => (by cases h), Tryz.t123, rfl, rfl, fun _ h => by cases h⟩
theorem tn124 : TnOk Tryz.prog 124 (.fn [.st [.int .i64, .sl 92 (.st [.str, .int .i64, .sl 158 (.st [.int .i64, .sl 3 (.int .i64), .sl 3 (.int .i64)])]), .sl 163 (.st [.int .i64, .int .i64, .bool, .int .i64]), .sl 104 (.st [.sl 169 (.st [.int .i64, .int .i64]), .sl 25 (.sl 3 (.int .i64))]), .sl 3 (.int .i64)]] (.st [.int .i64, .sl 92 (.st [.str, .int .i64, .sl 158 (.st [.int .i64, .sl 3 (.int .i64), .sl 3 (.int .i64)])]), .sl 163 (.st [.int .i64, .int .i64, .bool, .int .i64]), .sl 104 (.st [.sl 169 (.st [.int .i64, .int .i64]), .sl 25 (.sl 3 (.int .i64))]), .sl 3 (.int .i64)])) := ⟨⟨_, _, _, Tryz.underlying124⟩, fun _ h => (by cases h), Tryz.t124, rfl, rfl, fun _ h => by cases h⟩
theorem tn128 : TnOk Tryz.prog 128 (.fn [.st [.int .i64, .sl 92 (.st [.str, .int .i64, .sl 158 (.st [.int .i64, .sl 3 (.int .i64), .sl 3 (.int .i64)])]), .sl 163 (.st [.int .i64, .int .i64, .bool, .int .i64]), .sl 104 (.st [.sl 169 (.st [.int .i64, .int .i64]), .sl 25 (.sl 3 (.int .i64))]), .sl 3 (.int .i64)], .str] (.int .i64)) := ⟨⟨_, _, _, Tryz.underlying128⟩, fun _ h => (by cases h), Tryz.t128, rfl, rfl, fun _ h => by cases h⟩
theorem tn139 : TnOk Tryz.prog 139 (.st [.int .i64, .int .i64, .int .i64]) := ⟨⟨_, Tryz.underlying139, Tryz.eqGuardType139, Tryz.stoodInHeld139, rfl, fun j τ h => by
    cases j with
    | zero => cases h; exact ⟨_, _, rfl, rfl, by decide, by decide, Tryz.underlying3, rfl, fun us h => by cases h⟩
    | succ j =>
     cases j with
     | zero => cases h; exact ⟨_, _, rfl, rfl, by decide, by decide, Tryz.underlying3, rfl, fun us h => by cases h⟩
     | succ j =>
      cases j with
      | zero => cases h; exact ⟨_, _, rfl, rfl, by decide, by decide, Tryz.underlying3, rfl, fun us h => by cases h⟩
      | succ j =>
       cases h⟩, (fun us hus fs hfs j τ h f hf => by
    cases hus
    rw [Tryz.underlying139] at hfs
    cases hfs
    cases j with
    | zero => cases h; cases hf; exact ⟨fun k e => by cases e; exact Tryz.underlying3, fun e => (by cases e), fun e => (by cases e)⟩
    | succ j =>
     cases j with
     | zero => cases h; cases hf; exact ⟨fun k e => by cases e; exact Tryz.underlying3, fun e => (by cases e), fun e => (by cases e)⟩
     | succ j =>
      cases j with
      | zero => cases h; cases hf; exact ⟨fun k e => by cases e; exact Tryz.underlying3, fun e => (by cases e), fun e => (by cases e)⟩
      | succ j =>
       cases h), Tryz.t139, rfl, rfl, fun _ _ => rfl⟩
theorem tn140 : TnOk Tryz.prog 140 (.st [.int .i64, .int .i64, .int .i64]) := ⟨⟨_, Tryz.underlying140, Tryz.eqGuardType140, Tryz.stoodInHeld140, rfl, fun j τ h => by
    cases j with
    | zero => cases h; exact ⟨_, _, rfl, rfl, by decide, by decide, Tryz.underlying3, rfl, fun us h => by cases h⟩
    | succ j =>
     cases j with
     | zero => cases h; exact ⟨_, _, rfl, rfl, by decide, by decide, Tryz.underlying3, rfl, fun us h => by cases h⟩
     | succ j =>
      cases j with
      | zero => cases h; exact ⟨_, _, rfl, rfl, by decide, by decide, Tryz.underlying3, rfl, fun us h => by cases h⟩
      | succ j =>
       cases h⟩, (fun us hus fs hfs j τ h f hf => by
    cases hus
    rw [Tryz.underlying140] at hfs
    cases hfs
    cases j with
    | zero => cases h; cases hf; exact ⟨fun k e => by cases e; exact Tryz.underlying3, fun e => (by cases e), fun e => (by cases e)⟩
    | succ j =>
     cases j with
     | zero => cases h; cases hf; exact ⟨fun k e => by cases e; exact Tryz.underlying3, fun e => (by cases e), fun e => (by cases e)⟩
     | succ j =>
      cases j with
      | zero => cases h; cases hf; exact ⟨fun k e => by cases e; exact Tryz.underlying3, fun e => (by cases e), fun e => (by cases e)⟩
      | succ j =>
       cases h), Tryz.t140, rfl, rfl, fun _ _ => rfl⟩
theorem tn149 : TnOk Tryz.prog 149 (.fn [.st [.str, .int .i64, .sl 254 (.st [.int .i64, .sl 3 (.int .i64), .sl 3 (.int .i64)])], .int .i64] (.int .i64)) := ⟨⟨_, _, _, Tryz.underlying149⟩, fun _ h => (by cases h), Tryz.t149, rfl, rfl, fun _ h => by cases h⟩
theorem tn150 : TnOk Tryz.prog 150 (.sl 254 (.st [.int .i64, .sl 3 (.int .i64), .sl 3 (.int .i64)])) := ⟨⟨Tryz.underlying150, Tryz.t254, _, rfl, rfl, rfl, rfl, by decide, by decide, fun _ _ => rfl, fun k h => by cases h⟩, fun _ h => (by cases h), Tryz.t150, rfl, rfl, fun _ _ => rfl⟩
theorem tn151 : TnOk Tryz.prog 151 (.st [.str, .int .i64, .sl 254 (.st [.int .i64, .sl 3 (.int .i64), .sl 3 (.int .i64)])]) := ⟨⟨_, Tryz.underlying151, Tryz.eqGuardType151, Tryz.stoodInHeld151, rfl, fun j τ h => by
    cases j with
    | zero => cases h; exact ⟨_, _, rfl, rfl, by decide, by decide, Tryz.underlying9, rfl, fun us h => by cases h⟩
    | succ j =>
     cases j with
     | zero => cases h; exact ⟨_, _, rfl, rfl, by decide, by decide, Tryz.underlying3, rfl, fun us h => by cases h⟩
     | succ j =>
      cases j with
      | zero => cases h; exact ⟨_, _, rfl, rfl, by decide, by decide, Tryz.underlying150, rfl, fun us h => by cases h⟩
      | succ j =>
       cases h⟩, (fun us hus fs hfs j τ h f hf => by
    cases hus
    rw [Tryz.underlying151] at hfs
    cases hfs
    cases j with
    | zero => cases h; cases hf; exact ⟨fun k e => (by cases e), fun e => (by cases e), fun _ => Tryz.underlying9⟩
    | succ j =>
     cases j with
     | zero => cases h; cases hf; exact ⟨fun k e => by cases e; exact Tryz.underlying3, fun e => (by cases e), fun e => (by cases e)⟩
     | succ j =>
      cases j with
      | zero => cases h; cases hf; exact ⟨fun k e => (by cases e), fun e => (by cases e), fun e => (by cases e)⟩
      | succ j =>
       cases h), Tryz.t151, rfl, rfl, fun _ _ => rfl⟩
theorem tn152 : TnOk Tryz.prog 152 (.st [.str, .int .i64, .sl 254 (.st [.int .i64, .sl 3 (.int .i64), .sl 3 (.int .i64)])]) := ⟨⟨_, Tryz.underlying152, Tryz.eqGuardType152, Tryz.stoodInHeld152, rfl, fun j τ h => by
    cases j with
    | zero => cases h; exact ⟨_, _, rfl, rfl, by decide, by decide, Tryz.underlying9, rfl, fun us h => by cases h⟩
    | succ j =>
     cases j with
     | zero => cases h; exact ⟨_, _, rfl, rfl, by decide, by decide, Tryz.underlying3, rfl, fun us h => by cases h⟩
     | succ j =>
      cases j with
      | zero => cases h; exact ⟨_, _, rfl, rfl, by decide, by decide, Tryz.underlying150, rfl, fun us h => by cases h⟩
      | succ j =>
       cases h⟩, (fun us hus fs hfs j τ h f hf => by
    cases hus
    rw [Tryz.underlying152] at hfs
    cases hfs
    cases j with
    | zero => cases h; cases hf; exact ⟨fun k e => (by cases e), fun e => (by cases e), fun _ => Tryz.underlying9⟩
    | succ j =>
     cases j with
     | zero => cases h; cases hf; exact ⟨fun k e => by cases e; exact Tryz.underlying3, fun e => (by cases e), fun e => (by cases e)⟩
     | succ j =>
      cases j with
      | zero => cases h; cases hf; exact ⟨fun k e => (by cases e), fun e => (by cases e), fun e => (by cases e)⟩
      | succ j =>
       cases h), Tryz.t152, rfl, rfl, fun _ _ => rfl⟩
theorem tn153 : TnOk Tryz.prog 153 (.fn [.st [.sl 257 (.st [.int .i64, .int .i64]), .sl 25 (.sl 3 (.int .i64))], .int .i64] (.int .i64)) := ⟨⟨_, _, _, Tryz.underlying153⟩, fun _ h => (by cases h), Tryz.t153, rfl, rfl, fun _ h => by cases h⟩
theorem tn154 : TnOk Tryz.prog 154 (.sl 257 (.st [.int .i64, .int .i64])) := ⟨⟨Tryz.underlying154, Tryz.t257, _, rfl, rfl, rfl, rfl, by decide, by decide, fun _ _ => rfl, fun k h => by cases h⟩, fun _ h => (by cases h), Tryz.t154, rfl, rfl, fun _ _ => rfl⟩
theorem tn155 : TnOk Tryz.prog 155 (.st [.sl 257 (.st [.int .i64, .int .i64]), .sl 25 (.sl 3 (.int .i64))]) := ⟨⟨_, Tryz.underlying155, Tryz.eqGuardType155, Tryz.stoodInHeld155, rfl, fun j τ h => by
    cases j with
    | zero => cases h; exact ⟨_, _, rfl, rfl, by decide, by decide, Tryz.underlying154, rfl, fun us h => by cases h⟩
    | succ j =>
     cases j with
     | zero => cases h; exact ⟨_, _, rfl, rfl, by decide, by decide, Tryz.underlying80, rfl, fun us h => by cases h⟩
     | succ j =>
      cases h⟩, (fun us hus fs hfs j τ h f hf => by
    cases hus
    rw [Tryz.underlying155] at hfs
    cases hfs
    cases j with
    | zero => cases h; cases hf; exact ⟨fun k e => (by cases e), fun e => (by cases e), fun e => (by cases e)⟩
    | succ j =>
     cases j with
     | zero => cases h; cases hf; exact ⟨fun k e => (by cases e), fun e => (by cases e), fun e => (by cases e)⟩
     | succ j =>
      cases h), Tryz.t155, rfl, rfl, fun _ _ => rfl⟩
theorem tn156 : TnOk Tryz.prog 156 (.st [.sl 257 (.st [.int .i64, .int .i64]), .sl 25 (.sl 3 (.int .i64))]) := ⟨⟨_, Tryz.underlying156, Tryz.eqGuardType156, Tryz.stoodInHeld156, rfl, fun j τ h => by
    cases j with
    | zero => cases h; exact ⟨_, _, rfl, rfl, by decide, by decide, Tryz.underlying154, rfl, fun us h => by cases h⟩
    | succ j =>
     cases j with
     | zero => cases h; exact ⟨_, _, rfl, rfl, by decide, by decide, Tryz.underlying80, rfl, fun us h => by cases h⟩
     | succ j =>
      cases h⟩, (fun us hus fs hfs j τ h f hf => by
    cases hus
    rw [Tryz.underlying156] at hfs
    cases hfs
    cases j with
    | zero => cases h; cases hf; exact ⟨fun k e => (by cases e), fun e => (by cases e), fun e => (by cases e)⟩
    | succ j =>
     cases j with
     | zero => cases h; cases hf; exact ⟨fun k e => (by cases e), fun e => (by cases e), fun e => (by cases e)⟩
     | succ j =>
      cases h), Tryz.t156, rfl, rfl, fun _ _ => rfl⟩
theorem tn157 : TnOk Tryz.prog 157 (.st [.int .i64, .sl 3 (.int .i64), .sl 3 (.int .i64)]) := ⟨⟨_, Tryz.underlying157, Tryz.eqGuardType157, Tryz.stoodInHeld157, rfl, fun j τ h => by
    cases j with
    | zero => cases h; exact ⟨_, _, rfl, rfl, by decide, by decide, Tryz.underlying3, rfl, fun us h => by cases h⟩
    | succ j =>
     cases j with
     | zero => cases h; exact ⟨_, _, rfl, rfl, by decide, by decide, Tryz.underlying25, rfl, fun us h => by cases h⟩
     | succ j =>
      cases j with
      | zero => cases h; exact ⟨_, _, rfl, rfl, by decide, by decide, Tryz.underlying25, rfl, fun us h => by cases h⟩
      | succ j =>
       cases h⟩, (fun us hus fs hfs j τ h f hf => by
    cases hus
    rw [Tryz.underlying157] at hfs
    cases hfs
    cases j with
    | zero => cases h; cases hf; exact ⟨fun k e => by cases e; exact Tryz.underlying3, fun e => (by cases e), fun e => (by cases e)⟩
    | succ j =>
     cases j with
     | zero => cases h; cases hf; exact ⟨fun k e => (by cases e), fun e => (by cases e), fun e => (by cases e)⟩
     | succ j =>
      cases j with
      | zero => cases h; cases hf; exact ⟨fun k e => (by cases e), fun e => (by cases e), fun e => (by cases e)⟩
      | succ j =>
       cases h), Tryz.t157, rfl, rfl, fun _ _ => rfl⟩
theorem tn158 : TnOk Tryz.prog 158 (.st [.int .i64, .sl 3 (.int .i64), .sl 3 (.int .i64)]) := ⟨⟨_, Tryz.underlying158, Tryz.eqGuardType158, Tryz.stoodInHeld158, rfl, fun j τ h => by
    cases j with
    | zero => cases h; exact ⟨_, _, rfl, rfl, by decide, by decide, Tryz.underlying3, rfl, fun us h => by cases h⟩
    | succ j =>
     cases j with
     | zero => cases h; exact ⟨_, _, rfl, rfl, by decide, by decide, Tryz.underlying25, rfl, fun us h => by cases h⟩
     | succ j =>
      cases j with
      | zero => cases h; exact ⟨_, _, rfl, rfl, by decide, by decide, Tryz.underlying25, rfl, fun us h => by cases h⟩
      | succ j =>
       cases h⟩, (fun us hus fs hfs j τ h f hf => by
    cases hus
    rw [Tryz.underlying158] at hfs
    cases hfs
    cases j with
    | zero => cases h; cases hf; exact ⟨fun k e => by cases e; exact Tryz.underlying3, fun e => (by cases e), fun e => (by cases e)⟩
    | succ j =>
     cases j with
     | zero => cases h; cases hf; exact ⟨fun k e => (by cases e), fun e => (by cases e), fun e => (by cases e)⟩
     | succ j =>
      cases j with
      | zero => cases h; cases hf; exact ⟨fun k e => (by cases e), fun e => (by cases e), fun e => (by cases e)⟩
      | succ j =>
       cases h), Tryz.t158, rfl, rfl, fun _ _ => rfl⟩
theorem tn160 : TnOk Tryz.prog 160 (.fn [.sl 169 (.st [.int .i64, .int .i64])] (.bool)) := ⟨⟨_, _, _, Tryz.underlying160⟩, fun _ h => (by cases h), Tryz.t160, rfl, rfl, fun _ h => by cases h⟩
theorem tn161 : TnOk Tryz.prog 161 (.fn [.st [.str, .int .i64, .sl 254 (.st [.int .i64, .sl 3 (.int .i64), .sl 3 (.int .i64)])]] (.st [.str, .int .i64, .sl 158 (.st [.int .i64, .sl 3 (.int .i64), .sl 3 (.int .i64)])])) := ⟨⟨_, _, _, Tryz.underlying161⟩, fun _ h => (by cases h), Tryz.t161, rfl, rfl, fun _ h => by cases h⟩
theorem tn162 : TnOk Tryz.prog 162 (.st [.int .i64, .int .i64, .bool, .int .i64]) := ⟨⟨_, Tryz.underlying162, Tryz.eqGuardType162, Tryz.stoodInHeld162, rfl, fun j τ h => by
    cases j with
    | zero => cases h; exact ⟨_, _, rfl, rfl, by decide, by decide, Tryz.underlying3, rfl, fun us h => by cases h⟩
    | succ j =>
     cases j with
     | zero => cases h; exact ⟨_, _, rfl, rfl, by decide, by decide, Tryz.underlying3, rfl, fun us h => by cases h⟩
     | succ j =>
      cases j with
      | zero => cases h; exact ⟨_, _, rfl, rfl, by decide, by decide, Tryz.underlying4, rfl, fun us h => by cases h⟩
      | succ j =>
       cases j with
       | zero => cases h; exact ⟨_, _, rfl, rfl, by decide, by decide, Tryz.underlying3, rfl, fun us h => by cases h⟩
       | succ j =>
        cases h⟩, (fun us hus fs hfs j τ h f hf => by
    cases hus
    rw [Tryz.underlying162] at hfs
    cases hfs
    cases j with
    | zero => cases h; cases hf; exact ⟨fun k e => by cases e; exact Tryz.underlying3, fun e => (by cases e), fun e => (by cases e)⟩
    | succ j =>
     cases j with
     | zero => cases h; cases hf; exact ⟨fun k e => by cases e; exact Tryz.underlying3, fun e => (by cases e), fun e => (by cases e)⟩
     | succ j =>
      cases j with
      | zero => cases h; cases hf; exact ⟨fun k e => (by cases e), fun _ => Tryz.underlying4, fun e => (by cases e)⟩
      | succ j =>
       cases j with
       | zero => cases h; cases hf; exact ⟨fun k e => by cases e; exact Tryz.underlying3, fun e => (by cases e), fun e => (by cases e)⟩
       | succ j =>
        cases h), Tryz.t162, rfl, rfl, fun _ _ => rfl⟩
theorem tn163 : TnOk Tryz.prog 163 (.st [.int .i64, .int .i64, .bool, .int .i64]) := ⟨⟨_, Tryz.underlying163, Tryz.eqGuardType163, Tryz.stoodInHeld163, rfl, fun j τ h => by
    cases j with
    | zero => cases h; exact ⟨_, _, rfl, rfl, by decide, by decide, Tryz.underlying3, rfl, fun us h => by cases h⟩
    | succ j =>
     cases j with
     | zero => cases h; exact ⟨_, _, rfl, rfl, by decide, by decide, Tryz.underlying3, rfl, fun us h => by cases h⟩
     | succ j =>
      cases j with
      | zero => cases h; exact ⟨_, _, rfl, rfl, by decide, by decide, Tryz.underlying4, rfl, fun us h => by cases h⟩
      | succ j =>
       cases j with
       | zero => cases h; exact ⟨_, _, rfl, rfl, by decide, by decide, Tryz.underlying3, rfl, fun us h => by cases h⟩
       | succ j =>
        cases h⟩, (fun us hus fs hfs j τ h f hf => by
    cases hus
    rw [Tryz.underlying163] at hfs
    cases hfs
    cases j with
    | zero => cases h; cases hf; exact ⟨fun k e => by cases e; exact Tryz.underlying3, fun e => (by cases e), fun e => (by cases e)⟩
    | succ j =>
     cases j with
     | zero => cases h; cases hf; exact ⟨fun k e => by cases e; exact Tryz.underlying3, fun e => (by cases e), fun e => (by cases e)⟩
     | succ j =>
      cases j with
      | zero => cases h; cases hf; exact ⟨fun k e => (by cases e), fun _ => Tryz.underlying4, fun e => (by cases e)⟩
      | succ j =>
       cases j with
       | zero => cases h; cases hf; exact ⟨fun k e => by cases e; exact Tryz.underlying3, fun e => (by cases e), fun e => (by cases e)⟩
       | succ j =>
        cases h), Tryz.t163, rfl, rfl, fun _ _ => rfl⟩
theorem tn164 : TnOk Tryz.prog 164 (.fn [.st [.int .i64, .int .i64, .bool, .int .i64]] (.st [.int .i64, .int .i64, .bool, .int .i64])) := ⟨⟨_, _, _, Tryz.underlying164⟩, fun _ h => (by cases h), Tryz.t164, rfl, rfl, fun _ h => by cases h⟩
theorem tn165 : TnOk Tryz.prog 165 (.st [.int .i64, .int .i64, .bool, .int .i64]) := ⟨⟨_, Tryz.underlying165, Tryz.eqGuardType165, Tryz.stoodInHeld165, rfl, fun j τ h => by
    cases j with
    | zero => cases h; exact ⟨_, _, rfl, rfl, by decide, by decide, Tryz.underlying3, rfl, fun us h => by cases h⟩
    | succ j =>
     cases j with
     | zero => cases h; exact ⟨_, _, rfl, rfl, by decide, by decide, Tryz.underlying3, rfl, fun us h => by cases h⟩
     | succ j =>
      cases j with
      | zero => cases h; exact ⟨_, _, rfl, rfl, by decide, by decide, Tryz.underlying4, rfl, fun us h => by cases h⟩
      | succ j =>
       cases j with
       | zero => cases h; exact ⟨_, _, rfl, rfl, by decide, by decide, Tryz.underlying3, rfl, fun us h => by cases h⟩
       | succ j =>
        cases h⟩, (fun us hus fs hfs j τ h f hf => by
    cases hus
    rw [Tryz.underlying165] at hfs
    cases hfs
    cases j with
    | zero => cases h; cases hf; exact ⟨fun k e => by cases e; exact Tryz.underlying3, fun e => (by cases e), fun e => (by cases e)⟩
    | succ j =>
     cases j with
     | zero => cases h; cases hf; exact ⟨fun k e => by cases e; exact Tryz.underlying3, fun e => (by cases e), fun e => (by cases e)⟩
     | succ j =>
      cases j with
      | zero => cases h; cases hf; exact ⟨fun k e => (by cases e), fun _ => Tryz.underlying4, fun e => (by cases e)⟩
      | succ j =>
       cases j with
       | zero => cases h; cases hf; exact ⟨fun k e => by cases e; exact Tryz.underlying3, fun e => (by cases e), fun e => (by cases e)⟩
       | succ j =>
        cases h), Tryz.t165, rfl, rfl, fun _ _ => rfl⟩
theorem tn166 : TnOk Tryz.prog 166 (.fn [.st [.sl 257 (.st [.int .i64, .int .i64]), .sl 25 (.sl 3 (.int .i64))]] (.st [.sl 169 (.st [.int .i64, .int .i64]), .sl 25 (.sl 3 (.int .i64))])) := ⟨⟨_, _, _, Tryz.underlying166⟩, fun _ h => (by cases h), Tryz.t166, rfl, rfl, fun _ h => by cases h⟩
theorem tn168 : TnOk Tryz.prog 168 (.st [.int .i64, .int .i64]) := ⟨⟨_, Tryz.underlying168, Tryz.eqGuardType168, Tryz.stoodInHeld168, rfl, fun j τ h => by
    cases j with
    | zero => cases h; exact ⟨_, _, rfl, rfl, by decide, by decide, Tryz.underlying3, rfl, fun us h => by cases h⟩
    | succ j =>
     cases j with
     | zero => cases h; exact ⟨_, _, rfl, rfl, by decide, by decide, Tryz.underlying3, rfl, fun us h => by cases h⟩
     | succ j =>
      cases h⟩, (fun us hus fs hfs j τ h f hf => by
    cases hus
    rw [Tryz.underlying168] at hfs
    cases hfs
    cases j with
    | zero => cases h; cases hf; exact ⟨fun k e => by cases e; exact Tryz.underlying3, fun e => (by cases e), fun e => (by cases e)⟩
    | succ j =>
     cases j with
     | zero => cases h; cases hf; exact ⟨fun k e => by cases e; exact Tryz.underlying3, fun e => (by cases e), fun e => (by cases e)⟩
     | succ j =>
      cases h), Tryz.t168, rfl, rfl, fun _ _ => rfl⟩
theorem tn169 : TnOk Tryz.prog 169 (.st [.int .i64, .int .i64]) := ⟨⟨_, Tryz.underlying169, Tryz.eqGuardType169, Tryz.stoodInHeld169, rfl, fun j τ h => by
    cases j with
    | zero => cases h; exact ⟨_, _, rfl, rfl, by decide, by decide, Tryz.underlying3, rfl, fun us h => by cases h⟩
    | succ j =>
     cases j with
     | zero => cases h; exact ⟨_, _, rfl, rfl, by decide, by decide, Tryz.underlying3, rfl, fun us h => by cases h⟩
     | succ j =>
      cases h⟩, (fun us hus fs hfs j τ h f hf => by
    cases hus
    rw [Tryz.underlying169] at hfs
    cases hfs
    cases j with
    | zero => cases h; cases hf; exact ⟨fun k e => by cases e; exact Tryz.underlying3, fun e => (by cases e), fun e => (by cases e)⟩
    | succ j =>
     cases j with
     | zero => cases h; cases hf; exact ⟨fun k e => by cases e; exact Tryz.underlying3, fun e => (by cases e), fun e => (by cases e)⟩
     | succ j =>
      cases h), Tryz.t169, rfl, rfl, fun _ _ => rfl⟩
theorem tn170 : TnOk Tryz.prog 170 (.fn [.st [.str, .int .i64, .sl 158 (.st [.int .i64, .sl 3 (.int .i64), .sl 3 (.int .i64)])], .st [.str, .int .i64, .sl 158 (.st [.int .i64, .sl 3 (.int .i64), .sl 3 (.int .i64)])]] (.bool)) := ⟨⟨_, _, _, Tryz.underlying170⟩, fun _ h => (by cases h), Tryz.t170, rfl, rfl, fun _ h => by cases h⟩
theorem tn171 : TnOk Tryz.prog 171 (.fn [.st [.int .i64, .int .i64, .bool, .int .i64], .st [.int .i64, .int .i64, .bool, .int .i64]] (.bool)) := ⟨⟨_, _, _, Tryz.underlying171⟩, fun _ h => (by cases h), Tryz.t171, rfl, rfl, fun _ h => by cases h⟩
theorem tn172 : TnOk Tryz.prog 172 (.fn [.st [.sl 169 (.st [.int .i64, .int .i64]), .sl 25 (.sl 3 (.int .i64))], .st [.sl 169 (.st [.int .i64, .int .i64]), .sl 25 (.sl 3 (.int .i64))]] (.bool)) := ⟨⟨_, _, _, Tryz.underlying172⟩, fun _ h => (by cases h), Tryz.t172, rfl, rfl, fun _ h => by cases h⟩
theorem tn175 : TnOk Tryz.prog 175 (.fn [.sl 25 (.sl 3 (.int .i64)), .int .i64] (.int .i64)) := ⟨⟨_, _, _, Tryz.underlying175⟩, fun _ h => (by cases h), Tryz.t175, rfl, rfl, fun _ h => by cases h⟩
theorem tn176 : TnOk Tryz.prog 176 (.fn [.st [.int .i64, .st [.int .i64, .int .i64, .int .i64, .int .i64], .sl 262 (.st [.int .i64, .int .i64, .int .i64])], .int .i64] (.int .i64)) := ⟨⟨_, _, _, Tryz.underlying176⟩, fun _ h => (by cases h), Tryz.t176, rfl, rfl, fun _ h => by cases h⟩
theorem tn177 : TnOk Tryz.prog 177 (.st [.int .i64, .int .i64, .int .i64, .int .i64]) := ⟨⟨_, Tryz.underlying177, Tryz.eqGuardType177, Tryz.stoodInHeld177, rfl, fun j τ h => by
    cases j with
    | zero => cases h; exact ⟨_, _, rfl, rfl, by decide, by decide, Tryz.underlying3, rfl, fun us h => by cases h⟩
    | succ j =>
     cases j with
     | zero => cases h; exact ⟨_, _, rfl, rfl, by decide, by decide, Tryz.underlying3, rfl, fun us h => by cases h⟩
     | succ j =>
      cases j with
      | zero => cases h; exact ⟨_, _, rfl, rfl, by decide, by decide, Tryz.underlying3, rfl, fun us h => by cases h⟩
      | succ j =>
       cases j with
       | zero => cases h; exact ⟨_, _, rfl, rfl, by decide, by decide, Tryz.underlying3, rfl, fun us h => by cases h⟩
       | succ j =>
        cases h⟩, (fun us hus fs hfs j τ h f hf => by
    cases hus
    rw [Tryz.underlying177] at hfs
    cases hfs
    cases j with
    | zero => cases h; cases hf; exact ⟨fun k e => by cases e; exact Tryz.underlying3, fun e => (by cases e), fun e => (by cases e)⟩
    | succ j =>
     cases j with
     | zero => cases h; cases hf; exact ⟨fun k e => by cases e; exact Tryz.underlying3, fun e => (by cases e), fun e => (by cases e)⟩
     | succ j =>
      cases j with
      | zero => cases h; cases hf; exact ⟨fun k e => by cases e; exact Tryz.underlying3, fun e => (by cases e), fun e => (by cases e)⟩
      | succ j =>
       cases j with
       | zero => cases h; cases hf; exact ⟨fun k e => by cases e; exact Tryz.underlying3, fun e => (by cases e), fun e => (by cases e)⟩
       | succ j =>
        cases h), Tryz.t177, rfl, rfl, fun _ _ => rfl⟩
theorem tn178 : TnOk Tryz.prog 178 (.sl 262 (.st [.int .i64, .int .i64, .int .i64])) := ⟨⟨Tryz.underlying178, Tryz.t262, _, rfl, rfl, rfl, rfl, by decide, by decide, fun _ _ => rfl, fun k h => by cases h⟩, fun _ h => (by cases h), Tryz.t178, rfl, rfl, fun _ _ => rfl⟩
theorem tn179 : TnOk Tryz.prog 179 (.st [.int .i64, .st [.int .i64, .int .i64, .int .i64, .int .i64], .sl 262 (.st [.int .i64, .int .i64, .int .i64])]) := ⟨⟨_, Tryz.underlying179, Tryz.eqGuardType179, Tryz.stoodInHeld179, rfl, fun j τ h => by
    cases j with
    | zero => cases h; exact ⟨_, _, rfl, rfl, by decide, by decide, Tryz.underlying3, rfl, fun us h => by cases h⟩
    | succ j =>
     cases j with
     | zero => cases h; exact ⟨_, _, rfl, rfl, by decide, by decide, Tryz.underlying177, rfl, ⟨_, rfl⟩⟩
     | succ j =>
      cases j with
      | zero => cases h; exact ⟨_, _, rfl, rfl, by decide, by decide, Tryz.underlying178, rfl, fun us h => by cases h⟩
      | succ j =>
       cases h⟩, (fun us hus fs hfs j τ h f hf => by
    cases hus
    rw [Tryz.underlying179] at hfs
    cases hfs
    cases j with
    | zero => cases h; cases hf; exact ⟨fun k e => by cases e; exact Tryz.underlying3, fun e => (by cases e), fun e => (by cases e)⟩
    | succ j =>
     cases j with
     | zero => cases h; cases hf; exact ⟨fun k e => (by cases e), fun e => (by cases e), fun e => (by cases e)⟩
     | succ j =>
      cases j with
      | zero => cases h; cases hf; exact ⟨fun k e => (by cases e), fun e => (by cases e), fun e => (by cases e)⟩
      | succ j =>
       cases h), Tryz.t179, rfl, rfl, fun _ _ => rfl⟩
theorem tn180 : TnOk Tryz.prog 180 (.st [.int .i64, .st [.int .i64, .int .i64, .int .i64, .int .i64], .sl 262 (.st [.int .i64, .int .i64, .int .i64])]) := ⟨⟨_, Tryz.underlying180, Tryz.eqGuardType180, Tryz.stoodInHeld180, rfl, fun j τ h => by
    cases j with
    | zero => cases h; exact ⟨_, _, rfl, rfl, by decide, by decide, Tryz.underlying3, rfl, fun us h => by cases h⟩
    | succ j =>
     cases j with
     | zero => cases h; exact ⟨_, _, rfl, rfl, by decide, by decide, Tryz.underlying177, rfl, ⟨_, rfl⟩⟩
     | succ j =>
      cases j with
      | zero => cases h; exact ⟨_, _, rfl, rfl, by decide, by decide, Tryz.underlying178, rfl, fun us h => by cases h⟩
      | succ j =>
       cases h⟩, (fun us hus fs hfs j τ h f hf => by
    cases hus
    rw [Tryz.underlying180] at hfs
    cases hfs
    cases j with
    | zero => cases h; cases hf; exact ⟨fun k e => by cases e; exact Tryz.underlying3, fun e => (by cases e), fun e => (by cases e)⟩
    | succ j =>
     cases j with
     | zero => cases h; cases hf; exact ⟨fun k e => (by cases e), fun e => (by cases e), fun e => (by cases e)⟩
     | succ j =>
      cases j with
      | zero => cases h; cases hf; exact ⟨fun k e => (by cases e), fun e => (by cases e), fun e => (by cases e)⟩
      | succ j =>
       cases h), Tryz.t180, rfl, rfl, fun _ _ => rfl⟩
theorem tn181 : TnOk Tryz.prog 181 (.fn [.st [.str, .int .i64, .sl 158 (.st [.int .i64, .sl 3 (.int .i64), .sl 3 (.int .i64)])], .int .i64, .int .i64] (.bool)) := ⟨⟨_, _, _, Tryz.underlying181⟩, fun _ h => (by cases h), Tryz.t181, rfl, rfl, fun _ h => by cases h⟩
theorem tn182 : TnOk Tryz.prog 182 (.fn [.st [.sl 169 (.st [.int .i64, .int .i64]), .sl 25 (.sl 3 (.int .i64))]] (.bool)) := ⟨⟨_, _, _, Tryz.underlying182⟩, fun _ h => (by cases h), Tryz.t182, rfl, rfl, fun _ h => by cases h⟩
theorem tn184 : TnOk Tryz.prog 184 (.sl 140 (.st [.int .i64, .int .i64, .int .i64])) := ⟨⟨Tryz.underlying184, Tryz.t140, _, rfl, rfl, rfl, rfl, by decide, by decide, fun _ _ => rfl, fun k h => by cases h⟩, fun _ h => (by cases h), Tryz.t184, rfl, rfl, fun _ _ => rfl⟩
theorem tn185 : TnOk Tryz.prog 185 (.st [.int .i64, .st [.int .i64, .int .i64, .int .i64, .int .i64], .sl 140 (.st [.int .i64, .int .i64, .int .i64])]) := ⟨⟨_, Tryz.underlying185, Tryz.eqGuardType185, Tryz.stoodInHeld185, rfl, fun j τ h => by
    cases j with
    | zero => cases h; exact ⟨_, _, rfl, rfl, by decide, by decide, Tryz.underlying3, rfl, fun us h => by cases h⟩
    | succ j =>
     cases j with
     | zero => cases h; exact ⟨_, _, rfl, rfl, by decide, by decide, Tryz.underlying87, rfl, ⟨_, rfl⟩⟩
     | succ j =>
      cases j with
      | zero => cases h; exact ⟨_, _, rfl, rfl, by decide, by decide, Tryz.underlying184, rfl, fun us h => by cases h⟩
      | succ j =>
       cases h⟩, (fun us hus fs hfs j τ h f hf => by
    cases hus
    rw [Tryz.underlying185] at hfs
    cases hfs
    cases j with
    | zero => cases h; cases hf; exact ⟨fun k e => by cases e; exact Tryz.underlying3, fun e => (by cases e), fun e => (by cases e)⟩
    | succ j =>
     cases j with
     | zero => cases h; cases hf; exact ⟨fun k e => (by cases e), fun e => (by cases e), fun e => (by cases e)⟩
     | succ j =>
      cases j with
      | zero => cases h; cases hf; exact ⟨fun k e => (by cases e), fun e => (by cases e), fun e => (by cases e)⟩
      | succ j =>
       cases h), Tryz.t185, rfl, rfl, fun _ _ => rfl⟩
theorem tn186 : TnOk Tryz.prog 186 (.st [.int .i64, .st [.int .i64, .int .i64, .int .i64, .int .i64], .sl 140 (.st [.int .i64, .int .i64, .int .i64])]) := ⟨⟨_, Tryz.underlying186, Tryz.eqGuardType186, Tryz.stoodInHeld186, rfl, fun j τ h => by
    cases j with
    | zero => cases h; exact ⟨_, _, rfl, rfl, by decide, by decide, Tryz.underlying3, rfl, fun us h => by cases h⟩
    | succ j =>
     cases j with
     | zero => cases h; exact ⟨_, _, rfl, rfl, by decide, by decide, Tryz.underlying87, rfl, ⟨_, rfl⟩⟩
     | succ j =>
      cases j with
      | zero => cases h; exact ⟨_, _, rfl, rfl, by decide, by decide, Tryz.underlying184, rfl, fun us h => by cases h⟩
      | succ j =>
       cases h⟩, (fun us hus fs hfs j τ h f hf => by
    cases hus
    rw [Tryz.underlying186] at hfs
    cases hfs
    cases j with
    | zero => cases h; cases hf; exact ⟨fun k e => by cases e; exact Tryz.underlying3, fun e => (by cases e), fun e => (by cases e)⟩
    | succ j =>
     cases j with
     | zero => cases h; cases hf; exact ⟨fun k e => (by cases e), fun e => (by cases e), fun e => (by cases e)⟩
     | succ j =>
      cases j with
      | zero => cases h; cases hf; exact ⟨fun k e => (by cases e), fun e => (by cases e), fun e => (by cases e)⟩
      | succ j =>
       cases h), Tryz.t186, rfl, rfl, fun _ _ => rfl⟩
theorem tn187 : TnOk Tryz.prog 187 (.fn [.st [.int .i64, .st [.int .i64, .int .i64, .int .i64, .int .i64], .sl 262 (.st [.int .i64, .int .i64, .int .i64])]] (.st [.int .i64, .st [.int .i64, .int .i64, .int .i64, .int .i64], .sl 140 (.st [.int .i64, .int .i64, .int .i64])])) := ⟨⟨_, _, _, Tryz.underlying187⟩, fun _ h => (by cases h), Tryz.t187, rfl, rfl, fun _ h => by cases h⟩
theorem tn188 : TnOk Tryz.prog 188 (.fn [.sl 163 (.st [.int .i64, .int .i64, .bool, .int .i64]), .fn [.st [.int .i64, .int .i64, .bool, .int .i64]] (.bool)] (.bool)) := ⟨⟨_, _, _, Tryz.underlying188⟩, fun _ h => (by cases h), Tryz.t188, rfl, rfl, fun _ h => by cases h⟩
theorem tn189 : TnOk Tryz.prog 189 (.fn [.st [.int .i64, .int .i64, .bool, .int .i64]] (.bool)) := ⟨⟨_, _, _, Tryz.underlying189⟩, fun _ h => (by cases h), Tryz.t189, rfl, rfl, fun _ h => by cases h⟩
theorem tn191 : TnOk Tryz.prog 191 (.fn [.st [.int .i64, .st [.int .i64, .int .i64, .int .i64, .int .i64], .sl 140 (.st [.int .i64, .int .i64, .int .i64])], .st [.int .i64, .st [.int .i64, .int .i64, .int .i64, .int .i64], .sl 140 (.st [.int .i64, .int .i64, .int .i64])]] (.bool)) := ⟨⟨_, _, _, Tryz.underlying191⟩, fun _ h => (by cases h), Tryz.t191, rfl, rfl, fun _ h => by cases h⟩
theorem tn192 : TnOk Tryz.prog 192 (.fn [] (.st [.int .i64, .sl 92 (.st [.str, .int .i64, .sl 158 (.st [.int .i64, .sl 3 (.int .i64), .sl 3 (.int .i64)])]), .sl 163 (.st [.int .i64, .int .i64, .bool, .int .i64]), .sl 104 (.st [.sl 169 (.st [.int .i64, .int .i64]), .sl 25 (.sl 3 (.int .i64))]), .sl 3 (.int .i64)])) := ⟨⟨_, _, _, Tryz.underlying192⟩, fun _ h => (by cases h), Tryz.t192, rfl, rfl, fun _ h => by cases h⟩
theorem tn193 : TnOk Tryz.prog 193 (.fn [.st [.int .i64, .sl 92 (.st [.str, .int .i64, .sl 158 (.st [.int .i64, .sl 3 (.int .i64), .sl 3 (.int .i64)])]), .sl 163 (.st [.int .i64, .int .i64, .bool, .int .i64]), .sl 104 (.st [.sl 169 (.st [.int .i64, .int .i64]), .sl 25 (.sl 3 (.int .i64))]), .sl 3 (.int .i64)]] (.str)) := ⟨⟨_, _, _, Tryz.underlying193⟩, fun _ h => (by cases h), Tryz.t193, rfl, rfl, fun _ h => by cases h⟩
theorem tn196 : TnOk Tryz.prog 196 (.fn [.sl 92 (.st [.str, .int .i64, .sl 158 (.st [.int .i64, .sl 3 (.int .i64), .sl 3 (.int .i64)])]), .fn [.st [.str, .int .i64, .sl 158 (.st [.int .i64, .sl 3 (.int .i64), .sl 3 (.int .i64)])]] (.bool)] (.int .i64)) := ⟨⟨_, _, _, Tryz.underlying196⟩, fun _ h => (by cases h), Tryz.t196, rfl, rfl, fun _ h => by cases h⟩
theorem tn197 : TnOk Tryz.prog 197 (.fn [.st [.str, .int .i64, .sl 158 (.st [.int .i64, .sl 3 (.int .i64), .sl 3 (.int .i64)])]] (.bool)) := ⟨⟨_, _, _, Tryz.underlying197⟩, fun _ h => (by cases h), Tryz.t197, rfl, rfl, fun _ h => by cases h⟩
theorem tn222 : TnOk Tryz.prog 222 (.fn [.sl 254 (.st [.int .i64, .sl 3 (.int .i64), .sl 3 (.int .i64)]), .int .i64] (.int .i64)) := ⟨⟨_, _, _, Tryz.underlying222⟩, fun _ h => (by cases h), Tryz.t222, rfl, rfl, fun _ h => by cases h⟩
theorem tn223 : TnOk Tryz.prog 223 (.fn [.sl 257 (.st [.int .i64, .int .i64]), .int .i64] (.int .i64)) := ⟨⟨_, _, _, Tryz.underlying223⟩, fun _ h => (by cases h), Tryz.t223, rfl, rfl, fun _ h => by cases h⟩
theorem tn224 : TnOk Tryz.prog 224 (.fn [.sl 254 (.st [.int .i64, .sl 3 (.int .i64), .sl 3 (.int .i64)])] (.sl 158 (.st [.int .i64, .sl 3 (.int .i64), .sl 3 (.int .i64)]))) := ⟨⟨_, _, _, Tryz.underlying224⟩, fun _ h => (by cases h), Tryz.t224, rfl, rfl, fun _ h => by cases h⟩
theorem tn225 : TnOk Tryz.prog 225 (.fn [.sl 257 (.st [.int .i64, .int .i64])] (.sl 169 (.st [.int .i64, .int .i64]))) := ⟨⟨_, _, _, Tryz.underlying225⟩, fun _ h => (by cases h), Tryz.t225, rfl, rfl, fun _ h => by cases h⟩
theorem tn226 : TnOk Tryz.prog 226 (.fn [.sl 25 (.sl 3 (.int .i64))] (.sl 25 (.sl 3 (.int .i64)))) := ⟨⟨_, _, _, Tryz.underlying226⟩, fun _ h => (by cases h), Tryz.t226, rfl, rfl, fun _ h => by cases h⟩
theorem tn227 : TnOk Tryz.prog 227 (.fn [.sl 158 (.st [.int .i64, .sl 3 (.int .i64), .sl 3 (.int .i64)]), .sl 158 (.st [.int .i64, .sl 3 (.int .i64), .sl 3 (.int .i64)])] (.bool)) := ⟨⟨_, _, _, Tryz.underlying227⟩, fun _ h => (by cases h), Tryz.t227, rfl, rfl, fun _ h => by cases h⟩
theorem tn228 : TnOk Tryz.prog 228 (.fn [.sl 169 (.st [.int .i64, .int .i64]), .sl 169 (.st [.int .i64, .int .i64])] (.bool)) := ⟨⟨_, _, _, Tryz.underlying228⟩, fun _ h => (by cases h), Tryz.t228, rfl, rfl, fun _ h => by cases h⟩
theorem tn229 : TnOk Tryz.prog 229 (.fn [.sl 25 (.sl 3 (.int .i64)), .sl 25 (.sl 3 (.int .i64))] (.bool)) := ⟨⟨_, _, _, Tryz.underlying229⟩, fun _ h => (by cases h), Tryz.t229, rfl, rfl, fun _ h => by cases h⟩
theorem tn230 : TnOk Tryz.prog 230 (.fn [.sl 262 (.st [.int .i64, .int .i64, .int .i64]), .int .i64] (.int .i64)) := ⟨⟨_, _, _, Tryz.underlying230⟩, fun _ h => (by cases h), Tryz.t230, rfl, rfl, fun _ h => by cases h⟩
theorem tn231 : TnOk Tryz.prog 231 (.fn [.st [.int .i64, .sl 3 (.int .i64), .sl 3 (.int .i64)], .int .i64, .int .i64] (.bool)) := ⟨⟨_, _, _, Tryz.underlying231⟩, fun _ h => (by cases h), Tryz.t231, rfl, rfl, fun _ h => by cases h⟩
theorem tn232 : TnOk Tryz.prog 232 (.fn [.str] (.bool)) := ⟨⟨_, _, _, Tryz.underlying232⟩, fun _ h => (by cases h), Tryz.t232, rfl, rfl, fun _ h => by cases h⟩
theorem tn233 : TnOk Tryz.prog 233 (.fn [.st [.int .i64, .int .i64, .int .i64, .int .i64]] (.st [.int .i64, .int .i64, .int .i64, .int .i64])) := ⟨⟨_, _, _, Tryz.underlying233⟩, fun _ h => (by cases h), Tryz.t233, rfl, rfl, fun _ h => by cases h⟩
theorem tn234 : TnOk Tryz.prog 234 (.fn [.sl 262 (.st [.int .i64, .int .i64, .int .i64])] (.sl 140 (.st [.int .i64, .int .i64, .int .i64]))) := ⟨⟨_, _, _, Tryz.underlying234⟩, fun _ h => (by cases h), Tryz.t234, rfl, rfl, fun _ h => by cases h⟩
theorem tn235 : TnOk Tryz.prog 235 (.fn [.sl 163 (.st [.int .i64, .int .i64, .bool, .int .i64]), .fn [.st [.int .i64, .int .i64, .bool, .int .i64]] (.bool)] (.int .i64)) := ⟨⟨_, _, _, Tryz.underlying235⟩, fun _ h => (by cases h), Tryz.t235, rfl, rfl, fun _ h => by cases h⟩
theorem tn241 : TnOk Tryz.prog 241 (.fn [.st [.int .i64, .int .i64, .int .i64, .int .i64], .st [.int .i64, .int .i64, .int .i64, .int .i64]] (.bool)) := ⟨⟨_, _, _, Tryz.underlying241⟩, fun _ h => (by cases h), Tryz.t241, rfl, rfl, fun _ h => by cases h⟩
theorem tn242 : TnOk Tryz.prog 242 (.fn [.sl 140 (.st [.int .i64, .int .i64, .int .i64]), .sl 140 (.st [.int .i64, .int .i64, .int .i64])] (.bool)) := ⟨⟨_, _, _, Tryz.underlying242⟩, fun _ h => (by cases h), Tryz.t242, rfl, rfl, fun _ h => by cases h⟩
theorem tn243 : TnOk Tryz.prog 243 (.fn [.st [.str, .int .i64, .sl 158 (.st [.int .i64, .sl 3 (.int .i64), .sl 3 (.int .i64)])]] (.st [.str, .int .i64, .sl 158 (.st [.int .i64, .sl 3 (.int .i64), .sl 3 (.int .i64)])])) := ⟨⟨_, _, _, Tryz.underlying243⟩, fun _ h => (by cases h), Tryz.t243, rfl, rfl, fun _ h => by cases h⟩
theorem tn244 : TnOk Tryz.prog 244 (.fn [.sl 163 (.st [.int .i64, .int .i64, .bool, .int .i64])] (.sl 163 (.st [.int .i64, .int .i64, .bool, .int .i64]))) := ⟨⟨_, _, _, Tryz.underlying244⟩, fun _ h => (by cases h), Tryz.t244, rfl, rfl, fun _ h => by cases h⟩
theorem tn245 : TnOk Tryz.prog 245 (.fn [.sl 169 (.st [.int .i64, .int .i64])] (.sl 169 (.st [.int .i64, .int .i64]))) := ⟨⟨_, _, _, Tryz.underlying245⟩, fun _ h => (by cases h), Tryz.t245, rfl, rfl, fun _ h => by cases h⟩
theorem tn253 : TnOk Tryz.prog 253 (.fn [.st [.int .i64, .sl 3 (.int .i64), .sl 3 (.int .i64)], .int .i64] (.int .i64)) := ⟨⟨_, _, _, Tryz.underlying253⟩, fun _ h => (by cases h), Tryz.t253, rfl, rfl, fun _ h => by cases h⟩
theorem tn254 : TnOk Tryz.prog 254 (.st [.int .i64, .sl 3 (.int .i64), .sl 3 (.int .i64)]) := ⟨⟨_, Tryz.underlying254, Tryz.eqGuardType254, Tryz.stoodInHeld254, rfl, fun j τ h => by
    cases j with
    | zero => cases h; exact ⟨_, _, rfl, rfl, by decide, by decide, Tryz.underlying3, rfl, fun us h => by cases h⟩
    | succ j =>
     cases j with
     | zero => cases h; exact ⟨_, _, rfl, rfl, by decide, by decide, Tryz.underlying25, rfl, fun us h => by cases h⟩
     | succ j =>
      cases j with
      | zero => cases h; exact ⟨_, _, rfl, rfl, by decide, by decide, Tryz.underlying25, rfl, fun us h => by cases h⟩
      | succ j =>
       cases h⟩, (fun us hus fs hfs j τ h f hf => by
    cases hus
    rw [Tryz.underlying254] at hfs
    cases hfs
    cases j with
    | zero => cases h; cases hf; exact ⟨fun k e => by cases e; exact Tryz.underlying3, fun e => (by cases e), fun e => (by cases e)⟩
    | succ j =>
     cases j with
     | zero => cases h; cases hf; exact ⟨fun k e => (by cases e), fun e => (by cases e), fun e => (by cases e)⟩
     | succ j =>
      cases j with
      | zero => cases h; cases hf; exact ⟨fun k e => (by cases e), fun e => (by cases e), fun e => (by cases e)⟩
      | succ j =>
       cases h), Tryz.t254, rfl, rfl, fun _ _ => rfl⟩
theorem tn255 : TnOk Tryz.prog 255 (.fn [.st [.int .i64, .sl 3 (.int .i64), .sl 3 (.int .i64)]] (.st [.int .i64, .sl 3 (.int .i64), .sl 3 (.int .i64)])) := ⟨⟨_, _, _, Tryz.underlying255⟩, fun _ h => (by cases h), Tryz.t255, rfl, rfl, fun _ h => by cases h⟩
theorem tn256 : TnOk Tryz.prog 256 (.fn [.st [.int .i64, .int .i64]] (.st [.int .i64, .int .i64])) := ⟨⟨_, _, _, Tryz.underlying256⟩, fun _ h => (by cases h), Tryz.t256, rfl, rfl, fun _ h => by cases h⟩
theorem tn257 : TnOk Tryz.prog 257 (.st [.int .i64, .int .i64]) := ⟨⟨_, Tryz.underlying257, Tryz.eqGuardType257, Tryz.stoodInHeld257, rfl, fun j τ h => by
    cases j with
    | zero => cases h; exact ⟨_, _, rfl, rfl, by decide, by decide, Tryz.underlying3, rfl, fun us h => by cases h⟩
    | succ j =>
     cases j with
     | zero => cases h; exact ⟨_, _, rfl, rfl, by decide, by decide, Tryz.underlying3, rfl, fun us h => by cases h⟩
     | succ j =>
      cases h⟩, (fun us hus fs hfs j τ h f hf => by
    cases hus
    rw [Tryz.underlying257] at hfs
    cases hfs
    cases j with
    | zero => cases h; cases hf; exact ⟨fun k e => by cases e; exact Tryz.underlying3, fun e => (by cases e), fun e => (by cases e)⟩
    | succ j =>
     cases j with
     | zero => cases h; cases hf; exact ⟨fun k e => by cases e; exact Tryz.underlying3, fun e => (by cases e), fun e => (by cases e)⟩
     | succ j =>
      cases h), Tryz.t257, rfl, rfl, fun _ _ => rfl⟩
theorem tn259 : TnOk Tryz.prog 259 (.fn [.st [.int .i64, .sl 3 (.int .i64), .sl 3 (.int .i64)], .st [.int .i64, .sl 3 (.int .i64), .sl 3 (.int .i64)]] (.bool)) := ⟨⟨_, _, _, Tryz.underlying259⟩, fun _ h => (by cases h), Tryz.t259, rfl, rfl, fun _ h => by cases h⟩
theorem tn260 : TnOk Tryz.prog 260 (.fn [.st [.int .i64, .int .i64], .st [.int .i64, .int .i64]] (.bool)) := ⟨⟨_, _, _, Tryz.underlying260⟩, fun _ h => (by cases h), Tryz.t260, rfl, rfl, fun _ h => by cases h⟩
theorem tn261 : TnOk Tryz.prog 261 (.fn [.st [.int .i64, .int .i64, .int .i64]] (.st [.int .i64, .int .i64, .int .i64])) := ⟨⟨_, _, _, Tryz.underlying261⟩, fun _ h => (by cases h), Tryz.t261, rfl, rfl, fun _ h => by cases h⟩
theorem tn262 : TnOk Tryz.prog 262 (.st [.int .i64, .int .i64, .int .i64]) := ⟨⟨_, Tryz.underlying262, Tryz.eqGuardType262, Tryz.stoodInHeld262, rfl, fun j τ h => by
    cases j with
    | zero => cases h; exact ⟨_, _, rfl, rfl, by decide, by decide, Tryz.underlying3, rfl, fun us h => by cases h⟩
    | succ j =>
     cases j with
     | zero => cases h; exact ⟨_, _, rfl, rfl, by decide, by decide, Tryz.underlying3, rfl, fun us h => by cases h⟩
     | succ j =>
      cases j with
      | zero => cases h; exact ⟨_, _, rfl, rfl, by decide, by decide, Tryz.underlying3, rfl, fun us h => by cases h⟩
      | succ j =>
       cases h⟩, (fun us hus fs hfs j τ h f hf => by
    cases hus
    rw [Tryz.underlying262] at hfs
    cases hfs
    cases j with
    | zero => cases h; cases hf; exact ⟨fun k e => by cases e; exact Tryz.underlying3, fun e => (by cases e), fun e => (by cases e)⟩
    | succ j =>
     cases j with
     | zero => cases h; cases hf; exact ⟨fun k e => by cases e; exact Tryz.underlying3, fun e => (by cases e), fun e => (by cases e)⟩
     | succ j =>
      cases j with
      | zero => cases h; cases hf; exact ⟨fun k e => by cases e; exact Tryz.underlying3, fun e => (by cases e), fun e => (by cases e)⟩
      | succ j =>
       cases h), Tryz.t262, rfl, rfl, fun _ _ => rfl⟩
theorem tn264 : TnOk Tryz.prog 264 (.fn [.st [.int .i64, .int .i64, .int .i64], .st [.int .i64, .int .i64, .int .i64]] (.bool)) := ⟨⟨_, _, _, Tryz.underlying264⟩, fun _ h => (by cases h), Tryz.t264, rfl, rfl, fun _ h => by cases h⟩
def tys : List (Nat × Ty) := [(3, .int .i64), (4, .bool), (5, .int .u8), (9, .str), (22, .sl 152 (.st [.str, .int .i64, .sl 254 (.st [.int .i64, .sl 3 (.int .i64), .sl 3 (.int .i64)])])), (23, .sl 165 (.st [.int .i64, .int .i64, .bool, .int .i64])), (24, .sl 156 (.st [.sl 257 (.st [.int .i64, .int .i64]), .sl 25 (.sl 3 (.int .i64))])), (25, .sl 3 (.int .i64)), (26, .st [.int .i64, .sl 152 (.st [.str, .int .i64, .sl 254 (.st [.int .i64, .sl 3 (.int .i64), .sl 3 (.int .i64)])]), .sl 165 (.st [.int .i64, .int .i64, .bool, .int .i64]), .sl 156 (.st [.sl 257 (.st [.int .i64, .int .i64]), .sl 25 (.sl 3 (.int .i64))]), .sl 3 (.int .i64)]), (27, .st [.int .i64, .sl 152 (.st [.str, .int .i64, .sl 254 (.st [.int .i64, .sl 3 (.int .i64), .sl 3 (.int .i64)])]), .sl 165 (.st [.int .i64, .int .i64, .bool, .int .i64]), .sl 156 (.st [.sl 257 (.st [.int .i64, .int .i64]), .sl 25 (.sl 3 (.int .i64))]), .sl 3 (.int .i64)]), (28, .st [.sl 3 (.int .i64), .sl 3 (.int .i64)]), (29, .st [.sl 3 (.int .i64), .sl 3 (.int .i64)]), (30, .fn [.st [.int .i64, .sl 152 (.st [.str, .int .i64, .sl 254 (.st [.int .i64, .sl 3 (.int .i64), .sl 3 (.int .i64)])]), .sl 165 (.st [.int .i64, .int .i64, .bool, .int .i64]), .sl 156 (.st [.sl 257 (.st [.int .i64, .int .i64]), .sl 25 (.sl 3 (.int .i64))]), .sl 3 (.int .i64)], .int .i64] (.int .i64)), (31, .fn [.st [.sl 3 (.int .i64), .sl 3 (.int .i64)], .int .i64] (.int .i64)), (33, .sl 92 (.st [.str, .int .i64, .sl 158 (.st [.int .i64, .sl 3 (.int .i64), .sl 3 (.int .i64)])])), (34, .sl 163 (.st [.int .i64, .int .i64, .bool, .int .i64])), (35, .sl 104 (.st [.sl 169 (.st [.int .i64, .int .i64]), .sl 25 (.sl 3 (.int .i64))])), (36, .st [.int .i64, .sl 92 (.st [.str, .int .i64, .sl 158 (.st [.int .i64, .sl 3 (.int .i64), .sl 3 (.int .i64)])]), .sl 163 (.st [.int .i64, .int .i64, .bool, .int .i64]), .sl 104 (.st [.sl 169 (.st [.int .i64, .int .i64]), .sl 25 (.sl 3 (.int .i64))]), .sl 3 (.int .i64)]), (37, .st [.int .i64, .sl 92 (.st [.str, .int .i64, .sl 158 (.st [.int .i64, .sl 3 (.int .i64), .sl 3 (.int .i64)])]), .sl 163 (.st [.int .i64, .int .i64, .bool, .int .i64]), .sl 104 (.st [.sl 169 (.st [.int .i64, .int .i64]), .sl 25 (.sl 3 (.int .i64))]), .sl 3 (.int .i64)]), (38, .fn [.st [.int .i64, .sl 152 (.st [.str, .int .i64, .sl 254 (.st [.int .i64, .sl 3 (.int .i64), .sl 3 (.int .i64)])]), .sl 165 (.st [.int .i64, .int .i64, .bool, .int .i64]), .sl 156 (.st [.sl 257 (.st [.int .i64, .int .i64]), .sl 25 (.sl 3 (.int .i64))]), .sl 3 (.int .i64)]] (.st [.int .i64, .sl 92 (.st [.str, .int .i64, .sl 158 (.st [.int .i64, .sl 3 (.int .i64), .sl 3 (.int .i64)])]), .sl 163 (.st [.int .i64, .int .i64, .bool, .int .i64]), .sl 104 (.st [.sl 169 (.st [.int .i64, .int .i64]), .sl 25 (.sl 3 (.int .i64))]), .sl 3 (.int .i64)])), (39, .st [.sl 3 (.int .i64), .sl 3 (.int .i64)]), (40, .fn [.st [.sl 3 (.int .i64), .sl 3 (.int .i64)]] (.st [.sl 3 (.int .i64), .sl 3 (.int .i64)])), (41, .fn [.st [.int .i64, .sl 92 (.st [.str, .int .i64, .sl 158 (.st [.int .i64, .sl 3 (.int .i64), .sl 3 (.int .i64)])]), .sl 163 (.st [.int .i64, .int .i64, .bool, .int .i64]), .sl 104 (.st [.sl 169 (.st [.int .i64, .int .i64]), .sl 25 (.sl 3 (.int .i64))]), .sl 3 (.int .i64)], .st [.int .i64, .sl 92 (.st [.str, .int .i64, .sl 158 (.st [.int .i64, .sl 3 (.int .i64), .sl 3 (.int .i64)])]), .sl 163 (.st [.int .i64, .int .i64, .bool, .int .i64]), .sl 104 (.st [.sl 169 (.st [.int .i64, .int .i64]), .sl 25 (.sl 3 (.int .i64))]), .sl 3 (.int .i64)]] (.bool)), (42, .fn [.st [.sl 3 (.int .i64), .sl 3 (.int .i64)], .st [.sl 3 (.int .i64), .sl 3 (.int .i64)]] (.bool)), (51, .sl 180 (.st [.int .i64, .st [.int .i64, .int .i64, .int .i64, .int .i64], .sl 262 (.st [.int .i64, .int .i64, .int .i64])])), (52, .st [.int .i64, .st [.sl 3 (.int .i64), .sl 3 (.int .i64)], .int .i64, .int .i64, .sl 180 (.st [.int .i64, .st [.int .i64, .int .i64, .int .i64, .int .i64], .sl 262 (.st [.int .i64, .int .i64, .int .i64])]), .int .i64]), (53, .st [.int .i64, .st [.sl 3 (.int .i64), .sl 3 (.int .i64)], .int .i64, .int .i64, .sl 180 (.st [.int .i64, .st [.int .i64, .int .i64, .int .i64, .int .i64], .sl 262 (.st [.int .i64, .int .i64, .int .i64])]), .int .i64]), (54, .fn [.st [.int .i64, .st [.sl 3 (.int .i64), .sl 3 (.int .i64)], .int .i64, .int .i64, .sl 180 (.st [.int .i64, .st [.int .i64, .int .i64, .int .i64, .int .i64], .sl 262 (.st [.int .i64, .int .i64, .int .i64])]), .int .i64], .int .i64] (.int .i64)), (56, .sl 186 (.st [.int .i64, .st [.int .i64, .int .i64, .int .i64, .int .i64], .sl 140 (.st [.int .i64, .int .i64, .int .i64])])), (57, .st [.int .i64, .st [.sl 3 (.int .i64), .sl 3 (.int .i64)], .int .i64, .int .i64, .sl 186 (.st [.int .i64, .st [.int .i64, .int .i64, .int .i64, .int .i64], .sl 140 (.st [.int .i64, .int .i64, .int .i64])]), .int .i64]), (58, .st [.int .i64, .st [.sl 3 (.int .i64), .sl 3 (.int .i64)], .int .i64, .int .i64, .sl 186 (.st [.int .i64, .st [.int .i64, .int .i64, .int .i64, .int .i64], .sl 140 (.st [.int .i64, .int .i64, .int .i64])]), .int .i64]), (59, .fn [.st [.int .i64, .st [.sl 3 (.int .i64), .sl 3 (.int .i64)], .int .i64, .int .i64, .sl 180 (.st [.int .i64, .st [.int .i64, .int .i64, .int .i64, .int .i64], .sl 262 (.st [.int .i64, .int .i64, .int .i64])]), .int .i64]] (.st [.int .i64, .st [.sl 3 (.int .i64), .sl 3 (.int .i64)], .int .i64, .int .i64, .sl 186 (.st [.int .i64, .st [.int .i64, .int .i64, .int .i64, .int .i64], .sl 140 (.st [.int .i64, .int .i64, .int .i64])]), .int .i64])), (60, .fn [.st [.int .i64, .st [.sl 3 (.int .i64), .sl 3 (.int .i64)], .int .i64, .int .i64, .sl 186 (.st [.int .i64, .st [.int .i64, .int .i64, .int .i64, .int .i64], .sl 140 (.st [.int .i64, .int .i64, .int .i64])]), .int .i64], .st [.int .i64, .st [.sl 3 (.int .i64), .sl 3 (.int .i64)], .int .i64, .int .i64, .sl 186 (.st [.int .i64, .st [.int .i64, .int .i64, .int .i64, .int .i64], .sl 140 (.st [.int .i64, .int .i64, .int .i64])]), .int .i64]] (.bool)), (62, .st [.st [.int .i64, .sl 152 (.st [.str, .int .i64, .sl 254 (.st [.int .i64, .sl 3 (.int .i64), .sl 3 (.int .i64)])]), .sl 165 (.st [.int .i64, .int .i64, .bool, .int .i64]), .sl 156 (.st [.sl 257 (.st [.int .i64, .int .i64]), .sl 25 (.sl 3 (.int .i64))]), .sl 3 (.int .i64)], .st [.int .i64, .st [.sl 3 (.int .i64), .sl 3 (.int .i64)], .int .i64, .int .i64, .sl 180 (.st [.int .i64, .st [.int .i64, .int .i64, .int .i64, .int .i64], .sl 262 (.st [.int .i64, .int .i64, .int .i64])]), .int .i64], .int .i64]), (63, .st [.st [.int .i64, .sl 152 (.st [.str, .int .i64, .sl 254 (.st [.int .i64, .sl 3 (.int .i64), .sl 3 (.int .i64)])]), .sl 165 (.st [.int .i64, .int .i64, .bool, .int .i64]), .sl 156 (.st [.sl 257 (.st [.int .i64, .int .i64]), .sl 25 (.sl 3 (.int .i64))]), .sl 3 (.int .i64)], .st [.int .i64, .st [.sl 3 (.int .i64), .sl 3 (.int .i64)], .int .i64, .int .i64, .sl 180 (.st [.int .i64, .st [.int .i64, .int .i64, .int .i64, .int .i64], .sl 262 (.st [.int .i64, .int .i64, .int .i64])]), .int .i64], .int .i64]), (64, .fn [.st [.st [.int .i64, .sl 152 (.st [.str, .int .i64, .sl 254 (.st [.int .i64, .sl 3 (.int .i64), .sl 3 (.int .i64)])]), .sl 165 (.st [.int .i64, .int .i64, .bool, .int .i64]), .sl 156 (.st [.sl 257 (.st [.int .i64, .int .i64]), .sl 25 (.sl 3 (.int .i64))]), .sl 3 (.int .i64)], .st [.int .i64, .st [.sl 3 (.int .i64), .sl 3 (.int .i64)], .int .i64, .int .i64, .sl 180 (.st [.int .i64, .st [.int .i64, .int .i64, .int .i64, .int .i64], .sl 262 (.st [.int .i64, .int .i64, .int .i64])]), .int .i64], .int .i64], .int .i64] (.int .i64)), (65, .fn [.st [.st [.int .i64, .sl 92 (.st [.str, .int .i64, .sl 158 (.st [.int .i64, .sl 3 (.int .i64), .sl 3 (.int .i64)])]), .sl 163 (.st [.int .i64, .int .i64, .bool, .int .i64]), .sl 104 (.st [.sl 169 (.st [.int .i64, .int .i64]), .sl 25 (.sl 3 (.int .i64))]), .sl 3 (.int .i64)], .st [.int .i64, .st [.sl 3 (.int .i64), .sl 3 (.int .i64)], .int .i64, .int .i64, .sl 186 (.st [.int .i64, .st [.int .i64, .int .i64, .int .i64, .int .i64], .sl 140 (.st [.int .i64, .int .i64, .int .i64])]), .int .i64], .int .i64]] (.bool)), (66, .st [.st [.int .i64, .sl 92 (.st [.str, .int .i64, .sl 158 (.st [.int .i64, .sl 3 (.int .i64), .sl 3 (.int .i64)])]), .sl 163 (.st [.int .i64, .int .i64, .bool, .int .i64]), .sl 104 (.st [.sl 169 (.st [.int .i64, .int .i64]), .sl 25 (.sl 3 (.int .i64))]), .sl 3 (.int .i64)], .st [.int .i64, .st [.sl 3 (.int .i64), .sl 3 (.int .i64)], .int .i64, .int .i64, .sl 186 (.st [.int .i64, .st [.int .i64, .int .i64, .int .i64, .int .i64], .sl 140 (.st [.int .i64, .int .i64, .int .i64])]), .int .i64], .int .i64]), (67, .st [.st [.int .i64, .sl 92 (.st [.str, .int .i64, .sl 158 (.st [.int .i64, .sl 3 (.int .i64), .sl 3 (.int .i64)])]), .sl 163 (.st [.int .i64, .int .i64, .bool, .int .i64]), .sl 104 (.st [.sl 169 (.st [.int .i64, .int .i64]), .sl 25 (.sl 3 (.int .i64))]), .sl 3 (.int .i64)], .st [.int .i64, .st [.sl 3 (.int .i64), .sl 3 (.int .i64)], .int .i64, .int .i64, .sl 186 (.st [.int .i64, .st [.int .i64, .int .i64, .int .i64, .int .i64], .sl 140 (.st [.int .i64, .int .i64, .int .i64])]), .int .i64], .int .i64]), (68, .fn [.st [.st [.int .i64, .sl 152 (.st [.str, .int .i64, .sl 254 (.st [.int .i64, .sl 3 (.int .i64), .sl 3 (.int .i64)])]), .sl 165 (.st [.int .i64, .int .i64, .bool, .int .i64]), .sl 156 (.st [.sl 257 (.st [.int .i64, .int .i64]), .sl 25 (.sl 3 (.int .i64))]), .sl 3 (.int .i64)], .st [.int .i64, .st [.sl 3 (.int .i64), .sl 3 (.int .i64)], .int .i64, .int .i64, .sl 180 (.st [.int .i64, .st [.int .i64, .int .i64, .int .i64, .int .i64], .sl 262 (.st [.int .i64, .int .i64, .int .i64])]), .int .i64], .int .i64]] (.st [.st [.int .i64, .sl 92 (.st [.str, .int .i64, .sl 158 (.st [.int .i64, .sl 3 (.int .i64), .sl 3 (.int .i64)])]), .sl 163 (.st [.int .i64, .int .i64, .bool, .int .i64]), .sl 104 (.st [.sl 169 (.st [.int .i64, .int .i64]), .sl 25 (.sl 3 (.int .i64))]), .sl 3 (.int .i64)], .st [.int .i64, .st [.sl 3 (.int .i64), .sl 3 (.int .i64)], .int .i64, .int .i64, .sl 186 (.st [.int .i64, .st [.int .i64, .int .i64, .int .i64, .int .i64], .sl 140 (.st [.int .i64, .int .i64, .int .i64])]), .int .i64], .int .i64])), (69, .fn [.st [.st [.int .i64, .sl 92 (.st [.str, .int .i64, .sl 158 (.st [.int .i64, .sl 3 (.int .i64), .sl 3 (.int .i64)])]), .sl 163 (.st [.int .i64, .int .i64, .bool, .int .i64]), .sl 104 (.st [.sl 169 (.st [.int .i64, .int .i64]), .sl 25 (.sl 3 (.int .i64))]), .sl 3 (.int .i64)], .st [.int .i64, .st [.sl 3 (.int .i64), .sl 3 (.int .i64)], .int .i64, .int .i64, .sl 186 (.st [.int .i64, .st [.int .i64, .int .i64, .int .i64, .int .i64], .sl 140 (.st [.int .i64, .int .i64, .int .i64])]), .int .i64], .int .i64], .st [.st [.int .i64, .sl 92 (.st [.str, .int .i64, .sl 158 (.st [.int .i64, .sl 3 (.int .i64), .sl 3 (.int .i64)])]), .sl 163 (.st [.int .i64, .int .i64, .bool, .int .i64]), .sl 104 (.st [.sl 169 (.st [.int .i64, .int .i64]), .sl 25 (.sl 3 (.int .i64))]), .sl 3 (.int .i64)], .st [.int .i64, .st [.sl 3 (.int .i64), .sl 3 (.int .i64)], .int .i64, .int .i64, .sl 186 (.st [.int .i64, .st [.int .i64, .int .i64, .int .i64, .int .i64], .sl 140 (.st [.int .i64, .int .i64, .int .i64])]), .int .i64], .int .i64]] (.bool)), (70, .fn [.st [.st [.int .i64, .sl 152 (.st [.str, .int .i64, .sl 254 (.st [.int .i64, .sl 3 (.int .i64), .sl 3 (.int .i64)])]), .sl 165 (.st [.int .i64, .int .i64, .bool, .int .i64]), .sl 156 (.st [.sl 257 (.st [.int .i64, .int .i64]), .sl 25 (.sl 3 (.int .i64))]), .sl 3 (.int .i64)], .st [.int .i64, .st [.sl 3 (.int .i64), .sl 3 (.int .i64)], .int .i64, .int .i64, .sl 180 (.st [.int .i64, .st [.int .i64, .int .i64, .int .i64, .int .i64], .sl 262 (.st [.int .i64, .int .i64, .int .i64])]), .int .i64], .int .i64]] (.bool)), (77, .sl 5 (.int .u8)), (80, .sl 25 (.sl 3 (.int .i64))), (86, .st [.int .i64, .int .i64, .int .i64, .int .i64]), (87, .st [.int .i64, .int .i64, .int .i64, .int .i64]), (88, .fn [.sl 3 (.int .i64), .int .i64] (.bool)), (90, .sl 158 (.st [.int .i64, .sl 3 (.int .i64), .sl 3 (.int .i64)])), (91, .st [.str, .int .i64, .sl 158 (.st [.int .i64, .sl 3 (.int .i64), .sl 3 (.int .i64)])]), (92, .st [.str, .int .i64, .sl 158 (.st [.int .i64, .sl 3 (.int .i64), .sl 3 (.int .i64)])]), (94, .fn [.sl 152 (.st [.str, .int .i64, .sl 254 (.st [.int .i64, .sl 3 (.int .i64), .sl 3 (.int .i64)])]), .int .i64] (.int .i64)), (95, .fn [.sl 165 (.st [.int .i64, .int .i64, .bool, .int .i64]), .int .i64] (.int .i64)), (96, .fn [.sl 156 (.st [.sl 257 (.st [.int .i64, .int .i64]), .sl 25 (.sl 3 (.int .i64))]), .int .i64] (.int .i64)), (97, .fn [.sl 3 (.int .i64), .int .i64] (.int .i64)), (99, .fn [.int .i64, .int .i64, .int .i64] (.bool)), (102, .sl 169 (.st [.int .i64, .int .i64])), (103, .st [.sl 169 (.st [.int .i64, .int .i64]), .sl 25 (.sl 3 (.int .i64))]), (104, .st [.sl 169 (.st [.int .i64, .int .i64]), .sl 25 (.sl 3 (.int .i64))]), (105, .fn [.int .i64] (.str)), (106, .fn [.sl 152 (.st [.str, .int .i64, .sl 254 (.st [.int .i64, .sl 3 (.int .i64), .sl 3 (.int .i64)])])] (.sl 92 (.st [.str, .int .i64, .sl 158 (.st [.int .i64, .sl 3 (.int .i64), .sl 3 (.int .i64)])]))), (107, .fn [.sl 165 (.st [.int .i64, .int .i64, .bool, .int .i64])] (.sl 163 (.st [.int .i64, .int .i64, .bool, .int .i64]))), (108, .fn [.sl 156 (.st [.sl 257 (.st [.int .i64, .int .i64]), .sl 25 (.sl 3 (.int .i64))])] (.sl 104 (.st [.sl 169 (.st [.int .i64, .int .i64]), .sl 25 (.sl 3 (.int .i64))]))), (109, .fn [.sl 3 (.int .i64)] (.sl 3 (.int .i64))), (110, .fn [.int .i64] (.bool)), (112, .fn [.sl 92 (.st [.str, .int .i64, .sl 158 (.st [.int .i64, .sl 3 (.int .i64), .sl 3 (.int .i64)])]), .sl 92 (.st [.str, .int .i64, .sl 158 (.st [.int .i64, .sl 3 (.int .i64), .sl 3 (.int .i64)])])] (.bool)), (113, .fn [.sl 163 (.st [.int .i64, .int .i64, .bool, .int .i64]), .sl 163 (.st [.int .i64, .int .i64, .bool, .int .i64])] (.bool)), (114, .fn [.sl 104 (.st [.sl 169 (.st [.int .i64, .int .i64]), .sl 25 (.sl 3 (.int .i64))]), .sl 104 (.st [.sl 169 (.st [.int .i64, .int .i64]), .sl 25 (.sl 3 (.int .i64))])] (.bool)), (115, .fn [.sl 3 (.int .i64), .sl 3 (.int .i64)] (.bool)), (119, .fn [.sl 180 (.st [.int .i64, .st [.int .i64, .int .i64, .int .i64, .int .i64], .sl 262 (.st [.int .i64, .int .i64, .int .i64])]), .int .i64] (.int .i64)), (120, .fn [.st [.int .i64, .sl 92 (.st [.str, .int .i64, .sl 158 (.st [.int .i64, .sl 3 (.int .i64), .sl 3 (.int .i64)])]), .sl 163 (.st [.int .i64, .int .i64, .bool, .int .i64]), .sl 104 (.st [.sl 169 (.st [.int .i64, .int .i64]), .sl 25 (.sl 3 (.int .i64))]), .sl 3 (.int .i64)]] (.bool)), (122, .fn [.sl 180 (.st [.int .i64, .st [.int .i64, .int .i64, .int .i64, .int .i64], .sl 262 (.st [.int .i64, .int .i64, .int .i64])])] (.sl 186 (.st [.int .i64, .st [.int .i64, .int .i64, .int .i64, .int .i64], .sl 140 (.st [.int .i64, .int .i64, .int .i64])]))), (123, .fn [.sl 186 (.st [.int .i64, .st [.int .i64, .int .i64, .int .i64, .int .i64], .sl 140 (.st [.int .i64, .int .i64, .int .i64])]), .sl 186 (.st [.int .i64, .st [.int .i64, .int .i64, .int .i64, .int .i64], .sl 140 (.st [.int .i64, .int .i64, .int .i64])])] (.bool)), (124, .fn [.st [.int .i64, .sl 92 (.st [.str, .int .i64, .sl 158 (.st [.int .i64, .sl 3 (.int .i64), .sl 3 (.int .i64)])]), .sl 163 (.st [.int .i64, .int .i64, .bool, .int .i64]), .sl 104 (.st [.sl 169 (.st [.int .i64, .int .i64]), .sl 25 (.sl 3 (.int .i64))]), .sl 3 (.int .i64)]] (.st [.int .i64, .sl 92 (.st [.str, .int .i64, .sl 158 (.st [.int .i64, .sl 3 (.int .i64), .sl 3 (.int .i64)])]), .sl 163 (.st [.int .i64, .int .i64, .bool, .int .i64]), .sl 104 (.st [.sl 169 (.st [.int .i64, .int .i64]), .sl 25 (.sl 3 (.int .i64))]), .sl 3 (.int .i64)])), (128, .fn [.st [.int .i64, .sl 92 (.st [.str, .int .i64, .sl 158 (.st [.int .i64, .sl 3 (.int .i64), .sl 3 (.int .i64)])]), .sl 163 (.st [.int .i64, .int .i64, .bool, .int .i64]), .sl 104 (.st [.sl 169 (.st [.int .i64, .int .i64]), .sl 25 (.sl 3 (.int .i64))]), .sl 3 (.int .i64)], .str] (.int .i64)), (139, .st [.int .i64, .int .i64, .int .i64]), (140, .st [.int .i64, .int .i64, .int .i64]), (149, .fn [.st [.str, .int .i64, .sl 254 (.st [.int .i64, .sl 3 (.int .i64), .sl 3 (.int .i64)])], .int .i64] (.int .i64)), (150, .sl 254 (.st [.int .i64, .sl 3 (.int .i64), .sl 3 (.int .i64)])), (151, .st [.str, .int .i64, .sl 254 (.st [.int .i64, .sl 3 (.int .i64), .sl 3 (.int .i64)])]), (152, .st [.str, .int .i64, .sl 254 (.st [.int .i64, .sl 3 (.int .i64), .sl 3 (.int .i64)])]), (153, .fn [.st [.sl 257 (.st [.int .i64, .int .i64]), .sl 25 (.sl 3 (.int .i64))], .int .i64] (.int .i64)), (154, .sl 257 (.st [.int .i64, .int .i64])), (155, .st [.sl 257 (.st [.int .i64, .int .i64]), .sl 25 (.sl 3 (.int .i64))]), (156, .st [.sl 257 (.st [.int .i64, .int .i64]), .sl 25 (.sl 3 (.int .i64))]), (157, .st [.int .i64, .sl 3 (.int .i64), .sl 3 (.int .i64)]), (158, .st [.int .i64, .sl 3 (.int .i64), .sl 3 (.int .i64)]), (160, .fn [.sl 169 (.st [.int .i64, .int .i64])] (.bool)), (161, .fn [.st [.str, .int .i64, .sl 254 (.st [.int .i64, .sl 3 (.int .i64), .sl 3 (.int .i64)])]] (.st [.str, .int .i64, .sl 158 (.st [.int .i64, .sl 3 (.int .i64), .sl 3 (.int .i64)])])), (162, .st [.int .i64, .int .i64, .bool, .int .i64]), (163, .st [.int .i64, .int .i64, .bool, .int .i64]), (164, .fn [.st [.int .i64, .int .i64, .bool, .int .i64]] (.st [.int .i64, .int .i64, .bool, .int .i64])), (165, .st [.int .i64, .int .i64, .bool, .int .i64]), (166, .fn [.st [.sl 257 (.st [.int .i64, .int .i64]), .sl 25 (.sl 3 (.int .i64))]] (.st [.sl 169 (.st [.int .i64, .int .i64]), .sl 25 (.sl 3 (.int .i64))])), (168, .st [.int .i64, .int .i64]), (169, .st [.int .i64, .int .i64]), (170, .fn [.st [.str, .int .i64, .sl 158 (.st [.int .i64, .sl 3 (.int .i64), .sl 3 (.int .i64)])], .st [.str, .int .i64, .sl 158 (.st [.int .i64, .sl 3 (.int .i64), .sl 3 (.int .i64)])]] (.bool)), (171, .fn [.st [.int .i64, .int .i64, .bool, .int .i64], .st [.int .i64, .int .i64, .bool, .int .i64]] (.bool)), (172, .fn [.st [.sl 169 (.st [.int .i64, .int .i64]), .sl 25 (.sl 3 (.int .i64))], .st [.sl 169 (.st [.int .i64, .int .i64]), .sl 25 (.sl 3 (.int .i64))]] (.bool)), (175, .fn [.sl 25 (.sl 3 (.int .i64)), .int .i64] (.int .i64)), (176, .fn [.st [.int .i64, .st [.int .i64, .int .i64, .int .i64, .int .i64], .sl 262 (.st [.int .i64, .int .i64, .int .i64])], .int .i64] (.int .i64)), (177, .st [.int .i64, .int .i64, .int .i64, .int .i64]), (178, .sl 262 (.st [.int .i64, .int .i64, .int .i64])), (179, .st [.int .i64, .st [.int .i64, .int .i64, .int .i64, .int .i64], .sl 262 (.st [.int .i64, .int .i64, .int .i64])]), (180, .st [.int .i64, .st [.int .i64, .int .i64, .int .i64, .int .i64], .sl 262 (.st [.int .i64, .int .i64, .int .i64])]), (181, .fn [.st [.str, .int .i64, .sl 158 (.st [.int .i64, .sl 3 (.int .i64), .sl 3 (.int .i64)])], .int .i64, .int .i64] (.bool)), (182, .fn [.st [.sl 169 (.st [.int .i64, .int .i64]), .sl 25 (.sl 3 (.int .i64))]] (.bool)), (184, .sl 140 (.st [.int .i64, .int .i64, .int .i64])), (185, .st [.int .i64, .st [.int .i64, .int .i64, .int .i64, .int .i64], .sl 140 (.st [.int .i64, .int .i64, .int .i64])]), (186, .st [.int .i64, .st [.int .i64, .int .i64, .int .i64, .int .i64], .sl 140 (.st [.int .i64, .int .i64, .int .i64])]), (187, .fn [.st [.int .i64, .st [.int .i64, .int .i64, .int .i64, .int .i64], .sl 262 (.st [.int .i64, .int .i64, .int .i64])]] (.st [.int .i64, .st [.int .i64, .int .i64, .int .i64, .int .i64], .sl 140 (.st [.int .i64, .int .i64, .int .i64])])), (188, .fn [.sl 163 (.st [.int .i64, .int .i64, .bool, .int .i64]), .fn [.st [.int .i64, .int .i64, .bool, .int .i64]] (.bool)] (.bool)), (189, .fn [.st [.int .i64, .int .i64, .bool, .int .i64]] (.bool)), (191, .fn [.st [.int .i64, .st [.int .i64, .int .i64, .int .i64, .int .i64], .sl 140 (.st [.int .i64, .int .i64, .int .i64])], .st [.int .i64, .st [.int .i64, .int .i64, .int .i64, .int .i64], .sl 140 (.st [.int .i64, .int .i64, .int .i64])]] (.bool)), (192, .fn [] (.st [.int .i64, .sl 92 (.st [.str, .int .i64, .sl 158 (.st [.int .i64, .sl 3 (.int .i64), .sl 3 (.int .i64)])]), .sl 163 (.st [.int .i64, .int .i64, .bool, .int .i64]), .sl 104 (.st [.sl 169 (.st [.int .i64, .int .i64]), .sl 25 (.sl 3 (.int .i64))]), .sl 3 (.int .i64)])), (193, .fn [.st [.int .i64, .sl 92 (.st [.str, .int .i64, .sl 158 (.st [.int .i64, .sl 3 (.int .i64), .sl 3 (.int .i64)])]), .sl 163 (.st [.int .i64, .int .i64, .bool, .int .i64]), .sl 104 (.st [.sl 169 (.st [.int .i64, .int .i64]), .sl 25 (.sl 3 (.int .i64))]), .sl 3 (.int .i64)]] (.str)), (196, .fn [.sl 92 (.st [.str, .int .i64, .sl 158 (.st [.int .i64, .sl 3 (.int .i64), .sl 3 (.int .i64)])]), .fn [.st [.str, .int .i64, .sl 158 (.st [.int .i64, .sl 3 (.int .i64), .sl 3 (.int .i64)])]] (.bool)] (.int .i64)), (197, .fn [.st [.str, .int .i64, .sl 158 (.st [.int .i64, .sl 3 (.int .i64), .sl 3 (.int .i64)])]] (.bool)), (222, .fn [.sl 254 (.st [.int .i64, .sl 3 (.int .i64), .sl 3 (.int .i64)]), .int .i64] (.int .i64)), (223, .fn [.sl 257 (.st [.int .i64, .int .i64]), .int .i64] (.int .i64)), (224, .fn [.sl 254 (.st [.int .i64, .sl 3 (.int .i64), .sl 3 (.int .i64)])] (.sl 158 (.st [.int .i64, .sl 3 (.int .i64), .sl 3 (.int .i64)]))), (225, .fn [.sl 257 (.st [.int .i64, .int .i64])] (.sl 169 (.st [.int .i64, .int .i64]))), (226, .fn [.sl 25 (.sl 3 (.int .i64))] (.sl 25 (.sl 3 (.int .i64)))), (227, .fn [.sl 158 (.st [.int .i64, .sl 3 (.int .i64), .sl 3 (.int .i64)]), .sl 158 (.st [.int .i64, .sl 3 (.int .i64), .sl 3 (.int .i64)])] (.bool)), (228, .fn [.sl 169 (.st [.int .i64, .int .i64]), .sl 169 (.st [.int .i64, .int .i64])] (.bool)), (229, .fn [.sl 25 (.sl 3 (.int .i64)), .sl 25 (.sl 3 (.int .i64))] (.bool)), (230, .fn [.sl 262 (.st [.int .i64, .int .i64, .int .i64]), .int .i64] (.int .i64)), (231, .fn [.st [.int .i64, .sl 3 (.int .i64), .sl 3 (.int .i64)], .int .i64, .int .i64] (.bool)), (232, .fn [.str] (.bool)), (233, .fn [.st [.int .i64, .int .i64, .int .i64, .int .i64]] (.st [.int .i64, .int .i64, .int .i64, .int .i64])), (234, .fn [.sl 262 (.st [.int .i64, .int .i64, .int .i64])] (.sl 140 (.st [.int .i64, .int .i64, .int .i64]))), (235, .fn [.sl 163 (.st [.int .i64, .int .i64, .bool, .int .i64]), .fn [.st [.int .i64, .int .i64, .bool, .int .i64]] (.bool)] (.int .i64)), (241, .fn [.st [.int .i64, .int .i64, .int .i64, .int .i64], .st [.int .i64, .int .i64, .int .i64, .int .i64]] (.bool)), (242, .fn [.sl 140 (.st [.int .i64, .int .i64, .int .i64]), .sl 140 (.st [.int .i64, .int .i64, .int .i64])] (.bool)), (243, .fn [.st [.str, .int .i64, .sl 158 (.st [.int .i64, .sl 3 (.int .i64), .sl 3 (.int .i64)])]] (.st [.str, .int .i64, .sl 158 (.st [.int .i64, .sl 3 (.int .i64), .sl 3 (.int .i64)])])), (244, .fn [.sl 163 (.st [.int .i64, .int .i64, .bool, .int .i64])] (.sl 163 (.st [.int .i64, .int .i64, .bool, .int .i64]))), (245, .fn [.sl 169 (.st [.int .i64, .int .i64])] (.sl 169 (.st [.int .i64, .int .i64]))), (253, .fn [.st [.int .i64, .sl 3 (.int .i64), .sl 3 (.int .i64)], .int .i64] (.int .i64)), (254, .st [.int .i64, .sl 3 (.int .i64), .sl 3 (.int .i64)]), (255, .fn [.st [.int .i64, .sl 3 (.int .i64), .sl 3 (.int .i64)]] (.st [.int .i64, .sl 3 (.int .i64), .sl 3 (.int .i64)])), (256, .fn [.st [.int .i64, .int .i64]] (.st [.int .i64, .int .i64])), (257, .st [.int .i64, .int .i64]), (259, .fn [.st [.int .i64, .sl 3 (.int .i64), .sl 3 (.int .i64)], .st [.int .i64, .sl 3 (.int .i64), .sl 3 (.int .i64)]] (.bool)), (260, .fn [.st [.int .i64, .int .i64], .st [.int .i64, .int .i64]] (.bool)), (261, .fn [.st [.int .i64, .int .i64, .int .i64]] (.st [.int .i64, .int .i64, .int .i64])), (262, .st [.int .i64, .int .i64, .int .i64]), (264, .fn [.st [.int .i64, .int .i64, .int .i64], .st [.int .i64, .int .i64, .int .i64]] (.bool))]
theorem tysOk : LkAll (TnOk Tryz.prog) tys := ⟨tn3, tn4, tn5, tn9, tn22, tn23, tn24, tn25, tn26, tn27, tn28, tn29, tn30, tn31, tn33, tn34, tn35, tn36, tn37, tn38, tn39, tn40, tn41, tn42, tn51, tn52, tn53, tn54, tn56, tn57, tn58, tn59, tn60, tn62, tn63, tn64, tn65, tn66, tn67, tn68, tn69, tn70, tn77, tn80, tn86, tn87, tn88, tn90, tn91, tn92, tn94, tn95, tn96, tn97, tn99, tn102, tn103, tn104, tn105, tn106, tn107, tn108, tn109, tn110, tn112, tn113, tn114, tn115, tn119, tn120, tn122, tn123, tn124, tn128, tn139, tn140, tn149, tn150, tn151, tn152, tn153, tn154, tn155, tn156, tn157, tn158, tn160, tn161, tn162, tn163, tn164, tn165, tn166, tn168, tn169, tn170, tn171, tn172, tn175, tn176, tn177, tn178, tn179, tn180, tn181, tn182, tn184, tn185, tn186, tn187, tn188, tn189, tn191, tn192, tn193, tn196, tn197, tn222, tn223, tn224, tn225, tn226, tn227, tn228, tn229, tn230, tn231, tn232, tn233, tn234, tn235, tn241, tn242, tn243, tn244, tn245, tn253, tn254, tn255, tn256, tn257, tn259, tn260, tn261, tn262, tn264, trivial⟩
noncomputable def tabName : String := ((Tryz.prog.globals[3]?).map (·.name)).getD (show String from default)
noncomputable def base_ : Base := [(tabName, Lib.pow10Tab.map fun z => Value.int .u64 z)]
theorem base_tab (w : World) (P : Prot) (h : BaseOk Tryz.prog base_ w P) : Lib.TabIs Tryz.prog w tabName .u64 Lib.pow10Tab := varAt_tab (h _ (List.mem_singleton.2 rfl))
def laws_szIntS (x : ((List Int) × (Int × Unit))) (c : Unit) : (Option (Int × Unit)) :=
  (if (ltZ (subZ .i64 x.2.1 (lenI x.1)) 0) = true then (some ((-1), ())) else (some ((subZ .i64 x.2.1 (lenI x.1)), ())))
def H_laws_szIntS : Hd := ⟨[.sl 3 (.int .i64), .int .i64], [], none, .p, .int .i64, .p, []⟩
def T_laws_szIntS : FSig := ⟨H_laws_szIntS.ps, H_laws_szIntS.cs, H_laws_szIntS.io, H_laws_szIntS.im, H_laws_szIntS.R, H_laws_szIntS.m, laws_szIntS⟩
theorem E_laws_szIntS : fnOf tys [] Tryz.f48 H_laws_szIntS = T_laws_szIntS := by kernel_rfl
theorem K_laws_szIntS : SigB base_ Tryz.prog 48 T_laws_szIntS := (congrArg (SigB base_ Tryz.prog 48) E_laws_szIntS).mp (fnOf_ok rfl tysOk trivial Tryz.func48 (by decide) rfl (fun _ h => by cases h) (nilEq_of (by kernel_rfl)))
def laws_szMode (x : (D_Mode × (Int × Unit))) (c : Unit) : (Option (Int × Unit)) :=
  (Option.bind ((Option.bind (laws_szIntS (x.1.2.1, (x.2.1, ())) ()) fun v0 => (some v0.1)) : (Option Int)) fun v1 => (if (ltZ v1 0) = true then (some ((-1), ())) else (Option.bind ((Option.bind (laws_szIntS (x.1.2.2.1, (v1, ())) ()) fun v2 => (some v2.1)) : (Option Int)) fun v3 => (if (ltZ v3 0) = true then (some ((-1), ())) else (some (v3, ()))))))
def H_laws_szMode : Hd := ⟨[.st [.int .i64, .sl 3 (.int .i64), .sl 3 (.int .i64)], .int .i64], [], none, .p, .int .i64, .p, []⟩
def T_laws_szMode : FSig := ⟨H_laws_szMode.ps, H_laws_szMode.cs, H_laws_szMode.io, H_laws_szMode.im, H_laws_szMode.R, H_laws_szMode.m, laws_szMode⟩
theorem E_laws_szMode : fnOf tys [(48, T_laws_szIntS)] Tryz.f220 H_laws_szMode = T_laws_szMode := by kernel_rfl
theorem K_laws_szMode : SigB base_ Tryz.prog 220 T_laws_szMode := (congrArg (SigB base_ Tryz.prog 220) E_laws_szMode).mp (fnOf_ok rfl tysOk ⟨K_laws_szIntS, trivial⟩ Tryz.func220 (by decide) rfl (fun _ h => by cases h) (nilEq_of (by kernel_rfl)))
def laws_szModeS_L0 : (Int × ((List D_Mode) × (Int × Unit))) → Option (Out (Int × ((List D_Mode) × (Int × Unit))) ((Bool × (Int × ((List D_Mode) × (Int × Unit)))) ⊕ Empty) (Int × Unit)) :=
  (fun v0 => (if (ltZ v0.1 (lenI v0.2.1)) = true then (Option.bind (getI v0.2.1 v0.1) fun v1 => (Option.bind ((Option.bind (laws_szMode (v1, (v0.2.2.1, ())) ()) fun v2 => (some v2.1)) : (Option Int)) fun v3 => (if (ltZ v3 0) = true then (some (Out.ret ((-1), ()))) else (some (Out.norm ((addZ .i64 v0.1 1), (v0.2.1, (v3, ())))))))) else (some (Out.exit (Sum.inl ((ltZ v0.1 (lenI v0.2.1)), (v0.1, (v0.2.1, (v0.2.2.1, ())))))))))
def laws_szModeS (x : ((List D_Mode) × (Int × Unit))) (c : Unit) : (Option (Int × Unit)) :=
  (if (ltZ (subZ .i64 x.2.1 (lenI x.1)) 0) = true then (some ((-1), ())) else (Option.bind (loopN (A := (Int × ((List D_Mode) × (Int × Unit)))) big laws_szModeS_L0 (0, (x.1, ((subZ .i64 x.2.1 (lenI x.1)), ())))) fun v4 => (match v4 with | Out.norm v5 => none | Out.exit v6 => (match ((match v6 with | Sum.inl v9 => (Sum.inl (v9.2.2.2.1, ())) | Sum.inr v10 => (Empty.elim v10)) : ((Int × Unit) ⊕ Empty)) with | Sum.inl v7 => (some (v7.1, ())) | Sum.inr v8 => none) | Out.ret v11 => (some v11))))
def H_laws_szModeS : Hd := ⟨[.sl 254 (.st [.int .i64, .sl 3 (.int .i64), .sl 3 (.int .i64)]), .int .i64], [], none, .p, .int .i64, .p, []⟩
def T_laws_szModeS : FSig := ⟨H_laws_szModeS.ps, H_laws_szModeS.cs, H_laws_szModeS.io, H_laws_szModeS.im, H_laws_szModeS.R, H_laws_szModeS.m, laws_szModeS⟩
theorem E_laws_szModeS : fnOf tys [(220, T_laws_szMode)] Tryz.f177 H_laws_szModeS = T_laws_szModeS := by kernel_rfl
theorem K_laws_szModeS : SigB base_ Tryz.prog 177 T_laws_szModeS := (congrArg (SigB base_ Tryz.prog 177) E_laws_szModeS).mp (fnOf_ok rfl tysOk ⟨K_laws_szMode, trivial⟩ Tryz.func177 (by decide) rfl (fun _ h => by cases h) (nilEq_of (by kernel_rfl)))
def laws_szActivity (x : (D_Activity × (Int × Unit))) (c : Unit) : (Option (Int × Unit)) :=
  (if (ltZ (subZ .i64 x.2.1 (lenI x.1.1)) 0) = true then (some ((-1), ())) else (Option.bind ((Option.bind (laws_szModeS (x.1.2.2.1, ((subZ .i64 x.2.1 (lenI x.1.1)), ())) ()) fun v0 => (some v0.1)) : (Option Int)) fun v1 => (if (ltZ v1 0) = true then (some ((-1), ())) else (some (v1, ())))))
def H_laws_szActivity : Hd := ⟨[.st [.str, .int .i64, .sl 254 (.st [.int .i64, .sl 3 (.int .i64), .sl 3 (.int .i64)])], .int .i64], [], none, .p, .int .i64, .p, []⟩
def T_laws_szActivity : FSig := ⟨H_laws_szActivity.ps, H_laws_szActivity.cs, H_laws_szActivity.io, H_laws_szActivity.im, H_laws_szActivity.R, H_laws_szActivity.m, laws_szActivity⟩
theorem E_laws_szActivity : fnOf tys [(177, T_laws_szModeS)] Tryz.f109 H_laws_szActivity = T_laws_szActivity := by kernel_rfl
theorem K_laws_szActivity : SigB base_ Tryz.prog 109 T_laws_szActivity := (congrArg (SigB base_ Tryz.prog 109) E_laws_szActivity).mp (fnOf_ok rfl tysOk ⟨K_laws_szModeS, trivial⟩ Tryz.func109 (by decide) rfl (fun _ h => by cases h) (nilEq_of (by kernel_rfl)))
def laws_szActivityS_L0 : (Int × ((List D_Activity) × (Int × Unit))) → Option (Out (Int × ((List D_Activity) × (Int × Unit))) ((Bool × (Int × ((List D_Activity) × (Int × Unit)))) ⊕ Empty) (Int × Unit)) :=
  (fun v0 => (if (ltZ v0.1 (lenI v0.2.1)) = true then (Option.bind (getI v0.2.1 v0.1) fun v1 => (Option.bind ((Option.bind (laws_szActivity (v1, (v0.2.2.1, ())) ()) fun v2 => (some v2.1)) : (Option Int)) fun v3 => (if (ltZ v3 0) = true then (some (Out.ret ((-1), ()))) else (some (Out.norm ((addZ .i64 v0.1 1), (v0.2.1, (v3, ())))))))) else (some (Out.exit (Sum.inl ((ltZ v0.1 (lenI v0.2.1)), (v0.1, (v0.2.1, (v0.2.2.1, ())))))))))
def laws_szActivityS (x : ((List D_Activity) × (Int × Unit))) (c : Unit) : (Option (Int × Unit)) :=
  (if (ltZ (subZ .i64 x.2.1 (lenI x.1)) 0) = true then (some ((-1), ())) else (Option.bind (loopN (A := (Int × ((List D_Activity) × (Int × Unit)))) big laws_szActivityS_L0 (0, (x.1, ((subZ .i64 x.2.1 (lenI x.1)), ())))) fun v4 => (match v4 with | Out.norm v5 => none | Out.exit v6 => (match ((match v6 with | Sum.inl v9 => (Sum.inl (v9.2.2.2.1, ())) | Sum.inr v10 => (Empty.elim v10)) : ((Int × Unit) ⊕ Empty)) with | Sum.inl v7 => (some (v7.1, ())) | Sum.inr v8 => none) | Out.ret v11 => (some v11))))
def H_laws_szActivityS : Hd := ⟨[.sl 152 (.st [.str, .int .i64, .sl 254 (.st [.int .i64, .sl 3 (.int .i64), .sl 3 (.int .i64)])]), .int .i64], [], none, .p, .int .i64, .p, []⟩
def T_laws_szActivityS : FSig := ⟨H_laws_szActivityS.ps, H_laws_szActivityS.cs, H_laws_szActivityS.io, H_laws_szActivityS.im, H_laws_szActivityS.R, H_laws_szActivityS.m, laws_szActivityS⟩
theorem E_laws_szActivityS : fnOf tys [(109, T_laws_szActivity)] Tryz.f45 H_laws_szActivityS = T_laws_szActivityS := by kernel_rfl
theorem K_laws_szActivityS : SigB base_ Tryz.prog 45 T_laws_szActivityS := (congrArg (SigB base_ Tryz.prog 45) E_laws_szActivityS).mp (fnOf_ok rfl tysOk ⟨K_laws_szActivity, trivial⟩ Tryz.func45 (by decide) rfl (fun _ h => by cases h) (nilEq_of (by kernel_rfl)))
def laws_szLinkS (x : ((List D_Link) × (Int × Unit))) (c : Unit) : (Option (Int × Unit)) :=
  (if (ltZ (subZ .i64 x.2.1 (lenI x.1)) 0) = true then (some ((-1), ())) else (some ((subZ .i64 x.2.1 (lenI x.1)), ())))
def H_laws_szLinkS : Hd := ⟨[.sl 165 (.st [.int .i64, .int .i64, .bool, .int .i64]), .int .i64], [], none, .p, .int .i64, .p, []⟩
def T_laws_szLinkS : FSig := ⟨H_laws_szLinkS.ps, H_laws_szLinkS.cs, H_laws_szLinkS.io, H_laws_szLinkS.im, H_laws_szLinkS.R, H_laws_szLinkS.m, laws_szLinkS⟩
theorem E_laws_szLinkS : fnOf tys [] Tryz.f46 H_laws_szLinkS = T_laws_szLinkS := by kernel_rfl
theorem K_laws_szLinkS : SigB base_ Tryz.prog 46 T_laws_szLinkS := (congrArg (SigB base_ Tryz.prog 46) E_laws_szLinkS).mp (fnOf_ok rfl tysOk trivial Tryz.func46 (by decide) rfl (fun _ h => by cases h) (nilEq_of (by kernel_rfl)))
def laws_szStepS (x : ((List D_Step) × (Int × Unit))) (c : Unit) : (Option (Int × Unit)) :=
  (if (ltZ (subZ .i64 x.2.1 (lenI x.1)) 0) = true then (some ((-1), ())) else (some ((subZ .i64 x.2.1 (lenI x.1)), ())))
def H_laws_szStepS : Hd := ⟨[.sl 257 (.st [.int .i64, .int .i64]), .int .i64], [], none, .p, .int .i64, .p, []⟩
def T_laws_szStepS : FSig := ⟨H_laws_szStepS.ps, H_laws_szStepS.cs, H_laws_szStepS.io, H_laws_szStepS.im, H_laws_szStepS.R, H_laws_szStepS.m, laws_szStepS⟩
theorem E_laws_szStepS : fnOf tys [] Tryz.f178 H_laws_szStepS = T_laws_szStepS := by kernel_rfl
theorem K_laws_szStepS : SigB base_ Tryz.prog 178 T_laws_szStepS := (congrArg (SigB base_ Tryz.prog 178) E_laws_szStepS).mp (fnOf_ok rfl tysOk trivial Tryz.func178 (by decide) rfl (fun _ h => by cases h) (nilEq_of (by kernel_rfl)))
def laws_szIntSS_L0 : (Int × ((List (List Int)) × (Int × Unit))) → Option (Out (Int × ((List (List Int)) × (Int × Unit))) ((Bool × (Int × ((List (List Int)) × (Int × Unit)))) ⊕ Empty) (Int × Unit)) :=
  (fun v0 => (if (ltZ v0.1 (lenI v0.2.1)) = true then (Option.bind (getI v0.2.1 v0.1) fun v1 => (Option.bind ((Option.bind (laws_szIntS (v1, (v0.2.2.1, ())) ()) fun v2 => (some v2.1)) : (Option Int)) fun v3 => (if (ltZ v3 0) = true then (some (Out.ret ((-1), ()))) else (some (Out.norm ((addZ .i64 v0.1 1), (v0.2.1, (v3, ())))))))) else (some (Out.exit (Sum.inl ((ltZ v0.1 (lenI v0.2.1)), (v0.1, (v0.2.1, (v0.2.2.1, ())))))))))
def laws_szIntSS (x : ((List (List Int)) × (Int × Unit))) (c : Unit) : (Option (Int × Unit)) :=
  (if (ltZ (subZ .i64 x.2.1 (lenI x.1)) 0) = true then (some ((-1), ())) else (Option.bind (loopN (A := (Int × ((List (List Int)) × (Int × Unit)))) big laws_szIntSS_L0 (0, (x.1, ((subZ .i64 x.2.1 (lenI x.1)), ())))) fun v4 => (match v4 with | Out.norm v5 => none | Out.exit v6 => (match ((match v6 with | Sum.inl v9 => (Sum.inl (v9.2.2.2.1, ())) | Sum.inr v10 => (Empty.elim v10)) : ((Int × Unit) ⊕ Empty)) with | Sum.inl v7 => (some (v7.1, ())) | Sum.inr v8 => none) | Out.ret v11 => (some v11))))
def H_laws_szIntSS : Hd := ⟨[.sl 25 (.sl 3 (.int .i64)), .int .i64], [], none, .p, .int .i64, .p, []⟩
def T_laws_szIntSS : FSig := ⟨H_laws_szIntSS.ps, H_laws_szIntSS.cs, H_laws_szIntSS.io, H_laws_szIntSS.im, H_laws_szIntSS.R, H_laws_szIntSS.m, laws_szIntSS⟩
theorem E_laws_szIntSS : fnOf tys [(48, T_laws_szIntS)] Tryz.f179 H_laws_szIntSS = T_laws_szIntSS := by kernel_rfl
theorem K_laws_szIntSS : SigB base_ Tryz.prog 179 T_laws_szIntSS := (congrArg (SigB base_ Tryz.prog 179) E_laws_szIntSS).mp (fnOf_ok rfl tysOk ⟨K_laws_szIntS, trivial⟩ Tryz.func179 (by decide) rfl (fun _ h => by cases h) (nilEq_of (by kernel_rfl)))
def laws_szResource (x : (D_Resource × (Int × Unit))) (c : Unit) : (Option (Int × Unit)) :=
  (Option.bind ((Option.bind (laws_szStepS (x.1.1, (x.2.1, ())) ()) fun v0 => (some v0.1)) : (Option Int)) fun v1 => (if (ltZ v1 0) = true then (some ((-1), ())) else (Option.bind ((Option.bind (laws_szIntSS (x.1.2.1, (v1, ())) ()) fun v2 => (some v2.1)) : (Option Int)) fun v3 => (if (ltZ v3 0) = true then (some ((-1), ())) else (some (v3, ()))))))
def H_laws_szResource : Hd := ⟨[.st [.sl 257 (.st [.int .i64, .int .i64]), .sl 25 (.sl 3 (.int .i64))], .int .i64], [], none, .p, .int .i64, .p, []⟩
def T_laws_szResource : FSig := ⟨H_laws_szResource.ps, H_laws_szResource.cs, H_laws_szResource.io, H_laws_szResource.im, H_laws_szResource.R, H_laws_szResource.m, laws_szResource⟩
theorem E_laws_szResource : fnOf tys [(178, T_laws_szStepS), (179, T_laws_szIntSS)] Tryz.f110 H_laws_szResource = T_laws_szResource := by kernel_rfl
theorem K_laws_szResource : SigB base_ Tryz.prog 110 T_laws_szResource := (congrArg (SigB base_ Tryz.prog 110) E_laws_szResource).mp (fnOf_ok rfl tysOk ⟨K_laws_szStepS, K_laws_szIntSS, trivial⟩ Tryz.func110 (by decide) rfl (fun _ h => by cases h) (nilEq_of (by kernel_rfl)))
def laws_szResourceS_L0 : (Int × ((List D_Resource) × (Int × Unit))) → Option (Out (Int × ((List D_Resource) × (Int × Unit))) ((Bool × (Int × ((List D_Resource) × (Int × Unit)))) ⊕ Empty) (Int × Unit)) :=
  (fun v0 => (if (ltZ v0.1 (lenI v0.2.1)) = true then (Option.bind (getI v0.2.1 v0.1) fun v1 => (Option.bind ((Option.bind (laws_szResource (v1, (v0.2.2.1, ())) ()) fun v2 => (some v2.1)) : (Option Int)) fun v3 => (if (ltZ v3 0) = true then (some (Out.ret ((-1), ()))) else (some (Out.norm ((addZ .i64 v0.1 1), (v0.2.1, (v3, ())))))))) else (some (Out.exit (Sum.inl ((ltZ v0.1 (lenI v0.2.1)), (v0.1, (v0.2.1, (v0.2.2.1, ())))))))))
def laws_szResourceS (x : ((List D_Resource) × (Int × Unit))) (c : Unit) : (Option (Int × Unit)) :=
  (if (ltZ (subZ .i64 x.2.1 (lenI x.1)) 0) = true then (some ((-1), ())) else (Option.bind (loopN (A := (Int × ((List D_Resource) × (Int × Unit)))) big laws_szResourceS_L0 (0, (x.1, ((subZ .i64 x.2.1 (lenI x.1)), ())))) fun v4 => (match v4 with | Out.norm v5 => none | Out.exit v6 => (match ((match v6 with | Sum.inl v9 => (Sum.inl (v9.2.2.2.1, ())) | Sum.inr v10 => (Empty.elim v10)) : ((Int × Unit) ⊕ Empty)) with | Sum.inl v7 => (some (v7.1, ())) | Sum.inr v8 => none) | Out.ret v11 => (some v11))))
def H_laws_szResourceS : Hd := ⟨[.sl 156 (.st [.sl 257 (.st [.int .i64, .int .i64]), .sl 25 (.sl 3 (.int .i64))]), .int .i64], [], none, .p, .int .i64, .p, []⟩
def T_laws_szResourceS : FSig := ⟨H_laws_szResourceS.ps, H_laws_szResourceS.cs, H_laws_szResourceS.io, H_laws_szResourceS.im, H_laws_szResourceS.R, H_laws_szResourceS.m, laws_szResourceS⟩
theorem E_laws_szResourceS : fnOf tys [(110, T_laws_szResource)] Tryz.f47 H_laws_szResourceS = T_laws_szResourceS := by kernel_rfl
theorem K_laws_szResourceS : SigB base_ Tryz.prog 47 T_laws_szResourceS := (congrArg (SigB base_ Tryz.prog 47) E_laws_szResourceS).mp (fnOf_ok rfl tysOk ⟨K_laws_szResource, trivial⟩ Tryz.func47 (by decide) rfl (fun _ h => by cases h) (nilEq_of (by kernel_rfl)))
def laws_szProject (x : (D_Project × (Int × Unit))) (c : Unit) : (Option (Int × Unit)) :=
  (Option.bind ((Option.bind (laws_szActivityS (x.1.2.1, (x.2.1, ())) ()) fun v0 => (some v0.1)) : (Option Int)) fun v1 => (if (ltZ v1 0) = true then (some ((-1), ())) else (Option.bind ((Option.bind (laws_szLinkS (x.1.2.2.1, (v1, ())) ()) fun v2 => (some v2.1)) : (Option Int)) fun v3 => (if (ltZ v3 0) = true then (some ((-1), ())) else (Option.bind ((Option.bind (laws_szResourceS (x.1.2.2.2.1, (v3, ())) ()) fun v4 => (some v4.1)) : (Option Int)) fun v5 => (if (ltZ v5 0) = true then (some ((-1), ())) else (Option.bind ((Option.bind (laws_szIntS (x.1.2.2.2.2.1, (v5, ())) ()) fun v6 => (some v6.1)) : (Option Int)) fun v7 => (if (ltZ v7 0) = true then (some ((-1), ())) else (some (v7, ()))))))))))
def H_laws_szProject : Hd := ⟨[.st [.int .i64, .sl 152 (.st [.str, .int .i64, .sl 254 (.st [.int .i64, .sl 3 (.int .i64), .sl 3 (.int .i64)])]), .sl 165 (.st [.int .i64, .int .i64, .bool, .int .i64]), .sl 156 (.st [.sl 257 (.st [.int .i64, .int .i64]), .sl 25 (.sl 3 (.int .i64))]), .sl 3 (.int .i64)], .int .i64], [], none, .p, .int .i64, .p, []⟩
def T_laws_szProject : FSig := ⟨H_laws_szProject.ps, H_laws_szProject.cs, H_laws_szProject.io, H_laws_szProject.im, H_laws_szProject.R, H_laws_szProject.m, laws_szProject⟩
theorem E_laws_szProject : fnOf tys [(45, T_laws_szActivityS), (46, T_laws_szLinkS), (47, T_laws_szResourceS), (48, T_laws_szIntS)] Tryz.f9 H_laws_szProject = T_laws_szProject := by kernel_rfl
theorem K_laws_szProject : SigB base_ Tryz.prog 9 T_laws_szProject := (congrArg (SigB base_ Tryz.prog 9) E_laws_szProject).mp (fnOf_ok rfl tysOk ⟨K_laws_szActivityS, K_laws_szLinkS, K_laws_szResourceS, K_laws_szIntS, trivial⟩ Tryz.func9 (by decide) rfl (fun _ h => by cases h) (nilEq_of (by kernel_rfl)))
def laws_szSchedule (x : (D_Schedule × (Int × Unit))) (c : Unit) : (Option (Int × Unit)) :=
  (Option.bind ((Option.bind (laws_szIntS (x.1.1, (x.2.1, ())) ()) fun v0 => (some v0.1)) : (Option Int)) fun v1 => (if (ltZ v1 0) = true then (some ((-1), ())) else (Option.bind ((Option.bind (laws_szIntS (x.1.2.1, (v1, ())) ()) fun v2 => (some v2.1)) : (Option Int)) fun v3 => (if (ltZ v3 0) = true then (some ((-1), ())) else (some (v3, ()))))))
def H_laws_szSchedule : Hd := ⟨[.st [.sl 3 (.int .i64), .sl 3 (.int .i64)], .int .i64], [], none, .p, .int .i64, .p, []⟩
def T_laws_szSchedule : FSig := ⟨H_laws_szSchedule.ps, H_laws_szSchedule.cs, H_laws_szSchedule.io, H_laws_szSchedule.im, H_laws_szSchedule.R, H_laws_szSchedule.m, laws_szSchedule⟩
theorem E_laws_szSchedule : fnOf tys [(48, T_laws_szIntS)] Tryz.f10 H_laws_szSchedule = T_laws_szSchedule := by kernel_rfl
theorem K_laws_szSchedule : SigB base_ Tryz.prog 10 T_laws_szSchedule := (congrArg (SigB base_ Tryz.prog 10) E_laws_szSchedule).mp (fnOf_ok rfl tysOk ⟨K_laws_szIntS, trivial⟩ Tryz.func10 (by decide) rfl (fun _ h => by cases h) (nilEq_of (by kernel_rfl)))
def spec_l01In (x : D_Literal) (c : Unit) : (Option (Bool × Unit)) :=
  (Option.bind ((if (leZ x.2.1 x.1) = true then (some ((leZ x.1 x.2.2.1), ())) else (some (false, ()))) : (Option (Bool × Unit))) fun v0 => (some (v0.1, ())))
def H_spec_l01In : Hd := ⟨[.int .i64, .int .i64, .int .i64], [], none, .p, .bool, .p, []⟩
def T_spec_l01In : FSig := ⟨H_spec_l01In.ps, H_spec_l01In.cs, H_spec_l01In.io, H_spec_l01In.im, H_spec_l01In.R, H_spec_l01In.m, spec_l01In⟩
theorem E_spec_l01In : fnOf tys [] Tryz.f50 H_spec_l01In = T_spec_l01In := by kernel_rfl
theorem K_spec_l01In : SigB base_ Tryz.prog 50 T_spec_l01In := (congrArg (SigB base_ Tryz.prog 50) E_spec_l01In).mp (fnOf_ok rfl tysOk trivial Tryz.func50 (by decide) rfl (fun _ h => by cases h) (nilEq_of (by kernel_rfl)))
def spec_ActivityIndex_L0 : (Int × (Int × ((List D_Activity) × ((List UInt8) × Unit)))) → Option (Out (Int × (Int × ((List D_Activity) × ((List UInt8) × Unit)))) ((Bool × (Int × (Int × ((List D_Activity) × ((List UInt8) × Unit))))) ⊕ Empty) (Int × Unit)) :=
  (fun v0 => (if (ltZ v0.1 v0.2.1) = true then (Option.bind (getI v0.2.2.1 v0.1) fun v1 => (if (eqS v1.1 v0.2.2.2.1) = true then (some (Out.ret (v0.1, ()))) else (some (Out.norm ((addZ .i64 v0.1 1), (v0.2.1, (v0.2.2.1, (v0.2.2.2.1, ())))))))) else (some (Out.exit (Sum.inl ((ltZ v0.1 v0.2.1), (v0.1, (v0.2.1, (v0.2.2.1, (v0.2.2.2.1, ()))))))))))
def spec_ActivityIndex (x : (D_Project × ((List UInt8) × Unit))) (c : Unit) : (Option (Int × Unit)) :=
  (Option.bind (loopN (A := (Int × (Int × ((List D_Activity) × ((List UInt8) × Unit))))) big spec_ActivityIndex_L0 (0, ((lenI x.1.2.1), (x.1.2.1, (x.2.1, ()))))) fun v2 => (match v2 with | Out.norm v3 => none | Out.exit v4 => (match ((match v4 with | Sum.inl v7 => (Sum.inl ()) | Sum.inr v8 => (Empty.elim v8)) : (Unit ⊕ Empty)) with | Sum.inl v5 => (some ((-1), ())) | Sum.inr v6 => none) | Out.ret v9 => (some v9)))
def H_spec_ActivityIndex : Hd := ⟨[.st [.int .i64, .sl 92 (.st [.str, .int .i64, .sl 158 (.st [.int .i64, .sl 3 (.int .i64), .sl 3 (.int .i64)])]), .sl 163 (.st [.int .i64, .int .i64, .bool, .int .i64]), .sl 104 (.st [.sl 169 (.st [.int .i64, .int .i64]), .sl 25 (.sl 3 (.int .i64))]), .sl 3 (.int .i64)], .str], [], none, .p, .int .i64, .p, []⟩
def T_spec_ActivityIndex : FSig := ⟨H_spec_ActivityIndex.ps, H_spec_ActivityIndex.cs, H_spec_ActivityIndex.io, H_spec_ActivityIndex.im, H_spec_ActivityIndex.R, H_spec_ActivityIndex.m, spec_ActivityIndex⟩
theorem E_spec_ActivityIndex : fnOf tys [] Tryz.f87 H_spec_ActivityIndex = T_spec_ActivityIndex := by kernel_rfl
theorem K_spec_ActivityIndex : SigB base_ Tryz.prog 87 T_spec_ActivityIndex := (congrArg (SigB base_ Tryz.prog 87) E_spec_ActivityIndex).mp (fnOf_ok rfl tysOk trivial Tryz.func87 (by decide) rfl (fun _ h => by cases h) (nilEq_of (by kernel_rfl)))
def spec_l04Nums_L0 : (Int × (Int × ((List Int) × ((List Int) × (Int × Unit))))) → Option (Out (Int × (Int × ((List Int) × ((List Int) × (Int × Unit))))) ((Bool × (Int × (Int × ((List Int) × ((List Int) × (Int × Unit)))))) ⊕ Empty) (Bool × Unit)) :=
  (fun v0 => (if (ltZ v0.1 v0.2.1) = true then (Option.bind (getI v0.2.2.1 v0.1) fun v1 => (Option.bind ((Option.bind (spec_l01In (v1, (0, (20, ()))) ()) fun v2 => (some v2.1)) : (Option Bool)) fun v3 => (if (notB v3) = true then (some (Out.ret (false, ()))) else (some (Out.norm ((addZ .i64 v0.1 1), (v0.2.1, (v0.2.2.1, (v0.2.2.2.1, (v0.2.2.2.2.1, ())))))))))) else (some (Out.exit (Sum.inl ((ltZ v0.1 v0.2.1), (v0.1, (v0.2.1, (v0.2.2.1, (v0.2.2.2.1, (v0.2.2.2.2.1, ())))))))))))
def spec_l04Nums (x : ((List Int) × (Int × Unit))) (c : Unit) : (Option (Bool × Unit)) :=
  (Option.bind (loopN (A := (Int × (Int × ((List Int) × ((List Int) × (Int × Unit)))))) big spec_l04Nums_L0 (0, ((lenI x.1), (x.1, (x.1, (x.2.1, ())))))) fun v4 => (match v4 with | Out.norm v5 => none | Out.exit v6 => (match ((match v6 with | Sum.inl v9 => (Sum.inl (v9.2.2.2.2.1, (v9.2.2.2.2.2.1, ()))) | Sum.inr v10 => (Empty.elim v10)) : (((List Int) × (Int × Unit)) ⊕ Empty)) with | Sum.inl v7 => (some ((eqZ (lenI v7.1) v7.2.1), ())) | Sum.inr v8 => none) | Out.ret v11 => (some v11)))
def H_spec_l04Nums : Hd := ⟨[.sl 3 (.int .i64), .int .i64], [], none, .p, .bool, .p, []⟩
def T_spec_l04Nums : FSig := ⟨H_spec_l04Nums.ps, H_spec_l04Nums.cs, H_spec_l04Nums.io, H_spec_l04Nums.im, H_spec_l04Nums.R, H_spec_l04Nums.m, spec_l04Nums⟩
theorem E_spec_l04Nums : fnOf tys [(50, T_spec_l01In)] Tryz.f226 H_spec_l04Nums = T_spec_l04Nums := by kernel_rfl
theorem K_spec_l04Nums : SigB base_ Tryz.prog 226 T_spec_l04Nums := (congrArg (SigB base_ Tryz.prog 226) E_spec_l04Nums).mp (fnOf_ok rfl tysOk ⟨K_spec_l01In, trivial⟩ Tryz.func226 (by decide) rfl (fun _ h => by cases h) (nilEq_of (by kernel_rfl)))
def spec_ModeOk (x : (D_Mode × D_Step)) (c : Unit) : (Option (Bool × Unit)) :=
  (Option.bind ((Option.bind (spec_l01In (x.1.1, (1, (12, ()))) ()) fun v0 => (some v0.1)) : (Option Bool)) fun v1 => (Option.bind ((if v1 = true then (Option.bind ((Option.bind (spec_l04Nums (x.1.2.1, (x.2.1, ())) ()) fun v2 => (some v2.1)) : (Option Bool)) fun v3 => (Option.bind ((if v3 = true then (Option.bind ((Option.bind (spec_l04Nums (x.1.2.2.1, (x.2.2.1, ())) ()) fun v4 => (some v4.1)) : (Option Bool)) fun v5 => (some (v5, ()))) else (some (false, ()))) : (Option (Bool × Unit))) fun v6 => (some (v6.1, ())))) else (some (false, ()))) : (Option (Bool × Unit))) fun v7 => (some (v7.1, ()))))
def H_spec_ModeOk : Hd := ⟨[.st [.int .i64, .sl 3 (.int .i64), .sl 3 (.int .i64)], .int .i64, .int .i64], [], none, .p, .bool, .p, []⟩
def T_spec_ModeOk : FSig := ⟨H_spec_ModeOk.ps, H_spec_ModeOk.cs, H_spec_ModeOk.io, H_spec_ModeOk.im, H_spec_ModeOk.R, H_spec_ModeOk.m, spec_ModeOk⟩
theorem E_spec_ModeOk : fnOf tys [(50, T_spec_l01In), (226, T_spec_l04Nums)] Tryz.f188 H_spec_ModeOk = T_spec_ModeOk := by kernel_rfl
theorem K_spec_ModeOk : SigB base_ Tryz.prog 188 T_spec_ModeOk := (congrArg (SigB base_ Tryz.prog 188) E_spec_ModeOk).mp (fnOf_ok rfl tysOk ⟨K_spec_l01In, K_spec_l04Nums, trivial⟩ Tryz.func188 (by decide) rfl (fun _ h => by cases h) (nilEq_of (by kernel_rfl)))
def spec_IsName_L0 : (Int × ((List UInt8) × Unit)) → Option (Out (Int × ((List UInt8) × Unit)) ((Bool × (Int × ((List UInt8) × Unit))) ⊕ Empty) (Bool × Unit)) :=
  (fun v0 => (if (ltZ v0.1 (lenI v0.2.1)) = true then (Option.bind (byteAt v0.2.1 v0.1) fun v1 => (Option.bind ((if (leZ 97 v1) = true then (Option.bind (byteAt v0.2.1 v0.1) fun v2 => (some ((leZ v2 122), (v0.1, (v0.2.1, ()))))) else (some (false, (v0.1, (v0.2.1, ()))))) : (Option (Bool × (Int × ((List UInt8) × Unit))))) fun v3 => (Option.bind ((if (notB v3.1) = true then (Option.bind ((if (eqZ v3.2.1 0) = true then (some (true, (v3.2.1, (v3.2.2.1, ())))) else (Option.bind (byteAt v3.2.2.1 v3.2.1) fun v4 => (Option.bind ((if (ltZ v4 48) = true then (some (true, (v3.2.1, (v3.2.2.1, ())))) else (Option.bind (byteAt v3.2.2.1 v3.2.1) fun v5 => (some ((ltZ 57 v5), (v3.2.1, (v3.2.2.1, ())))))) : (Option (Bool × (Int × ((List UInt8) × Unit))))) fun v6 => (some (v6.1, (v6.2.1, (v6.2.2.1, ()))))))) : (Option (Bool × (Int × ((List UInt8) × Unit))))) fun v7 => (some (v7.1, (v7.2.1, (v7.2.2.1, ()))))) else (some (false, (v3.2.1, (v3.2.2.1, ()))))) : (Option (Bool × (Int × ((List UInt8) × Unit))))) fun v8 => (if v8.1 = true then (some (Out.ret (false, ()))) else (some (Out.norm ((addZ .i64 v8.2.1 1), (v8.2.2.1, ())))))))) else (some (Out.exit (Sum.inl ((ltZ v0.1 (lenI v0.2.1)), (v0.1, (v0.2.1, ()))))))))
def spec_IsName (x : ((List UInt8) × Unit)) (c : Unit) : (Option (Bool × Unit)) :=
  (Option.bind (loopN (A := (Int × ((List UInt8) × Unit))) big spec_IsName_L0 (0, (x.1, ()))) fun v9 => (match v9 with | Out.norm v10 => none | Out.exit v11 => (match ((match v11 with | Sum.inl v16 => (Sum.inl (v16.2.2.1, ())) | Sum.inr v17 => (Empty.elim v17)) : (((List UInt8) × Unit) ⊕ Empty)) with | Sum.inl v12 => (Option.bind ((Option.bind (spec_l01In ((lenI v12.1), (1, (8, ()))) ()) fun v13 => (some v13.1)) : (Option Bool)) fun v14 => (some (v14, ()))) | Sum.inr v15 => none) | Out.ret v18 => (some v18)))
def H_spec_IsName : Hd := ⟨[.str], [], none, .p, .bool, .p, []⟩
def T_spec_IsName : FSig := ⟨H_spec_IsName.ps, H_spec_IsName.cs, H_spec_IsName.io, H_spec_IsName.im, H_spec_IsName.R, H_spec_IsName.m, spec_IsName⟩
theorem E_spec_IsName : fnOf tys [(50, T_spec_l01In)] Tryz.f189 H_spec_IsName = T_spec_IsName := by kernel_rfl
theorem K_spec_IsName : SigB base_ Tryz.prog 189 T_spec_IsName := (congrArg (SigB base_ Tryz.prog 189) E_spec_IsName).mp (fnOf_ok rfl tysOk ⟨K_spec_l01In, trivial⟩ Tryz.func189 (by decide) rfl (fun _ h => by cases h) (nilEq_of (by kernel_rfl)))
def spec_ActivityOk_L0 : (Int × (Int × ((List D_Mode) × (Int × (Int × (D_Activity × Unit)))))) → Option (Out (Int × (Int × ((List D_Mode) × (Int × (Int × (D_Activity × Unit)))))) ((Bool × (Int × (Int × ((List D_Mode) × (Int × (Int × (D_Activity × Unit))))))) ⊕ Empty) (Bool × Unit)) :=
  (fun v0 => (if (ltZ v0.1 v0.2.1) = true then (Option.bind (getI v0.2.2.1 v0.1) fun v1 => (Option.bind ((Option.bind (spec_ModeOk (v1, (v0.2.2.2.1, (v0.2.2.2.2.1, ()))) ()) fun v2 => (some v2.1)) : (Option Bool)) fun v3 => (if (notB v3) = true then (some (Out.ret (false, ()))) else (some (Out.norm ((addZ .i64 v0.1 1), (v0.2.1, (v0.2.2.1, (v0.2.2.2.1, (v0.2.2.2.2.1, (v0.2.2.2.2.2.1, ()))))))))))) else (some (Out.exit (Sum.inl ((ltZ v0.1 v0.2.1), (v0.1, (v0.2.1, (v0.2.2.1, (v0.2.2.2.1, (v0.2.2.2.2.1, (v0.2.2.2.2.2.1, ()))))))))))))
def spec_ActivityOk (x : (D_Activity × D_Step)) (c : Unit) : (Option (Bool × Unit)) :=
  (Option.bind (loopN (A := (Int × (Int × ((List D_Mode) × (Int × (Int × (D_Activity × Unit))))))) big spec_ActivityOk_L0 (0, ((lenI x.1.2.2.1), (x.1.2.2.1, (x.2.1, (x.2.2.1, (x.1, ()))))))) fun v4 => (match v4 with | Out.norm v5 => none | Out.exit v6 => (match ((match v6 with | Sum.inl v17 => (Sum.inl (v17.2.2.2.2.2.2.1, ())) | Sum.inr v18 => (Empty.elim v18)) : ((D_Activity × Unit) ⊕ Empty)) with | Sum.inl v7 => (Option.bind ((Option.bind (spec_IsName (v7.1.1, ()) ()) fun v8 => (some v8.1)) : (Option Bool)) fun v9 => (Option.bind ((if v9 = true then (Option.bind ((Option.bind (spec_l01In (v7.1.2.1, (0, (3, ()))) ()) fun v10 => (some v10.1)) : (Option Bool)) fun v11 => (Option.bind ((if v11 = true then (Option.bind ((Option.bind (spec_l01In ((lenI v7.1.2.2.1), (1, (3, ()))) ()) fun v12 => (some v12.1)) : (Option Bool)) fun v13 => (some (v13, ()))) else (some (false, ()))) : (Option (Bool × Unit))) fun v14 => (some (v14.1, ())))) else (some (false, ()))) : (Option (Bool × Unit))) fun v15 => (some (v15.1, ())))) | Sum.inr v16 => none) | Out.ret v19 => (some v19)))
def H_spec_ActivityOk : Hd := ⟨[.st [.str, .int .i64, .sl 158 (.st [.int .i64, .sl 3 (.int .i64), .sl 3 (.int .i64)])], .int .i64, .int .i64], [], none, .p, .bool, .p, []⟩
def T_spec_ActivityOk : FSig := ⟨H_spec_ActivityOk.ps, H_spec_ActivityOk.cs, H_spec_ActivityOk.io, H_spec_ActivityOk.im, H_spec_ActivityOk.R, H_spec_ActivityOk.m, spec_ActivityOk⟩
theorem E_spec_ActivityOk : fnOf tys [(50, T_spec_l01In), (188, T_spec_ModeOk), (189, T_spec_IsName)] Tryz.f129 H_spec_ActivityOk = T_spec_ActivityOk := by kernel_rfl
theorem K_spec_ActivityOk : SigB base_ Tryz.prog 129 T_spec_ActivityOk := (congrArg (SigB base_ Tryz.prog 129) E_spec_ActivityOk).mp (fnOf_ok rfl tysOk ⟨K_spec_l01In, K_spec_ModeOk, K_spec_IsName, trivial⟩ Tryz.func129 (by decide) rfl (fun _ h => by cases h) (nilEq_of (by kernel_rfl)))
def spec_StepsOk_L0 : (Int × (Int × ((List D_Step) × ((List D_Step) × Unit)))) → Option (Out (Int × (Int × ((List D_Step) × ((List D_Step) × Unit)))) ((Bool × (Int × (Int × ((List D_Step) × ((List D_Step) × Unit))))) ⊕ Empty) (Bool × Unit)) :=
  (fun v0 => (if (ltZ v0.1 v0.2.1) = true then (Option.bind (getI v0.2.2.1 v0.1) fun v1 => (Option.bind ((Option.bind (spec_l01In (v1.1, (0, (60, ()))) ()) fun v2 => (some v2.1)) : (Option Bool)) fun v3 => (Option.bind ((if (notB v3) = true then (some (true, (v0.1, (v0.2.1, (v0.2.2.1, (v0.2.2.2.1, ())))))) else (Option.bind ((Option.bind (spec_l01In (v1.2.1, (0, (20, ()))) ()) fun v4 => (some v4.1)) : (Option Bool)) fun v5 => (Option.bind ((if (notB v5) = true then (some (true, (v0.1, (v0.2.1, (v0.2.2.1, (v0.2.2.2.1, ())))))) else (Option.bind ((if (ltZ 0 v0.1) = true then (Option.bind (getI v0.2.2.2.1 (subZ .i64 v0.1 1)) fun v6 => (some ((leZ v1.1 v6.1), (v0.1, (v0.2.1, (v0.2.2.1, (v0.2.2.2.1, ()))))))) else (some (false, (v0.1, (v0.2.1, (v0.2.2.1, (v0.2.2.2.1, ()))))))) : (Option (Bool × (Int × (Int × ((List D_Step) × ((List D_Step) × Unit))))))) fun v7 => (some (v7.1, (v7.2.1, (v7.2.2.1, (v7.2.2.2.1, (v7.2.2.2.2.1, ())))))))) : (Option (Bool × (Int × (Int × ((List D_Step) × ((List D_Step) × Unit))))))) fun v8 => (some (v8.1, (v8.2.1, (v8.2.2.1, (v8.2.2.2.1, (v8.2.2.2.2.1, ()))))))))) : (Option (Bool × (Int × (Int × ((List D_Step) × ((List D_Step) × Unit))))))) fun v9 => (if v9.1 = true then (some (Out.ret (false, ()))) else (some (Out.norm ((addZ .i64 v9.2.1 1), (v9.2.2.1, (v9.2.2.2.1, (v9.2.2.2.2.1, ())))))))))) else (some (Out.exit (Sum.inl ((ltZ v0.1 v0.2.1), (v0.1, (v0.2.1, (v0.2.2.1, (v0.2.2.2.1, ()))))))))))
def spec_StepsOk (x : ((List D_Step) × Unit)) (c : Unit) : (Option (Bool × Unit)) :=
  (Option.bind (loopN (A := (Int × (Int × ((List D_Step) × ((List D_Step) × Unit))))) big spec_StepsOk_L0 (0, ((lenI x.1), (x.1, (x.1, ()))))) fun v10 => (match v10 with | Out.norm v11 => none | Out.exit v12 => (match ((match v12 with | Sum.inl v19 => (Sum.inl (v19.2.2.2.2.1, ())) | Sum.inr v20 => (Empty.elim v20)) : (((List D_Step) × Unit) ⊕ Empty)) with | Sum.inl v13 => (Option.bind ((Option.bind (spec_l01In ((lenI v13.1), (1, (8, ()))) ()) fun v14 => (some v14.1)) : (Option Bool)) fun v15 => (Option.bind ((if v15 = true then (Option.bind (getI v13.1 0) fun v16 => (some ((eqZ v16.1 0), ()))) else (some (false, ()))) : (Option (Bool × Unit))) fun v17 => (some (v17.1, ())))) | Sum.inr v18 => none) | Out.ret v21 => (some v21)))
def H_spec_StepsOk : Hd := ⟨[.sl 169 (.st [.int .i64, .int .i64])], [], none, .p, .bool, .p, []⟩
def T_spec_StepsOk : FSig := ⟨H_spec_StepsOk.ps, H_spec_StepsOk.cs, H_spec_StepsOk.io, H_spec_StepsOk.im, H_spec_StepsOk.R, H_spec_StepsOk.m, spec_StepsOk⟩
theorem E_spec_StepsOk : fnOf tys [(50, T_spec_l01In)] Tryz.f113 H_spec_StepsOk = T_spec_StepsOk := by kernel_rfl
theorem K_spec_StepsOk : SigB base_ Tryz.prog 113 T_spec_StepsOk := (congrArg (SigB base_ Tryz.prog 113) E_spec_StepsOk).mp (fnOf_ok rfl tysOk ⟨K_spec_l01In, trivial⟩ Tryz.func113 (by decide) rfl (fun _ h => by cases h) (nilEq_of (by kernel_rfl)))
def spec_ResourceOk_L0 : (Int × (Int × ((List Int) × (Int × (Int × ((List (List Int)) × (D_Resource × Unit))))))) → Option (Out (Int × (Int × ((List Int) × (Int × (Int × ((List (List Int)) × (D_Resource × Unit))))))) ((Bool × (Int × (Int × ((List Int) × (Int × (Int × ((List (List Int)) × (D_Resource × Unit)))))))) ⊕ Empty) (Bool × Unit)) :=
  (fun v2 => (if (ltZ v2.1 v2.2.1) = true then (Option.bind (getI v2.2.2.1 v2.1) fun v3 => (Option.bind ((Option.bind (spec_l01In (v3, (0, (12, ()))) ()) fun v4 => (some v4.1)) : (Option Bool)) fun v5 => (if (notB v5) = true then (some (Out.ret (false, ()))) else (some (Out.norm ((addZ .i64 v2.1 1), (v2.2.1, (v2.2.2.1, (v2.2.2.2.1, (v2.2.2.2.2.1, (v2.2.2.2.2.2.1, (v2.2.2.2.2.2.2.1, ())))))))))))) else (some (Out.exit (Sum.inl ((ltZ v2.1 v2.2.1), (v2.1, (v2.2.1, (v2.2.2.1, (v2.2.2.2.1, (v2.2.2.2.2.1, (v2.2.2.2.2.2.1, (v2.2.2.2.2.2.2.1, ())))))))))))))
def spec_ResourceOk_L1 : (Int × (Int × ((List (List Int)) × (D_Resource × Unit)))) → Option (Out (Int × (Int × ((List (List Int)) × (D_Resource × Unit)))) ((Bool × (Int × (Int × ((List (List Int)) × (D_Resource × Unit))))) ⊕ Empty) (Bool × Unit)) :=
  (fun v0 => (if (ltZ v0.1 v0.2.1) = true then (Option.bind (getI v0.2.2.1 v0.1) fun v1 => (if (notB (eqZ (lenI v1) 4)) = true then (some (Out.ret (false, ()))) else (Option.bind (loopN (A := (Int × (Int × ((List Int) × (Int × (Int × ((List (List Int)) × (D_Resource × Unit)))))))) big spec_ResourceOk_L0 (0, ((lenI v1), (v1, (v0.1, (v0.2.1, (v0.2.2.1, (v0.2.2.2.1, ())))))))) fun v6 => (match v6 with | Out.norm v7 => none | Out.exit v8 => (match ((match v8 with | Sum.inl v13 => (Sum.inl (v13.2.2.2.2.1, (v13.2.2.2.2.2.1, (v13.2.2.2.2.2.2.1, (v13.2.2.2.2.2.2.2.1, ()))))) | Sum.inr v14 => (Empty.elim v14)) : ((Int × (Int × ((List (List Int)) × (D_Resource × Unit)))) ⊕ Empty)) with | Sum.inl v9 => (some (Out.norm ((addZ .i64 v9.1 1), (v9.2.1, (v9.2.2.1, (v9.2.2.2.1, ())))))) | Sum.inr v10 => (match ((Empty.elim v10) : ((Int × (Int × ((List (List Int)) × (D_Resource × Unit)))) ⊕ Empty)) with | Sum.inl v11 => (some (Out.norm ((addZ .i64 v11.1 1), (v11.2.1, (v11.2.2.1, (v11.2.2.2.1, ())))))) | Sum.inr v12 => (some (Out.exit (Sum.inr (Empty.elim v12)))))) | Out.ret v15 => (some (Out.ret v15)))))) else (some (Out.exit (Sum.inl ((ltZ v0.1 v0.2.1), (v0.1, (v0.2.1, (v0.2.2.1, (v0.2.2.2.1, ()))))))))))
def spec_ResourceOk (x : (D_Resource × Unit)) (c : Unit) : (Option (Bool × Unit)) :=
  (Option.bind (loopN (A := (Int × (Int × ((List (List Int)) × (D_Resource × Unit))))) big spec_ResourceOk_L1 (0, ((lenI x.1.2.1), (x.1.2.1, (x.1, ()))))) fun v16 => (match v16 with | Out.norm v17 => none | Out.exit v18 => (match ((match v18 with | Sum.inl v25 => (Sum.inl (v25.2.2.2.2.1, ())) | Sum.inr v26 => (Empty.elim v26)) : ((D_Resource × Unit) ⊕ Empty)) with | Sum.inl v19 => (Option.bind ((Option.bind (spec_StepsOk (v19.1.1, ()) ()) fun v20 => (some v20.1)) : (Option Bool)) fun v21 => (Option.bind ((if v21 = true then (Option.bind ((if (eqZ (lenI v19.1.2.1) 0) = true then (some (true, ())) else (some ((eqZ (lenI v19.1.2.1) 4), ()))) : (Option (Bool × Unit))) fun v22 => (some (v22.1, ()))) else (some (false, ()))) : (Option (Bool × Unit))) fun v23 => (some (v23.1, ())))) | Sum.inr v24 => none) | Out.ret v27 => (some v27)))
def H_spec_ResourceOk : Hd := ⟨[.st [.sl 169 (.st [.int .i64, .int .i64]), .sl 25 (.sl 3 (.int .i64))]], [], none, .p, .bool, .p, []⟩
def T_spec_ResourceOk : FSig := ⟨H_spec_ResourceOk.ps, H_spec_ResourceOk.cs, H_spec_ResourceOk.io, H_spec_ResourceOk.im, H_spec_ResourceOk.R, H_spec_ResourceOk.m, spec_ResourceOk⟩
theorem E_spec_ResourceOk : fnOf tys [(50, T_spec_l01In), (113, T_spec_StepsOk)] Tryz.f130 H_spec_ResourceOk = T_spec_ResourceOk := by kernel_rfl
theorem K_spec_ResourceOk : SigB base_ Tryz.prog 130 T_spec_ResourceOk := (congrArg (SigB base_ Tryz.prog 130) E_spec_ResourceOk).mp (fnOf_ok rfl tysOk ⟨K_spec_l01In, K_spec_StepsOk, trivial⟩ Tryz.func130 (by decide) rfl (fun _ h => by cases h) (nilEq_of (by kernel_rfl)))
def spec_ProjectOk_L0 : (Int × (Int × ((List D_Activity) × (D_Project × (Int × Unit))))) → Option (Out (Int × (Int × ((List D_Activity) × (D_Project × (Int × Unit))))) ((Bool × (Int × (Int × ((List D_Activity) × (D_Project × (Int × Unit)))))) ⊕ Empty) (Bool × Unit)) :=
  (fun v8 => (if (ltZ v8.1 v8.2.1) = true then (Option.bind (getI v8.2.2.1 v8.1) fun v9 => (Option.bind ((Option.bind (spec_ActivityOk (v9, ((lenI v8.2.2.2.1.2.2.2.1), ((lenI v8.2.2.2.1.2.2.2.2.1), ()))) ()) fun v10 => (some v10.1)) : (Option Bool)) fun v11 => (Option.bind ((if (notB v11) = true then (some (true, (v8.1, (v8.2.1, (v8.2.2.1, (v8.2.2.2.1, (v8.2.2.2.2.1, ()))))))) else (Option.bind ((Option.bind (spec_ActivityIndex (v8.2.2.2.1, (v9.1, ())) ()) fun v12 => (some v12.1)) : (Option Int)) fun v13 => (some ((notB (eqZ v13 v8.1)), (v8.1, (v8.2.1, (v8.2.2.1, (v8.2.2.2.1, (v8.2.2.2.2.1, ()))))))))) : (Option (Bool × (Int × (Int × ((List D_Activity) × (D_Project × (Int × Unit)))))))) fun v14 => (if v14.1 = true then (some (Out.ret (false, ()))) else (some (Out.norm ((addZ .i64 v14.2.1 1), (v14.2.2.1, (v14.2.2.2.1, (v14.2.2.2.2.1, (v14.2.2.2.2.2.1, ()))))))))))) else (some (Out.exit (Sum.inl ((ltZ v8.1 v8.2.1), (v8.1, (v8.2.1, (v8.2.2.1, (v8.2.2.2.1, (v8.2.2.2.2.1, ())))))))))))
def spec_ProjectOk_L1 : (Int × (Int × ((List D_Resource) × (D_Project × (Int × Unit))))) → Option (Out (Int × (Int × ((List D_Resource) × (D_Project × (Int × Unit))))) ((Bool × (Int × (Int × ((List D_Resource) × (D_Project × (Int × Unit)))))) ⊕ Empty) (Bool × Unit)) :=
  (fun v19 => (if (ltZ v19.1 v19.2.1) = true then (Option.bind (getI v19.2.2.1 v19.1) fun v20 => (Option.bind ((Option.bind (spec_ResourceOk (v20, ()) ()) fun v21 => (some v21.1)) : (Option Bool)) fun v22 => (if (notB v22) = true then (some (Out.ret (false, ()))) else (some (Out.norm ((addZ .i64 v19.1 1), (v19.2.1, (v19.2.2.1, (v19.2.2.2.1, (v19.2.2.2.2.1, ())))))))))) else (some (Out.exit (Sum.inl ((ltZ v19.1 v19.2.1), (v19.1, (v19.2.1, (v19.2.2.1, (v19.2.2.2.1, (v19.2.2.2.2.1, ())))))))))))
def spec_ProjectOk_L2 : (Int × (Int × ((List Int) × (D_Project × (Int × Unit))))) → Option (Out (Int × (Int × ((List Int) × (D_Project × (Int × Unit))))) ((Bool × (Int × (Int × ((List Int) × (D_Project × (Int × Unit)))))) ⊕ Empty) (Bool × Unit)) :=
  (fun v27 => (if (ltZ v27.1 v27.2.1) = true then (Option.bind (getI v27.2.2.1 v27.1) fun v28 => (Option.bind ((Option.bind (spec_l01In (v28, (0, (100, ()))) ()) fun v29 => (some v29.1)) : (Option Bool)) fun v30 => (if (notB v30) = true then (some (Out.ret (false, ()))) else (some (Out.norm ((addZ .i64 v27.1 1), (v27.2.1, (v27.2.2.1, (v27.2.2.2.1, (v27.2.2.2.2.1, ())))))))))) else (some (Out.exit (Sum.inl ((ltZ v27.1 v27.2.1), (v27.1, (v27.2.1, (v27.2.2.1, (v27.2.2.2.1, (v27.2.2.2.2.1, ())))))))))))
def spec_ProjectOk_L3 : (Int × (Int × ((List D_Link) × (Int × Unit)))) → Option (Out (Int × (Int × ((List D_Link) × (Int × Unit)))) ((Bool × (Int × (Int × ((List D_Link) × (Int × Unit))))) ⊕ Empty) (Bool × Unit)) :=
  (fun v35 => (if (ltZ v35.1 v35.2.1) = true then (Option.bind (getI v35.2.2.1 v35.1) fun v36 => (Option.bind ((Option.bind (spec_l01In (v36.1, (0, ((subZ .i64 v35.2.2.2.1 1), ()))) ()) fun v37 => (some v37.1)) : (Option Bool)) fun v38 => (Option.bind ((if (notB v38) = true then (some (true, (v35.1, (v35.2.1, (v35.2.2.1, (v35.2.2.2.1, ())))))) else (Option.bind ((Option.bind (spec_l01In (v36.2.1, (0, ((subZ .i64 v35.2.2.2.1 1), ()))) ()) fun v39 => (some v39.1)) : (Option Bool)) fun v40 => (Option.bind ((if (notB v40) = true then (some (true, (v35.1, (v35.2.1, (v35.2.2.1, (v35.2.2.2.1, ())))))) else (Option.bind ((if (eqZ v36.1 v36.2.1) = true then (some (true, (v35.1, (v35.2.1, (v35.2.2.1, (v35.2.2.2.1, ())))))) else (Option.bind ((Option.bind (spec_l01In (v36.2.2.2.1, ((-60), (60, ()))) ()) fun v41 => (some v41.1)) : (Option Bool)) fun v42 => (some ((notB v42), (v35.1, (v35.2.1, (v35.2.2.1, (v35.2.2.2.1, ())))))))) : (Option (Bool × (Int × (Int × ((List D_Link) × (Int × Unit))))))) fun v43 => (some (v43.1, (v43.2.1, (v43.2.2.1, (v43.2.2.2.1, (v43.2.2.2.2.1, ())))))))) : (Option (Bool × (Int × (Int × ((List D_Link) × (Int × Unit))))))) fun v44 => (some (v44.1, (v44.2.1, (v44.2.2.1, (v44.2.2.2.1, (v44.2.2.2.2.1, ()))))))))) : (Option (Bool × (Int × (Int × ((List D_Link) × (Int × Unit))))))) fun v45 => (if v45.1 = true then (some (Out.ret (false, ()))) else (some (Out.norm ((addZ .i64 v45.2.1 1), (v45.2.2.1, (v45.2.2.2.1, (v45.2.2.2.2.1, ())))))))))) else (some (Out.exit (Sum.inl ((ltZ v35.1 v35.2.1), (v35.1, (v35.2.1, (v35.2.2.1, (v35.2.2.2.1, ()))))))))))
def spec_ProjectOk (x : (D_Project × Unit)) (c : Unit) : (Option (Bool × Unit)) :=
  (Option.bind ((Option.bind (spec_l01In (x.1.1, (1, (60, ()))) ()) fun v0 => (some v0.1)) : (Option Bool)) fun v1 => (Option.bind ((if (notB v1) = true then (some (true, (x.1, ((lenI x.1.2.1), ())))) else (Option.bind ((Option.bind (spec_l01In ((lenI x.1.2.1), (1, (6, ()))) ()) fun v2 => (some v2.1)) : (Option Bool)) fun v3 => (Option.bind ((if (notB v3) = true then (some (true, (x.1, ((lenI x.1.2.1), ())))) else (Option.bind ((if (ltZ 3 (lenI x.1.2.2.2.1)) = true then (some (true, (x.1, ((lenI x.1.2.1), ())))) else (Option.bind ((if (ltZ 2 (lenI x.1.2.2.2.2.1)) = true then (some (true, (x.1, ((lenI x.1.2.1), ())))) else (some ((ltZ 12 (lenI x.1.2.2.1)), (x.1, ((lenI x.1.2.1), ()))))) : (Option (Bool × (D_Project × (Int × Unit))))) fun v4 => (some (v4.1, (v4.2.1, (v4.2.2.1, ())))))) : (Option (Bool × (D_Project × (Int × Unit))))) fun v5 => (some (v5.1, (v5.2.1, (v5.2.2.1, ())))))) : (Option (Bool × (D_Project × (Int × Unit))))) fun v6 => (some (v6.1, (v6.2.1, (v6.2.2.1, ()))))))) : (Option (Bool × (D_Project × (Int × Unit))))) fun v7 => (if v7.1 = true then (some (false, ())) else (Option.bind (loopN (A := (Int × (Int × ((List D_Activity) × (D_Project × (Int × Unit)))))) big spec_ProjectOk_L0 (0, ((lenI v7.2.1.2.1), (v7.2.1.2.1, (v7.2.1, (v7.2.2.1, ())))))) fun v15 => (match v15 with | Out.norm v16 => none | Out.exit v17 => (match ((match v17 with | Sum.inl v63 => (Sum.inl (v63.2.2.2.2.1, (v63.2.2.2.2.2.1, ()))) | Sum.inr v64 => (Empty.elim v64)) : ((D_Project × (Int × Unit)) ⊕ Empty)) with | Sum.inl v18 => (Option.bind (loopN (A := (Int × (Int × ((List D_Resource) × (D_Project × (Int × Unit)))))) big spec_ProjectOk_L1 (0, ((lenI v18.1.2.2.2.1), (v18.1.2.2.2.1, (v18.1, (v18.2.1, ())))))) fun v23 => (match v23 with | Out.norm v24 => none | Out.exit v25 => (match ((match v25 with | Sum.inl v59 => (Sum.inl (v59.2.2.2.2.1, (v59.2.2.2.2.2.1, ()))) | Sum.inr v60 => (Empty.elim v60)) : ((D_Project × (Int × Unit)) ⊕ Empty)) with | Sum.inl v26 => (Option.bind (loopN (A := (Int × (Int × ((List Int) × (D_Project × (Int × Unit)))))) big spec_ProjectOk_L2 (0, ((lenI v26.1.2.2.2.2.1), (v26.1.2.2.2.2.1, (v26.1, (v26.2.1, ())))))) fun v31 => (match v31 with | Out.norm v32 => none | Out.exit v33 => (match ((match v33 with | Sum.inl v55 => (Sum.inl (v55.2.2.2.2.1, (v55.2.2.2.2.2.1, ()))) | Sum.inr v56 => (Empty.elim v56)) : ((D_Project × (Int × Unit)) ⊕ Empty)) with | Sum.inl v34 => (Option.bind (loopN (A := (Int × (Int × ((List D_Link) × (Int × Unit))))) big spec_ProjectOk_L3 (0, ((lenI v34.1.2.2.1), (v34.1.2.2.1, (v34.2.1, ()))))) fun v46 => (match v46 with | Out.norm v47 => none | Out.exit v48 => (match ((match v48 with | Sum.inl v51 => (Sum.inl ()) | Sum.inr v52 => (Empty.elim v52)) : (Unit ⊕ Empty)) with | Sum.inl v49 => (some (true, ())) | Sum.inr v50 => none) | Out.ret v53 => (some v53))) | Sum.inr v54 => none) | Out.ret v57 => (some v57))) | Sum.inr v58 => none) | Out.ret v61 => (some v61))) | Sum.inr v62 => none) | Out.ret v65 => (some v65))))))
def H_spec_ProjectOk : Hd := ⟨[.st [.int .i64, .sl 92 (.st [.str, .int .i64, .sl 158 (.st [.int .i64, .sl 3 (.int .i64), .sl 3 (.int .i64)])]), .sl 163 (.st [.int .i64, .int .i64, .bool, .int .i64]), .sl 104 (.st [.sl 169 (.st [.int .i64, .int .i64]), .sl 25 (.sl 3 (.int .i64))]), .sl 3 (.int .i64)]], [], none, .p, .bool, .p, []⟩
def T_spec_ProjectOk : FSig := ⟨H_spec_ProjectOk.ps, H_spec_ProjectOk.cs, H_spec_ProjectOk.io, H_spec_ProjectOk.im, H_spec_ProjectOk.R, H_spec_ProjectOk.m, spec_ProjectOk⟩
theorem E_spec_ProjectOk : fnOf tys [(50, T_spec_l01In), (87, T_spec_ActivityIndex), (129, T_spec_ActivityOk), (130, T_spec_ResourceOk)] Tryz.f74 H_spec_ProjectOk = T_spec_ProjectOk := by kernel_rfl
theorem K_spec_ProjectOk : SigB base_ Tryz.prog 74 T_spec_ProjectOk := (congrArg (SigB base_ Tryz.prog 74) E_spec_ProjectOk).mp (fnOf_ok rfl tysOk ⟨K_spec_l01In, K_spec_ActivityIndex, K_spec_ActivityOk, K_spec_ResourceOk, trivial⟩ Tryz.func74 (by decide) rfl (fun _ h => by cases h) (nilEq_of (by kernel_rfl)))
end Go.Proofs.YtholdafohofboaaGreatDoor