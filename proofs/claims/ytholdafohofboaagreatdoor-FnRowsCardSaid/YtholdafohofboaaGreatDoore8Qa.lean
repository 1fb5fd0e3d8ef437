/-
  The functions of this seat as plain Lean functions, and that the program computes them. No condition.
-/
import Derived.Test.YtholdafohofboaaGreatDoorN37
import Derived.Test.YtholdafohofboaaGreatDooreX
import Derived.Test.YtholdafohofboaaGreatDoorProg
import Derived.KernelRfl
namespace Go.Proofs.YtholdafohofboaaGreatDoor
open Go.Abs
set_option linter.unusedVariables false
set_option maxRecDepth 100000
abbrev D_Mode : Type := (Int × ((List Int) × ((List Int) × Unit)))
abbrev D_Activity : Type := ((List UInt8) × (Int × ((List D_Mode) × Unit)))
abbrev D_Link : Type := (Int × (Int × (Bool × (Int × Unit))))
abbrev D_Step : Type := (Int × (Int × Unit))
abbrev D_Resource : Type := ((List D_Step) × ((List (List Int)) × Unit))
abbrev D_Project : Type := (Int × ((List D_Activity) × ((List D_Link) × ((List D_Resource) × ((List Int) × Unit)))))
abbrev D_Schedule : Type := ((List Int) × ((List Int) × Unit))
abbrev D_Domain : Type := ((List Int) × ((List Int) × ((List (List Int)) × Unit)))
abbrev D_Rule : Type := (Int × (Int × D_Step))
abbrev D_l01Cur : Type := ((List Int) × D_Step)
abbrev D_Literal : Type := (Int × D_Step)
theorem tn3 : TnOk Tryz.prog 3 (.int .i64) := ⟨Tryz.underlying3, fun _ h => (by cases h), Tryz.t3, rfl, rfl, fun _ _ => rfl⟩
theorem tn4 : TnOk Tryz.prog 4 (.bool) := ⟨Tryz.underlying4, fun _ h => (by cases h), Tryz.t4, rfl, rfl, fun _ _ => rfl⟩
theorem tn5 : TnOk Tryz.prog 5 (.int .u8) := ⟨Tryz.underlying5, fun _ h => (by cases h), Tryz.t5, rfl, rfl, fun _ _ => rfl⟩
theorem tn9 : TnOk Tryz.prog 9 (.str) := ⟨Tryz.underlying9, fun _ h => (by cases h), Tryz.t9, rfl, rfl, fun _ _ => rfl⟩
theorem tn25 : TnOk Tryz.prog 25 (.sl 3 (.int .i64)) := ⟨⟨Tryz.underlying25, Tryz.t3, _, rfl, rfl, rfl, rfl, by decide, by decide, fun _ _ => rfl, fun k h => by cases h; exact Tryz.underlying3⟩, fun _ h => (by cases h), Tryz.t25, rfl, rfl, fun _ _ => rfl⟩
theorem tn28 : TnOk Tryz.prog 28 (.st [.sl 3 (.int .i64), .sl 3 (.int .i64)]) := ⟨⟨_, Tryz.underlying28, Tryz.eqGuardType28, Tryz.stoodInHeld28, rfl, fun j τ h => by
    cases j with
    | zero => cases h; exact ⟨_, _, rfl, rfl, by decide, by decide, Tryz.underlying25, rfl, fun us h => by cases h⟩
    | succ j =>
     cases j with
     | zero => cases h; exact ⟨_, _, rfl, rfl, by decide, by decide, Tryz.underlying25, rfl, fun us h => by cases h⟩
     | succ j =>
      cases h⟩, (fun us hus fs hfs j τ h f hf => by
    cases hus
    rw [Tryz.underlying28] at hfs
    cases hfs
    cases j with
    | zero => cases h; cases hf; exact ⟨fun k e => (by cases e), fun e => (by cases e), fun e => (by cases e)⟩
    | succ j =>
     cases j with
     | zero => cases h; cases hf; exact ⟨fun k e => (by cases e), fun e => (by cases e), fun e => (by cases e)⟩
     | succ j =>
      cases h), Tryz.t28, rfl, rfl, fun _ _ => rfl⟩
theorem tn32 : TnOk Tryz.prog 32 (.fn [.st [.int .i64, .sl 92 (.st [.str, .int .i64, .sl 158 (.st [.int .i64, .sl 3 (.int .i64), .sl 3 (.int .i64)])]), .sl 163 (.st [.int .i64, .int .i64, .bool, .int .i64]), .sl 104 (.st [.sl 169 (.st [.int .i64, .int .i64]), .sl 25 (.sl 3 (.int .i64))]), .sl 3 (.int .i64)], .st [.sl 3 (.int .i64), .sl 3 (.int .i64)], .int .i64] (.str)) := ⟨⟨_, _, _, Tryz.underlying32⟩, fun _ h => (by cases h), Tryz.t32, rfl, rfl, fun _ h => by cases h⟩
theorem tn33 : TnOk Tryz.prog 33 (.sl 92 (.st [.str, .int .i64, .sl 158 (.st [.int .i64, .sl 3 (.int .i64), .sl 3 (.int .i64)])])) := ⟨⟨Tryz.underlying33, Tryz.t92, _, rfl, rfl, rfl, rfl, by decide, by decide, fun _ _ => rfl, fun k h => by cases h⟩, fun _ h => (by cases h), Tryz.t33, rfl, rfl, fun _ _ => rfl⟩
theorem tn34 : TnOk Tryz.prog 34 (.sl 163 (.st [.int .i64, .int .i64, .bool, .int .i64])) := ⟨⟨Tryz.underlying34, Tryz.t163, _, rfl, rfl, rfl, rfl, by decide, by decide, fun _ _ => rfl, fun k h => by cases h⟩, fun _ h => (by cases h), Tryz.t34, rfl, rfl, fun _ _ => rfl⟩
theorem tn35 : TnOk Tryz.prog 35 (.sl 104 (.st [.sl 169 (.st [.int .i64, .int .i64]), .sl 25 (.sl 3 (.int .i64))])) := ⟨⟨Tryz.underlying35, Tryz.t104, _, rfl, rfl, rfl, rfl, by decide, by decide, fun _ _ => rfl, fun k h => by cases h⟩, fun _ h => (by cases h), Tryz.t35, rfl, rfl, fun _ _ => rfl⟩
theorem tn36 : TnOk Tryz.prog 36 (.st [.int .i64, .sl 92 (.st [.str, .int .i64, .sl 158 (.st [.int .i64, .sl 3 (.int .i64), .sl 3 (.int .i64)])]), .sl 163 (.st [.int .i64, .int .i64, .bool, .int .i64]), .sl 104 (.st [.sl 169 (.st [.int .i64, .int .i64]), .sl 25 (.sl 3 (.int .i64))]), .sl 3 (.int .i64)]) := ⟨⟨_, Tryz.underlying36, Tryz.eqGuardType36, Tryz.stoodInHeld36, rfl, fun j τ h => by
    cases j with
    | zero => cases h; exact ⟨_, _, rfl, rfl, by decide, by decide, Tryz.underlying3, rfl, fun us h => by cases h⟩
    | succ j =>
     cases j with
     | zero => cases h; exact ⟨_, _, rfl, rfl, by decide, by decide, Tryz.underlying33, rfl, fun us h => by cases h⟩
     | succ j =>
      cases j with
      | zero => cases h; exact ⟨_, _, rfl, rfl, by decide, by decide, Tryz.underlying34, rfl, fun us h => by cases h⟩
      | succ j =>
       cases j with
       | zero => cases h; exact ⟨_, _, rfl, rfl, by decide, by decide, Tryz.underlying35, rfl, fun us h => by cases h⟩
       | succ j =>
        cases j with
        | zero => cases h; exact ⟨_, _, rfl, rfl, by decide, by decide, Tryz.underlying25, rfl, fun us h => by cases h⟩
        | succ j =>
         cases h⟩, (fun us hus fs hfs j τ h f hf => by
    cases hus
    rw [Tryz.underlying36] at hfs
    cases hfs
    cases j with
    | zero => cases h; cases hf; exact ⟨fun k e => by cases e; exact Tryz.underlying3, fun e => (by cases e), fun e => (by cases e)⟩
    | succ j =>
     cases j with
     | zero => cases h; cases hf; exact ⟨fun k e => (by cases e), fun e => (by cases e), fun e => (by cases e)⟩
     | succ j =>
      cases j with
      | zero => cases h; cases hf; exact ⟨fun k e => (by cases e), fun e => (by cases e), fun e => (by cases e)⟩
      | succ j =>
       cases j with
       | zero => cases h; cases hf; exact ⟨fun k e => (by cases e), fun e => (by cases e), fun e => (by cases e)⟩
       | succ j =>
        cases j with
        | zero => cases h; cases hf; exact ⟨fun k e => (by cases e), fun e => (by cases e), fun e => (by cases e)⟩
        | succ j =>
         cases h), Tryz.t36, rfl, rfl, fun _ _ => rfl⟩
theorem tn37 : TnOk Tryz.prog 37 (.st [.int .i64, .sl 92 (.st [.str, .int .i64, .sl 158 (.st [.int .i64, .sl 3 (.int .i64), .sl 3 (.int .i64)])]), .sl 163 (.st [.int .i64, .int .i64, .bool, .int .i64]), .sl 104 (.st [.sl 169 (.st [.int .i64, .int .i64]), .sl 25 (.sl 3 (.int .i64))]), .sl 3 (.int .i64)]) := ⟨⟨_, Tryz.underlying37, Tryz.eqGuardType37, Tryz.stoodInHeld37, rfl, fun j τ h => by
    cases j with
    | zero => cases h; exact ⟨_, _, rfl, rfl, by decide, by decide, Tryz.underlying3, rfl, fun us h => by cases h⟩
    | succ j =>
     cases j with
     | zero => cases h; exact ⟨_, _, rfl, rfl, by decide, by decide, Tryz.underlying33, rfl, fun us h => by cases h⟩
     | succ j =>
      cases j with
      | zero => cases h; exact ⟨_, _, rfl, rfl, by decide, by decide, Tryz.underlying34, rfl, fun us h => by cases h⟩
      | succ j =>
       cases j with
       | zero => cases h; exact ⟨_, _, rfl, rfl, by decide, by decide, Tryz.underlying35, rfl, fun us h => by cases h⟩
       | succ j =>
        cases j with
        | zero => cases h; exact ⟨_, _, rfl, rfl, by decide, by decide, Tryz.underlying25, rfl, fun us h => by cases h⟩
        | succ j =>
         cases h⟩, (fun us hus fs hfs j τ h f hf => by
    cases hus
    rw [Tryz.underlying37] at hfs
    cases hfs
    cases j with
    | zero => cases h; cases hf; exact ⟨fun k e => by cases e; exact Tryz.underlying3, fun e => (by cases e), fun e => (by cases e)⟩
    | succ j =>
     cases j with
     | zero => cases h; cases hf; exact ⟨fun k e => (by cases e), fun e => (by cases e), fun e => (by cases e)⟩
     | succ j =>
      cases j with
      | zero => cases h; cases hf; exact ⟨fun k e => (by cases e), fun e => (by cases e), fun e => (by cases e)⟩
      | succ j =>
       cases j with
       | zero => cases h; cases hf; exact ⟨fun k e => (by cases e), fun e => (by cases e), fun e => (by cases e)⟩
       | succ j =>
        cases j with
        | zero => cases h; cases hf; exact ⟨fun k e => (by cases e), fun e => (by cases e), fun e => (by cases e)⟩
        | succ j =>
         cases h), Tryz.t37, rfl, rfl, fun _ _ => rfl⟩
theorem tn39 : TnOk Tryz.prog 39 (.st [.sl 3 (.int .i64), .sl 3 (.int .i64)]) := ⟨⟨_, Tryz.underlying39, Tryz.eqGuardType39, Tryz.stoodInHeld39, rfl, fun j τ h => by
    cases j with
    | zero => cases h; exact ⟨_, _, rfl, rfl, by decide, by decide, Tryz.underlying25, rfl, fun us h => by cases h⟩
    | succ j =>
     cases j with
     | zero => cases h; exact ⟨_, _, rfl, rfl, by decide, by decide, Tryz.underlying25, rfl, fun us h => by cases h⟩
     | succ j =>
      cases h⟩, (fun us hus fs hfs j τ h f hf => by
    cases hus
    rw [Tryz.underlying39] at hfs
    cases hfs
    cases j with
    | zero => cases h; cases hf; exact ⟨fun k e => (by cases e), fun e => (by cases e), fun e => (by cases e)⟩
    | succ j =>
     cases j with
     | zero => cases h; cases hf; exact ⟨fun k e => (by cases e), fun e => (by cases e), fun e => (by cases e)⟩
     | succ j =>
      cases h), Tryz.t39, rfl, rfl, fun _ _ => rfl⟩
theorem tn44 : TnOk Tryz.prog 44 (.sl 9 (.str)) := ⟨⟨Tryz.underlying44, Tryz.t9, _, rfl, rfl, rfl, rfl, by decide, by decide, fun _ _ => rfl, fun k h => by cases h⟩, fun _ h => (by cases h), Tryz.t44, rfl, rfl, fun _ _ => rfl⟩
theorem tn45 : TnOk Tryz.prog 45 (.fn [.st [.int .i64, .sl 92 (.st [.str, .int .i64, .sl 158 (.st [.int .i64, .sl 3 (.int .i64), .sl 3 (.int .i64)])]), .sl 163 (.st [.int .i64, .int .i64, .bool, .int .i64]), .sl 104 (.st [.sl 169 (.st [.int .i64, .int .i64]), .sl 25 (.sl 3 (.int .i64))]), .sl 3 (.int .i64)], .st [.sl 3 (.int .i64), .sl 3 (.int .i64)]] (.sl 9 (.str))) := ⟨⟨_, _, _, Tryz.underlying45⟩, fun _ h => (by cases h), Tryz.t45, rfl, rfl, fun _ h => by cases h⟩
theorem tn48 : TnOk Tryz.prog 48 (.fn [.st [.sl 3 (.int .i64), .sl 3 (.int .i64)], .int .i64] (.int .i64)) := ⟨⟨_, _, _, Tryz.underlying48⟩, fun _ h => (by cases h), Tryz.t48, rfl, rfl, fun _ h => by cases h⟩
theorem tn77 : TnOk Tryz.prog 77 (.sl 5 (.int .u8)) := ⟨⟨Tryz.underlying77, Tryz.t5, _, rfl, rfl, rfl, rfl, by decide, by decide, fun _ _ => rfl, fun k h => by cases h; exact Tryz.underlying5⟩, fun _ h => (by cases h), Tryz.t77, rfl, rfl, fun _ _ => rfl⟩
theorem tn78 : TnOk Tryz.prog 78 (.fn [.sl 5 (.int .u8)] (.st [.int .i64, .sl 92 (.st [.str, .int .i64, .sl 158 (.st [.int .i64, .sl 3 (.int .i64), .sl 3 (.int .i64)])]), .sl 163 (.st [.int .i64, .int .i64, .bool, .int .i64]), .sl 104 (.st [.sl 169 (.st [.int .i64, .int .i64]), .sl 25 (.sl 3 (.int .i64))]), .sl 3 (.int .i64)])) := ⟨⟨_, _, _, Tryz.underlying78⟩, fun _ h => (by cases h), Tryz.t78, rfl, rfl, fun _ h => by cases h⟩
theorem tn79 : TnOk Tryz.prog 79 (.fn [.sl 5 (.int .u8), .st [.int .i64, .sl 92 (.st [.str, .int .i64, .sl 158 (.st [.int .i64, .sl 3 (.int .i64), .sl 3 (.int .i64)])]), .sl 163 (.st [.int .i64, .int .i64, .bool, .int .i64]), .sl 104 (.st [.sl 169 (.st [.int .i64, .int .i64]), .sl 25 (.sl 3 (.int .i64))]), .sl 3 (.int .i64)]] (.st [.sl 3 (.int .i64), .sl 3 (.int .i64)])) := ⟨⟨_, _, _, Tryz.underlying79⟩, fun _ h => (by cases h), Tryz.t79, rfl, rfl, fun _ h => by cases h⟩
theorem tn80 : TnOk Tryz.prog 80 (.sl 25 (.sl 3 (.int .i64))) := ⟨⟨Tryz.underlying80, Tryz.t25, _, rfl, rfl, rfl, rfl, by decide, by decide, fun _ _ => rfl, fun k h => by cases h⟩, fun _ h => (by cases h), Tryz.t80, rfl, rfl, fun _ _ => rfl⟩
theorem tn81 : TnOk Tryz.prog 81 (.st [.sl 3 (.int .i64), .sl 3 (.int .i64), .sl 25 (.sl 3 (.int .i64))]) := ⟨⟨_, Tryz.underlying81, Tryz.eqGuardType81, Tryz.stoodInHeld81, rfl, fun j τ h => by
    cases j with
    | zero => cases h; exact ⟨_, _, rfl, rfl, by decide, by decide, Tryz.underlying25, rfl, fun us h => by cases h⟩
    | succ j =>
     cases j with
     | zero => cases h; exact ⟨_, _, rfl, rfl, by decide, by decide, Tryz.underlying25, rfl, fun us h => by cases h⟩
     | succ j =>
      cases j with
      | zero => cases h; exact ⟨_, _, rfl, rfl, by decide, by decide, Tryz.underlying80, rfl, fun us h => by cases h⟩
      | succ j =>
       cases h⟩, (fun us hus fs hfs j τ h f hf => by
    cases hus
    rw [Tryz.underlying81] at hfs
    cases hfs
    cases j with
    | zero => cases h; cases hf; exact ⟨fun k e => (by cases e), fun e => (by cases e), fun e => (by cases e)⟩
    | succ j =>
     cases j with
     | zero => cases h; cases hf; exact ⟨fun k e => (by cases e), fun e => (by cases e), fun e => (by cases e)⟩
     | succ j =>
      cases j with
      | zero => cases h; cases hf; exact ⟨fun k e => (by cases e), fun e => (by cases e), fun e => (by cases e)⟩
      | succ j =>
       cases h), Tryz.t81, rfl, rfl, fun _ _ => rfl⟩
theorem tn82 : TnOk Tryz.prog 82 (.st [.sl 3 (.int .i64), .sl 3 (.int .i64), .sl 25 (.sl 3 (.int .i64))]) := ⟨⟨_, Tryz.underlying82, Tryz.eqGuardType82, Tryz.stoodInHeld82, rfl, fun j τ h => by
    cases j with
    | zero => cases h; exact ⟨_, _, rfl, rfl, by decide, by decide, Tryz.underlying25, rfl, fun us h => by cases h⟩
    | succ j =>
     cases j with
     | zero => cases h; exact ⟨_, _, rfl, rfl, by decide, by decide, Tryz.underlying25, rfl, fun us h => by cases h⟩
     | succ j =>
      cases j with
      | zero => cases h; exact ⟨_, _, rfl, rfl, by decide, by decide, Tryz.underlying80, rfl, fun us h => by cases h⟩
      | succ j =>
       cases h⟩, (fun us hus fs hfs j τ h f hf => by
    cases hus
    rw [Tryz.underlying82] at hfs
    cases hfs
    cases j with
    | zero => cases h; cases hf; exact ⟨fun k e => (by cases e), fun e => (by cases e), fun e => (by cases e)⟩
    | succ j =>
     cases j with
     | zero => cases h; cases hf; exact ⟨fun k e => (by cases e), fun e => (by cases e), fun e => (by cases e)⟩
     | succ j =>
      cases j with
      | zero => cases h; cases hf; exact ⟨fun k e => (by cases e), fun e => (by cases e), fun e => (by cases e)⟩
      | succ j =>
       cases h), Tryz.t82, rfl, rfl, fun _ _ => rfl⟩
theorem tn83 : TnOk Tryz.prog 83 (.fn [.sl 5 (.int .u8), .st [.int .i64, .sl 92 (.st [.str, .int .i64, .sl 158 (.st [.int .i64, .sl 3 (.int .i64), .sl 3 (.int .i64)])]), .sl 163 (.st [.int .i64, .int .i64, .bool, .int .i64]), .sl 104 (.st [.sl 169 (.st [.int .i64, .int .i64]), .sl 25 (.sl 3 (.int .i64))]), .sl 3 (.int .i64)]] (.st [.sl 3 (.int .i64), .sl 3 (.int .i64), .sl 25 (.sl 3 (.int .i64))])) := ⟨⟨_, _, _, Tryz.underlying83⟩, fun _ h => (by cases h), Tryz.t83, rfl, rfl, fun _ h => by cases h⟩
theorem tn84 : TnOk Tryz.prog 84 (.fn [.st [.int .i64, .sl 92 (.st [.str, .int .i64, .sl 158 (.st [.int .i64, .sl 3 (.int .i64), .sl 3 (.int .i64)])]), .sl 163 (.st [.int .i64, .int .i64, .bool, .int .i64]), .sl 104 (.st [.sl 169 (.st [.int .i64, .int .i64]), .sl 25 (.sl 3 (.int .i64))]), .sl 3 (.int .i64)], .st [.sl 3 (.int .i64), .sl 3 (.int .i64), .sl 25 (.sl 3 (.int .i64))], .int .i64] (.str)) := ⟨⟨_, _, _, Tryz.underlying84⟩, fun _ h => (by cases h), Tryz.t84, rfl, rfl, fun _ h => by cases h⟩
theorem tn85 : TnOk Tryz.prog 85 (.fn [.st [.int .i64, .sl 92 (.st [.str, .int .i64, .sl 158 (.st [.int .i64, .sl 3 (.int .i64), .sl 3 (.int .i64)])]), .sl 163 (.st [.int .i64, .int .i64, .bool, .int .i64]), .sl 104 (.st [.sl 169 (.st [.int .i64, .int .i64]), .sl 25 (.sl 3 (.int .i64))]), .sl 3 (.int .i64)], .st [.sl 3 (.int .i64), .sl 3 (.int .i64)], .st [.int .i64, .int .i64, .int .i64, .int .i64]] (.bool)) := ⟨⟨_, _, _, Tryz.underlying85⟩, fun _ h => (by cases h), Tryz.t85, rfl, rfl, fun _ h => by cases h⟩
theorem tn86 : TnOk Tryz.prog 86 (.st [.int .i64, .int .i64, .int .i64, .int .i64]) := ⟨⟨_, Tryz.underlying86, Tryz.eqGuardType86, Tryz.stoodInHeld86, rfl, fun j τ h => by
    cases j with
    | zero => cases h; exact ⟨_, _, rfl, rfl, by decide, by decide, Tryz.underlying3, rfl, fun us h => by cases h⟩
    | succ j =>
     cases j with
     | zero => cases h; exact ⟨_, _, rfl, rfl, by decide, by decide, Tryz.underlying3, rfl, fun us h => by cases h⟩
     | succ j =>
      cases j with
      | zero => cases h; exact ⟨_, _, rfl, rfl, by decide, by decide, Tryz.underlying3, rfl, fun us h => by cases h⟩
      | succ j =>
       cases j with
       | zero => cases h; exact ⟨_, _, rfl, rfl, by decide, by decide, Tryz.underlying3, rfl, fun us h => by cases h⟩
       | succ j =>
        cases h⟩, (fun us hus fs hfs j τ h f hf => by
    cases hus
    rw [Tryz.underlying86] at hfs
    cases hfs
    cases j with
    | zero => cases h; cases hf; exact ⟨fun k e => by cases e; exact Tryz.underlying3, fun e => (by cases e), fun e => (by cases e)⟩
    | succ j =>
     cases j with
     | zero => cases h; cases hf; exact ⟨fun k e => by cases e; exact Tryz.underlying3, fun e => (by cases e), fun e => (by cases e)⟩
     | succ j =>
      cases j with
      | zero => cases h; cases hf; exact ⟨fun k e => by cases e; exact Tryz.underlying3, fun e => (by cases e), fun e => (by cases e)⟩
      | succ j =>
       cases j with
       | zero => cases h; cases hf; exact ⟨fun k e => by cases e; exact Tryz.underlying3, fun e => (by cases e), fun e => (by cases e)⟩
       | succ j =>
        cases h), Tryz.t86, rfl, rfl, fun _ _ => rfl⟩
theorem tn87 : TnOk Tryz.prog 87 (.st [.int .i64, .int .i64, .int .i64, .int .i64]) := ⟨⟨_, Tryz.underlying87, Tryz.eqGuardType87, Tryz.stoodInHeld87, rfl, fun j τ h => by
    cases j with
    | zero => cases h; exact ⟨_, _, rfl, rfl, by decide, by decide, Tryz.underlying3, rfl, fun us h => by cases h⟩
    | succ j =>
     cases j with
     | zero => cases h; exact ⟨_, _, rfl, rfl, by decide, by decide, Tryz.underlying3, rfl, fun us h => by cases h⟩
     | succ j =>
      cases j with
      | zero => cases h; exact ⟨_, _, rfl, rfl, by decide, by decide, Tryz.underlying3, rfl, fun us h => by cases h⟩
      | succ j =>
       cases j with
       | zero => cases h; exact ⟨_, _, rfl, rfl, by decide, by decide, Tryz.underlying3, rfl, fun us h => by cases h⟩
       | succ j =>
        cases h⟩, (fun us hus fs hfs j τ h f hf => by
    cases hus
    rw [Tryz.underlying87] at hfs
    cases hfs
    cases j with
    | zero => cases h; cases hf; exact ⟨fun k e => by cases e; exact Tryz.underlying3, fun e => (by cases e), fun e => (by cases e)⟩
    | succ j =>
     cases j with
     | zero => cases h; cases hf; exact ⟨fun k e => by cases e; exact Tryz.underlying3, fun e => (by cases e), fun e => (by cases e)⟩
     | succ j =>
      cases j with
      | zero => cases h; cases hf; exact ⟨fun k e => by cases e; exact Tryz.underlying3, fun e => (by cases e), fun e => (by cases e)⟩
      | succ j =>
       cases j with
       | zero => cases h; cases hf; exact ⟨fun k e => by cases e; exact Tryz.underlying3, fun e => (by cases e), fun e => (by cases e)⟩
       | succ j =>
        cases h), Tryz.t87, rfl, rfl, fun _ _ => rfl⟩
theorem tn88 : TnOk Tryz.prog 88 (.fn [.sl 3 (.int .i64), .int .i64] (.bool)) := ⟨⟨_, _, _, Tryz.underlying88⟩, fun _ h => (by cases h), Tryz.t88, rfl, rfl, fun _ h => by cases h⟩
theorem tn89 : TnOk Tryz.prog 89 (.fn [.st [.int .i64, .sl 92 (.st [.str, .int .i64, .sl 158 (.st [.int .i64, .sl 3 (.int .i64), .sl 3 (.int .i64)])]), .sl 163 (.st [.int .i64, .int .i64, .bool, .int .i64]), .sl 104 (.st [.sl 169 (.st [.int .i64, .int .i64]), .sl 25 (.sl 3 (.int .i64))]), .sl 3 (.int .i64)], .st [.sl 3 (.int .i64), .sl 3 (.int .i64)], .int .i64] (.sl 3 (.int .i64))) := ⟨⟨_, _, _, Tryz.underlying89⟩, fun _ h => (by cases h), Tryz.t89, rfl, rfl, fun _ h => by cases h⟩
theorem tn90 : TnOk Tryz.prog 90 (.sl 158 (.st [.int .i64, .sl 3 (.int .i64), .sl 3 (.int .i64)])) := ⟨⟨Tryz.underlying90, Tryz.t158, _, rfl, rfl, rfl, rfl, by decide, by decide, fun _ _ => rfl, fun k h => by cases h⟩, fun _ h => (by cases h), Tryz.t90, rfl, rfl, fun _ _ => rfl⟩
theorem tn91 : TnOk Tryz.prog 91 (.st [.str, .int .i64, .sl 158 (.st [.int .i64, .sl 3 (.int .i64), .sl 3 (.int .i64)])]) := ⟨⟨_, Tryz.underlying91, Tryz.eqGuardType91, Tryz.stoodInHeld91, rfl, fun j τ h => by
    cases j with
    | zero => cases h; exact ⟨_, _, rfl, rfl, by decide, by decide, Tryz.underlying9, rfl, fun us h => by cases h⟩
    | succ j =>
     cases j with
     | zero => cases h; exact ⟨_, _, rfl, rfl, by decide, by decide, Tryz.underlying3, rfl, fun us h => by cases h⟩
     | succ j =>
      cases j with
      | zero => cases h; exact ⟨_, _, rfl, rfl, by decide, by decide, Tryz.underlying90, rfl, fun us h => by cases h⟩
      | succ j =>
       cases h⟩, (fun us hus fs hfs j τ h f hf => by
    cases hus
    rw [Tryz.underlying91] at hfs
    cases hfs
    cases j with
    | zero => cases h; cases hf; exact ⟨fun k e => (by cases e), fun e => (by cases e), fun _ => Tryz.underlying9⟩
    | succ j =>
     cases j with
     | zero => cases h; cases hf; exact ⟨fun k e => by cases e; exact Tryz.underlying3, fun e => (by cases e), fun e => (by cases e)⟩
     | succ j =>
      cases j with
      | zero => cases h; cases hf; exact ⟨fun k e => (by cases e), fun e => (by cases e), fun e => (by cases e)⟩
      | succ j =>
       cases h), Tryz.t91, rfl, rfl, fun _ _ => rfl⟩
theorem tn92 : TnOk Tryz.prog 92 (.st [.str, .int .i64, .sl 158 (.st [.int .i64, .sl 3 (.int .i64), .sl 3 (.int .i64)])]) := ⟨⟨_, Tryz.underlying92, Tryz.eqGuardType92, Tryz.stoodInHeld92, rfl, fun j τ h => by
    cases j with
    | zero => cases h; exact ⟨_, _, rfl, rfl, by decide, by decide, Tryz.underlying9, rfl, fun us h => by cases h⟩
    | succ j =>
     cases j with
     | zero => cases h; exact ⟨_, _, rfl, rfl, by decide, by decide, Tryz.underlying3, rfl, fun us h => by cases h⟩
     | succ j =>
      cases j with
      | zero => cases h; exact ⟨_, _, rfl, rfl, by decide, by decide, Tryz.underlying90, rfl, fun us h => by cases h⟩
      | succ j =>
       cases h⟩, (fun us hus fs hfs j τ h f hf => by
    cases hus
    rw [Tryz.underlying92] at hfs
    cases hfs
    cases j with
    | zero => cases h; cases hf; exact ⟨fun k e => (by cases e), fun e => (by cases e), fun _ => Tryz.underlying9⟩
    | succ j =>
     cases j with
     | zero => cases h; cases hf; exact ⟨fun k e => by cases e; exact Tryz.underlying3, fun e => (by cases e), fun e => (by cases e)⟩
     | succ j =>
      cases j with
      | zero => cases h; cases hf; exact ⟨fun k e => (by cases e), fun e => (by cases e), fun e => (by cases e)⟩
      | succ j =>
       cases h), Tryz.t92, rfl, rfl, fun _ _ => rfl⟩
theorem tn93 : TnOk Tryz.prog 93 (.fn [.sl 5 (.int .u8)] (.bool)) := ⟨⟨_, _, _, Tryz.underlying93⟩, fun _ h => (by cases h), Tryz.t93, rfl, rfl, fun _ h => by cases h⟩
theorem tn97 : TnOk Tryz.prog 97 (.fn [.sl 3 (.int .i64), .int .i64] (.int .i64)) := ⟨⟨_, _, _, Tryz.underlying97⟩, fun _ h => (by cases h), Tryz.t97, rfl, rfl, fun _ h => by cases h⟩
theorem tn98 : TnOk Tryz.prog 98 (.fn [.st [.int .i64, .sl 92 (.st [.str, .int .i64, .sl 158 (.st [.int .i64, .sl 3 (.int .i64), .sl 3 (.int .i64)])]), .sl 163 (.st [.int .i64, .int .i64, .bool, .int .i64]), .sl 104 (.st [.sl 169 (.st [.int .i64, .int .i64]), .sl 25 (.sl 3 (.int .i64))]), .sl 3 (.int .i64)], .st [.sl 3 (.int .i64), .sl 3 (.int .i64)]] (.bool)) := ⟨⟨_, _, _, Tryz.underlying98⟩, fun _ h => (by cases h), Tryz.t98, rfl, rfl, fun _ h => by cases h⟩
theorem tn99 : TnOk Tryz.prog 99 (.fn [.int .i64, .int .i64, .int .i64] (.bool)) := ⟨⟨_, _, _, Tryz.underlying99⟩, fun _ h => (by cases h), Tryz.t99, rfl, rfl, fun _ h => by cases h⟩
theorem tn101 : TnOk Tryz.prog 101 (.fn [.sl 169 (.st [.int .i64, .int .i64]), .int .i64] (.int .i64)) := ⟨⟨_, _, _, Tryz.underlying101⟩, fun _ h => (by cases h), Tryz.t101, rfl, rfl, fun _ h => by cases h⟩
theorem tn102 : TnOk Tryz.prog 102 (.sl 169 (.st [.int .i64, .int .i64])) := ⟨⟨Tryz.underlying102, Tryz.t169, _, rfl, rfl, rfl, rfl, by decide, by decide, fun _ _ => rfl, fun k h => by cases h⟩, fun _ h => (by cases h), Tryz.t102, rfl, rfl, fun _ _ => rfl⟩
theorem tn103 : TnOk Tryz.prog 103 (.st [.sl 169 (.st [.int .i64, .int .i64]), .sl 25 (.sl 3 (.int .i64))]) := ⟨⟨_, Tryz.underlying103, Tryz.eqGuardType103, Tryz.stoodInHeld103, rfl, fun j τ h => by
    cases j with
    | zero => cases h; exact ⟨_, _, rfl, rfl, by decide, by decide, Tryz.underlying102, rfl, fun us h => by cases h⟩
    | succ j =>
     cases j with
     | zero => cases h; exact ⟨_, _, rfl, rfl, by decide, by decide, Tryz.underlying80, rfl, fun us h => by cases h⟩
     | succ j =>
      cases h⟩, (fun us hus fs hfs j τ h f hf => by
    cases hus
    rw [Tryz.underlying103] at hfs
    cases hfs
    cases j with
    | zero => cases h; cases hf; exact ⟨fun k e => (by cases e), fun e => (by cases e), fun e => (by cases e)⟩
    | succ j =>
     cases j with
     | zero => cases h; cases hf; exact ⟨fun k e => (by cases e), fun e => (by cases e), fun e => (by cases e)⟩
     | succ j =>
      cases h), Tryz.t103, rfl, rfl, fun _ _ => rfl⟩
theorem tn104 : TnOk Tryz.prog 104 (.st [.sl 169 (.st [.int .i64, .int .i64]), .sl 25 (.sl 3 (.int .i64))]) := ⟨⟨_, Tryz.underlying104, Tryz.eqGuardType104, Tryz.stoodInHeld104, rfl, fun j τ h => by
    cases j with
    | zero => cases h; exact ⟨_, _, rfl, rfl, by decide, by decide, Tryz.underlying102, rfl, fun us h => by cases h⟩
    | succ j =>
     cases j with
     | zero => cases h; exact ⟨_, _, rfl, rfl, by decide, by decide, Tryz.underlying80, rfl, fun us h => by cases h⟩
     | succ j =>
      cases h⟩, (fun us hus fs hfs j τ h f hf => by
    cases hus
    rw [Tryz.underlying104] at hfs
    cases hfs
    cases j with
    | zero => cases h; cases hf; exact ⟨fun k e => (by cases e), fun e => (by cases e), fun e => (by cases e)⟩
    | succ j =>
     cases j with
     | zero => cases h; cases hf; exact ⟨fun k e => (by cases e), fun e => (by cases e), fun e => (by cases e)⟩
     | succ j =>
      cases h), Tryz.t104, rfl, rfl, fun _ _ => rfl⟩
theorem tn105 : TnOk Tryz.prog 105 (.fn [.int .i64] (.str)) := ⟨⟨_, _, _, Tryz.underlying105⟩, fun _ h => (by cases h), Tryz.t105, rfl, rfl, fun _ h => by cases h⟩
theorem tn109 : TnOk Tryz.prog 109 (.fn [.sl 3 (.int .i64)] (.sl 3 (.int .i64))) := ⟨⟨_, _, _, Tryz.underlying109⟩, fun _ h => (by cases h), Tryz.t109, rfl, rfl, fun _ h => by cases h⟩
theorem tn110 : TnOk Tryz.prog 110 (.fn [.int .i64] (.bool)) := ⟨⟨_, _, _, Tryz.underlying110⟩, fun _ h => (by cases h), Tryz.t110, rfl, rfl, fun _ h => by cases h⟩
theorem tn111 : TnOk Tryz.prog 111 (.fn [.st [.sl 3 (.int .i64), .sl 3 (.int .i64)], .int .i64, .int .i64] (.int .i64)) := ⟨⟨_, _, _, Tryz.underlying111⟩, fun _ h => (by cases h), Tryz.t111, rfl, rfl, fun _ h => by cases h⟩
theorem tn115 : TnOk Tryz.prog 115 (.fn [.sl 3 (.int .i64), .sl 3 (.int .i64)] (.bool)) := ⟨⟨_, _, _, Tryz.underlying115⟩, fun _ h => (by cases h), Tryz.t115, rfl, rfl, fun _ h => by cases h⟩
theorem tn120 : TnOk Tryz.prog 120 (.fn [.st [.int .i64, .sl 92 (.st [.str, .int .i64, .sl 158 (.st [.int .i64, .sl 3 (.int .i64), .sl 3 (.int .i64)])]), .sl 163 (.st [.int .i64, .int .i64, .bool, .int .i64]), .sl 104 (.st [.sl 169 (.st [.int .i64, .int .i64]), .sl 25 (.sl 3 (.int .i64))]), .sl 3 (.int .i64)]] (.bool)) := ⟨⟨_, _, _, Tryz.underlying120⟩, fun _ h => (by cases h), Tryz.t120, rfl, rfl, fun _ h => by cases h⟩
theorem tn128 : TnOk Tryz.prog 128 (.fn [.st [.int .i64, .sl 92 (.st [.str, .int .i64, .sl 158 (.st [.int .i64, .sl 3 (.int .i64), .sl 3 (.int .i64)])]), .sl 163 (.st [.int .i64, .int .i64, .bool, .int .i64]), .sl 104 (.st [.sl 169 (.st [.int .i64, .int .i64]), .sl 25 (.sl 3 (.int .i64))]), .sl 3 (.int .i64)], .str] (.int .i64)) := ⟨⟨_, _, _, Tryz.underlying128⟩, fun _ h => (by cases h), Tryz.t128, rfl, rfl, fun _ h => by cases h⟩
theorem tn130 : TnOk Tryz.prog 130 (.ptr (.st [.sl 5 (.int .u8), .int .i64, .int .i64])) := ⟨⟨_, Tryz.underlying130⟩, fun _ h => (by cases h), Tryz.t130, rfl, rfl, fun _ h => by cases h⟩
theorem tn131 : TnOk Tryz.prog 131 (.fn [.sl 5 (.int .u8)] (.ptr (.st [.sl 5 (.int .u8), .int .i64, .int .i64]))) := ⟨⟨_, _, _, Tryz.underlying131⟩, fun _ h => (by cases h), Tryz.t131, rfl, rfl, fun _ h => by cases h⟩
theorem tn132 : TnOk Tryz.prog 132 (.fn [.ptr (.st [.sl 5 (.int .u8), .int .i64, .int .i64]), .int .i64] (.st [.int .i64, .sl 92 (.st [.str, .int .i64, .sl 158 (.st [.int .i64, .sl 3 (.int .i64), .sl 3 (.int .i64)])]), .sl 163 (.st [.int .i64, .int .i64, .bool, .int .i64]), .sl 104 (.st [.sl 169 (.st [.int .i64, .int .i64]), .sl 25 (.sl 3 (.int .i64))]), .sl 3 (.int .i64)])) := ⟨⟨_, _, _, Tryz.underlying132⟩, fun _ h => (by cases h), Tryz.t132, rfl, rfl, fun _ h => by cases h⟩
theorem tn133 : TnOk Tryz.prog 133 (.st [.sl 5 (.int .u8), .int .i64, .int .i64]) := ⟨⟨_, Tryz.underlying133, Tryz.eqGuardType133, Tryz.stoodInHeld133, rfl, fun j τ h => by
    cases j with
    | zero => cases h; exact ⟨_, _, rfl, rfl, by decide, by decide, Tryz.underlying77, rfl, fun us h => by cases h⟩
    | succ j =>
     cases j with
     | zero => cases h; exact ⟨_, _, rfl, rfl, by decide, by decide, Tryz.underlying3, rfl, fun us h => by cases h⟩
     | succ j =>
      cases j with
      | zero => cases h; exact ⟨_, _, rfl, rfl, by decide, by decide, Tryz.underlying3, rfl, fun us h => by cases h⟩
      | succ j =>
       cases h⟩, (fun us hus fs hfs j τ h f hf => by
    cases hus
    rw [Tryz.underlying133] at hfs
    cases hfs
    cases j with
    | zero => cases h; cases hf; exact ⟨fun k e => (by cases e), fun e => (by cases e), fun e => (by cases e)⟩
    | succ j =>
     cases j with
     | zero => cases h; cases hf; exact ⟨fun k e => by cases e; exact Tryz.underlying3, fun e => (by cases e), fun e => (by cases e)⟩
     | succ j =>
      cases j with
      | zero => cases h; cases hf; exact ⟨fun k e => by cases e; exact Tryz.underlying3, fun e => (by cases e), fun e => (by cases e)⟩
      | succ j =>
       cases h), Tryz.t133, rfl, rfl, fun _ _ => rfl⟩
theorem tn134 : TnOk Tryz.prog 134 (.st [.sl 5 (.int .u8), .int .i64, .int .i64]) := ⟨⟨_, Tryz.underlying134, Tryz.eqGuardType134, Tryz.stoodInHeld134, rfl, fun j τ h => by
    cases j with
    | zero => cases h; exact ⟨_, _, rfl, rfl, by decide, by decide, Tryz.underlying77, rfl, fun us h => by cases h⟩
    | succ j =>
     cases j with
     | zero => cases h; exact ⟨_, _, rfl, rfl, by decide, by decide, Tryz.underlying3, rfl, fun us h => by cases h⟩
     | succ j =>
      cases j with
      | zero => cases h; exact ⟨_, _, rfl, rfl, by decide, by decide, Tryz.underlying3, rfl, fun us h => by cases h⟩
      | succ j =>
       cases h⟩, (fun us hus fs hfs j τ h f hf => by
    cases hus
    rw [Tryz.underlying134] at hfs
    cases hfs
    cases j with
    | zero => cases h; cases hf; exact ⟨fun k e => (by cases e), fun e => (by cases e), fun e => (by cases e)⟩
    | succ j =>
     cases j with
     | zero => cases h; cases hf; exact ⟨fun k e => by cases e; exact Tryz.underlying3, fun e => (by cases e), fun e => (by cases e)⟩
     | succ j =>
      cases j with
      | zero => cases h; cases hf; exact ⟨fun k e => by cases e; exact Tryz.underlying3, fun e => (by cases e), fun e => (by cases e)⟩
      | succ j =>
       cases h), Tryz.t134, rfl, rfl, fun _ _ => rfl⟩
theorem tn135 : TnOk Tryz.prog 135 (.fn [.ptr (.st [.sl 5 (.int .u8), .int .i64, .int .i64]), .st [.int .i64, .sl 92 (.st [.str, .int .i64, .sl 158 (.st [.int .i64, .sl 3 (.int .i64), .sl 3 (.int .i64)])]), .sl 163 (.st [.int .i64, .int .i64, .bool, .int .i64]), .sl 104 (.st [.sl 169 (.st [.int .i64, .int .i64]), .sl 25 (.sl 3 (.int .i64))]), .sl 3 (.int .i64)]] (.st [.sl 3 (.int .i64), .sl 3 (.int .i64)])) := ⟨⟨_, _, _, Tryz.underlying135⟩, fun _ h => (by cases h), Tryz.t135, rfl, rfl, fun _ h => by cases h⟩
theorem tn136 : TnOk Tryz.prog 136 (.fn [.st [.int .i64, .sl 92 (.st [.str, .int .i64, .sl 158 (.st [.int .i64, .sl 3 (.int .i64), .sl 3 (.int .i64)])]), .sl 163 (.st [.int .i64, .int .i64, .bool, .int .i64]), .sl 104 (.st [.sl 169 (.st [.int .i64, .int .i64]), .sl 25 (.sl 3 (.int .i64))]), .sl 3 (.int .i64)]] (.st [.sl 3 (.int .i64), .sl 3 (.int .i64), .sl 25 (.sl 3 (.int .i64))])) := ⟨⟨_, _, _, Tryz.underlying136⟩, fun _ h => (by cases h), Tryz.t136, rfl, rfl, fun _ h => by cases h⟩
theorem tn137 : TnOk Tryz.prog 137 (.fn [.ptr (.st [.sl 5 (.int .u8), .int .i64, .int .i64]), .int .i64] (.int .i64)) := ⟨⟨_, _, _, Tryz.underlying137⟩, fun _ h => (by cases h), Tryz.t137, rfl, rfl, fun _ h => by cases h⟩
theorem tn138 : TnOk Tryz.prog 138 (.fn [.st [.sl 3 (.int .i64), .sl 3 (.int .i64), .sl 25 (.sl 3 (.int .i64))], .st [.int .i64, .int .i64, .int .i64]] (.st [.sl 3 (.int .i64), .sl 3 (.int .i64), .sl 25 (.sl 3 (.int .i64))])) := ⟨⟨_, _, _, Tryz.underlying138⟩, fun _ h => (by cases h), Tryz.t138, rfl, rfl, fun _ h => by cases h⟩
theorem tn139 : TnOk Tryz.prog 139 (.st [.int .i64, .int .i64, .int .i64]) := ⟨⟨_, Tryz.underlying139, Tryz.eqGuardType139, Tryz.stoodInHeld139, rfl, fun j τ h => by
    cases j with
    | zero => cases h; exact ⟨_, _, rfl, rfl, by decide, by decide, Tryz.underlying3, rfl, fun us h => by cases h⟩
    | succ j =>
     cases j with
     | zero => cases h; exact ⟨_, _, rfl, rfl, by decide, by decide, Tryz.underlying3, rfl, fun us h => by cases h⟩
     | succ j =>
      cases j with
      | zero => cases h; exact ⟨_, _, rfl, rfl, by decide, by decide, Tryz.underlying3, rfl, fun us h => by cases h⟩
      | succ j =>
       cases h⟩, (fun us hus fs hfs j τ h f hf => by
    cases hus
    rw [Tryz.underlying139] at hfs
    cases hfs
    cases j with
    | zero => cases h; cases hf; exact ⟨fun k e => by cases e; exact Tryz.underlying3, fun e => (by cases e), fun e => (by cases e)⟩
    | succ j =>
     cases j with
     | zero => cases h; cases hf; exact ⟨fun k e => by cases e; exact Tryz.underlying3, fun e => (by cases e), fun e => (by cases e)⟩
     | succ j =>
      cases j with
      | zero => cases h; cases hf; exact ⟨fun k e => by cases e; exact Tryz.underlying3, fun e => (by cases e), fun e => (by cases e)⟩
      | succ j =>
       cases h), Tryz.t139, rfl, rfl, fun _ _ => rfl⟩
theorem tn140 : TnOk Tryz.prog 140 (.st [.int .i64, .int .i64, .int .i64]) := ⟨⟨_, Tryz.underlying140, Tryz.eqGuardType140, Tryz.stoodInHeld140, rfl, fun j τ h => by
    cases j with
    | zero => cases h; exact ⟨_, _, rfl, rfl, by decide, by decide, Tryz.underlying3, rfl, fun us h => by cases h⟩
    | succ j =>
     cases j with
     | zero => cases h; exact ⟨_, _, rfl, rfl, by decide, by decide, Tryz.underlying3, rfl, fun us h => by cases h⟩
     | succ j =>
      cases j with
      | zero => cases h; exact ⟨_, _, rfl, rfl, by decide, by decide, Tryz.underlying3, rfl, fun us h => by cases h⟩
      | succ j =>
       cases h⟩, (fun us hus fs hfs j τ h f hf => by
    cases hus
    rw [Tryz.underlying140] at hfs
    cases hfs
    cases j with
    | zero => cases h; cases hf; exact ⟨fun k e => by cases e; exact Tryz.underlying3, fun e => (by cases e), fun e => (by cases e)⟩
    | succ j =>
     cases j with
     | zero => cases h; cases hf; exact ⟨fun k e => by cases e; exact Tryz.underlying3, fun e => (by cases e), fun e => (by cases e)⟩
     | succ j =>
      cases j with
      | zero => cases h; cases hf; exact ⟨fun k e => by cases e; exact Tryz.underlying3, fun e => (by cases e), fun e => (by cases e)⟩
      | succ j =>
       cases h), Tryz.t140, rfl, rfl, fun _ _ => rfl⟩
theorem tn141 : TnOk Tryz.prog 141 (.fn [.st [.sl 3 (.int .i64), .sl 3 (.int .i64), .sl 25 (.sl 3 (.int .i64))]] (.bool)) := ⟨⟨_, _, _, Tryz.underlying141⟩, fun _ h => (by cases h), Tryz.t141, rfl, rfl, fun _ h => by cases h⟩
theorem tn142 : TnOk Tryz.prog 142 (.fn [.st [.int .i64, .sl 92 (.st [.str, .int .i64, .sl 158 (.st [.int .i64, .sl 3 (.int .i64), .sl 3 (.int .i64)])]), .sl 163 (.st [.int .i64, .int .i64, .bool, .int .i64]), .sl 104 (.st [.sl 169 (.st [.int .i64, .int .i64]), .sl 25 (.sl 3 (.int .i64))]), .sl 3 (.int .i64)], .st [.sl 3 (.int .i64), .sl 3 (.int .i64), .sl 25 (.sl 3 (.int .i64))]] (.bool)) := ⟨⟨_, _, _, Tryz.underlying142⟩, fun _ h => (by cases h), Tryz.t142, rfl, rfl, fun _ h => by cases h⟩
theorem tn144 : TnOk Tryz.prog 144 (.fn [.st [.sl 3 (.int .i64), .sl 3 (.int .i64), .sl 25 (.sl 3 (.int .i64))], .int .i64] (.tup [.int .i64, .int .i64])) := ⟨⟨_, _, _, Tryz.underlying144⟩, fun _ h => (by cases h), Tryz.t144, rfl, rfl, fun _ h => by cases h⟩
theorem tn145 : TnOk Tryz.prog 145 (.fn [.st [.str, .int .i64, .sl 158 (.st [.int .i64, .sl 3 (.int .i64), .sl 3 (.int .i64)])], .sl 3 (.int .i64)] (.int .i64)) := ⟨⟨_, _, _, Tryz.underlying145⟩, fun _ h => (by cases h), Tryz.t145, rfl, rfl, fun _ h => by cases h⟩
theorem tn146 : TnOk Tryz.prog 146 (.fn [.st [.int .i64, .sl 92 (.st [.str, .int .i64, .sl 158 (.st [.int .i64, .sl 3 (.int .i64), .sl 3 (.int .i64)])]), .sl 163 (.st [.int .i64, .int .i64, .bool, .int .i64]), .sl 104 (.st [.sl 169 (.st [.int .i64, .int .i64]), .sl 25 (.sl 3 (.int .i64))]), .sl 3 (.int .i64)], .st [.int .i64, .int .i64, .int .i64, .int .i64]] (.bool)) := ⟨⟨_, _, _, Tryz.underlying146⟩, fun _ h => (by cases h), Tryz.t146, rfl, rfl, fun _ h => by cases h⟩
theorem tn147 : TnOk Tryz.prog 147 (.fn [.st [.sl 3 (.int .i64), .sl 3 (.int .i64)], .st [.int .i64, .int .i64, .int .i64, .int .i64]] (.bool)) := ⟨⟨_, _, _, Tryz.underlying147⟩, fun _ h => (by cases h), Tryz.t147, rfl, rfl, fun _ h => by cases h⟩
theorem tn148 : TnOk Tryz.prog 148 (.fn [.st [.sl 3 (.int .i64), .sl 3 (.int .i64)], .int .i64] (.sl 3 (.int .i64))) := ⟨⟨_, _, _, Tryz.underlying148⟩, fun _ h => (by cases h), Tryz.t148, rfl, rfl, fun _ h => by cases h⟩
theorem tn157 : TnOk Tryz.prog 157 (.st [.int .i64, .sl 3 (.int .i64), .sl 3 (.int .i64)]) := ⟨⟨_, Tryz.underlying157, Tryz.eqGuardType157, Tryz.stoodInHeld157, rfl, fun j τ h => by
    cases j with
    | zero => cases h; exact ⟨_, _, rfl, rfl, by decide, by decide, Tryz.underlying3, rfl, fun us h => by cases h⟩
    | succ j =>
     cases j with
     | zero => cases h; exact ⟨_, _, rfl, rfl, by decide, by decide, Tryz.underlying25, rfl, fun us h => by cases h⟩
     | succ j =>
      cases j with
      | zero => cases h; exact ⟨_, _, rfl, rfl, by decide, by decide, Tryz.underlying25, rfl, fun us h => by cases h⟩
      | succ j =>
       cases h⟩, (fun us hus fs hfs j τ h f hf => by
    cases hus
    rw [Tryz.underlying157] at hfs
    cases hfs
    cases j with
    | zero => cases h; cases hf; exact ⟨fun k e => by cases e; exact Tryz.underlying3, fun e => (by cases e), fun e => (by cases e)⟩
    | succ j =>
     cases j with
     | zero => cases h; cases hf; exact ⟨fun k e => (by cases e), fun e => (by cases e), fun e => (by cases e)⟩
     | succ j =>
      cases j with
      | zero => cases h; cases hf; exact ⟨fun k e => (by cases e), fun e => (by cases e), fun e => (by cases e)⟩
      | succ j =>
       cases h), Tryz.t157, rfl, rfl, fun _ _ => rfl⟩
theorem tn158 : TnOk Tryz.prog 158 (.st [.int .i64, .sl 3 (.int .i64), .sl 3 (.int .i64)]) := ⟨⟨_, Tryz.underlying158, Tryz.eqGuardType158, Tryz.stoodInHeld158, rfl, fun j τ h => by
    cases j with
    | zero => cases h; exact ⟨_, _, rfl, rfl, by decide, by decide, Tryz.underlying3, rfl, fun us h => by cases h⟩
    | succ j =>
     cases j with
     | zero => cases h; exact ⟨_, _, rfl, rfl, by decide, by decide, Tryz.underlying25, rfl, fun us h => by cases h⟩
     | succ j =>
      cases j with
      | zero => cases h; exact ⟨_, _, rfl, rfl, by decide, by decide, Tryz.underlying25, rfl, fun us h => by cases h⟩
      | succ j =>
       cases h⟩, (fun us hus fs hfs j τ h f hf => by
    cases hus
    rw [Tryz.underlying158] at hfs
    cases hfs
    cases j with
    | zero => cases h; cases hf; exact ⟨fun k e => by cases e; exact Tryz.underlying3, fun e => (by cases e), fun e => (by cases e)⟩
    | succ j =>
     cases j with
     | zero => cases h; cases hf; exact ⟨fun k e => (by cases e), fun e => (by cases e), fun e => (by cases e)⟩
     | succ j =>
      cases j with
      | zero => cases h; cases hf; exact ⟨fun k e => (by cases e), fun e => (by cases e), fun e => (by cases e)⟩
      | succ j =>
       cases h), Tryz.t158, rfl, rfl, fun _ _ => rfl⟩
theorem tn160 : TnOk Tryz.prog 160 (.fn [.sl 169 (.st [.int .i64, .int .i64])] (.bool)) := ⟨⟨_, _, _, Tryz.underlying160⟩, fun _ h => (by cases h), Tryz.t160, rfl, rfl, fun _ h => by cases h⟩
theorem tn162 : TnOk Tryz.prog 162 (.st [.int .i64, .int .i64, .bool, .int .i64]) := ⟨⟨_, Tryz.underlying162, Tryz.eqGuardType162, Tryz.stoodInHeld162, rfl, fun j τ h => by
    cases j with
    | zero => cases h; exact ⟨_, _, rfl, rfl, by decide, by decide, Tryz.underlying3, rfl, fun us h => by cases h⟩
    | succ j =>
     cases j with
     | zero => cases h; exact ⟨_, _, rfl, rfl, by decide, by decide, Tryz.underlying3, rfl, fun us h => by cases h⟩
     | succ j =>
      cases j with
      | zero => cases h; exact ⟨_, _, rfl, rfl, by decide, by decide, Tryz.underlying4, rfl, fun us h => by cases h⟩
      | succ j =>
       cases j with
       | zero => cases h; exact ⟨_, _, rfl, rfl, by decide, by decide, Tryz.underlying3, rfl, fun us h => by cases h⟩
       | succ j =>
        cases h⟩, (fun us hus fs hfs j τ h f hf => by
    cases hus
    rw [Tryz.underlying162] at hfs
    cases hfs
    cases j with
    | zero => cases h; cases hf; exact ⟨fun k e => by cases e; exact Tryz.underlying3, fun e => (by cases e), fun e => (by cases e)⟩
    | succ j =>
     cases j with
     | zero => cases h; cases hf; exact ⟨fun k e => by cases e; exact Tryz.underlying3, fun e => (by cases e), fun e => (by cases e)⟩
     | succ j =>
      cases j with
      | zero => cases h; cases hf; exact ⟨fun k e => (by cases e), fun _ => Tryz.underlying4, fun e => (by cases e)⟩
      | succ j =>
       cases j with
       | zero => cases h; cases hf; exact ⟨fun k e => by cases e; exact Tryz.underlying3, fun e => (by cases e), fun e => (by cases e)⟩
       | succ j =>
        cases h), Tryz.t162, rfl, rfl, fun _ _ => rfl⟩
theorem tn163 : TnOk Tryz.prog 163 (.st [.int .i64, .int .i64, .bool, .int .i64]) := ⟨⟨_, Tryz.underlying163, Tryz.eqGuardType163, Tryz.stoodInHeld163, rfl, fun j τ h => by
    cases j with
    | zero => cases h; exact ⟨_, _, rfl, rfl, by decide, by decide, Tryz.underlying3, rfl, fun us h => by cases h⟩
    | succ j =>
     cases j with
     | zero => cases h; exact ⟨_, _, rfl, rfl, by decide, by decide, Tryz.underlying3, rfl, fun us h => by cases h⟩
     | succ j =>
      cases j with
      | zero => cases h; exact ⟨_, _, rfl, rfl, by decide, by decide, Tryz.underlying4, rfl, fun us h => by cases h⟩
      | succ j =>
       cases j with
       | zero => cases h; exact ⟨_, _, rfl, rfl, by decide, by decide, Tryz.underlying3, rfl, fun us h => by cases h⟩
       | succ j =>
        cases h⟩, (fun us hus fs hfs j τ h f hf => by
    cases hus
    rw [Tryz.underlying163] at hfs
    cases hfs
    cases j with
    | zero => cases h; cases hf; exact ⟨fun k e => by cases e; exact Tryz.underlying3, fun e => (by cases e), fun e => (by cases e)⟩
    | succ j =>
     cases j with
     | zero => cases h; cases hf; exact ⟨fun k e => by cases e; exact Tryz.underlying3, fun e => (by cases e), fun e => (by cases e)⟩
     | succ j =>
      cases j with
      | zero => cases h; cases hf; exact ⟨fun k e => (by cases e), fun _ => Tryz.underlying4, fun e => (by cases e)⟩
      | succ j =>
       cases j with
       | zero => cases h; cases hf; exact ⟨fun k e => by cases e; exact Tryz.underlying3, fun e => (by cases e), fun e => (by cases e)⟩
       | succ j =>
        cases h), Tryz.t163, rfl, rfl, fun _ _ => rfl⟩
theorem tn167 : TnOk Tryz.prog 167 (.fn [.st [.sl 3 (.int .i64), .sl 3 (.int .i64)], .int .i64] (.st [.int .i64, .sl 3 (.int .i64), .sl 3 (.int .i64)])) := ⟨⟨_, _, _, Tryz.underlying167⟩, fun _ h => (by cases h), Tryz.t167, rfl, rfl, fun _ h => by cases h⟩
theorem tn168 : TnOk Tryz.prog 168 (.st [.int .i64, .int .i64]) := ⟨⟨_, Tryz.underlying168, Tryz.eqGuardType168, Tryz.stoodInHeld168, rfl, fun j τ h => by
    cases j with
    | zero => cases h; exact ⟨_, _, rfl, rfl, by decide, by decide, Tryz.underlying3, rfl, fun us h => by cases h⟩
    | succ j =>
     cases j with
     | zero => cases h; exact ⟨_, _, rfl, rfl, by decide, by decide, Tryz.underlying3, rfl, fun us h => by cases h⟩
     | succ j =>
      cases h⟩, (fun us hus fs hfs j τ h f hf => by
    cases hus
    rw [Tryz.underlying168] at hfs
    cases hfs
    cases j with
    | zero => cases h; cases hf; exact ⟨fun k e => by cases e; exact Tryz.underlying3, fun e => (by cases e), fun e => (by cases e)⟩
    | succ j =>
     cases j with
     | zero => cases h; cases hf; exact ⟨fun k e => by cases e; exact Tryz.underlying3, fun e => (by cases e), fun e => (by cases e)⟩
     | succ j =>
      cases h), Tryz.t168, rfl, rfl, fun _ _ => rfl⟩
theorem tn169 : TnOk Tryz.prog 169 (.st [.int .i64, .int .i64]) := ⟨⟨_, Tryz.underlying169, Tryz.eqGuardType169, Tryz.stoodInHeld169, rfl, fun j τ h => by
    cases j with
    | zero => cases h; exact ⟨_, _, rfl, rfl, by decide, by decide, Tryz.underlying3, rfl, fun us h => by cases h⟩
    | succ j =>
     cases j with
     | zero => cases h; exact ⟨_, _, rfl, rfl, by decide, by decide, Tryz.underlying3, rfl, fun us h => by cases h⟩
     | succ j =>
      cases h⟩, (fun us hus fs hfs j τ h f hf => by
    cases hus
    rw [Tryz.underlying169] at hfs
    cases hfs
    cases j with
    | zero => cases h; cases hf; exact ⟨fun k e => by cases e; exact Tryz.underlying3, fun e => (by cases e), fun e => (by cases e)⟩
    | succ j =>
     cases j with
     | zero => cases h; cases hf; exact ⟨fun k e => by cases e; exact Tryz.underlying3, fun e => (by cases e), fun e => (by cases e)⟩
     | succ j =>
      cases h), Tryz.t169, rfl, rfl, fun _ _ => rfl⟩
theorem tn173 : TnOk Tryz.prog 173 (.fn [.st [.int .i64, .sl 92 (.st [.str, .int .i64, .sl 158 (.st [.int .i64, .sl 3 (.int .i64), .sl 3 (.int .i64)])]), .sl 163 (.st [.int .i64, .int .i64, .bool, .int .i64]), .sl 104 (.st [.sl 169 (.st [.int .i64, .int .i64]), .sl 25 (.sl 3 (.int .i64))]), .sl 3 (.int .i64)], .st [.sl 3 (.int .i64), .sl 3 (.int .i64)], .int .i64] (.int .i64)) := ⟨⟨_, _, _, Tryz.underlying173⟩, fun _ h => (by cases h), Tryz.t173, rfl, rfl, fun _ h => by cases h⟩
theorem tn181 : TnOk Tryz.prog 181 (.fn [.st [.str, .int .i64, .sl 158 (.st [.int .i64, .sl 3 (.int .i64), .sl 3 (.int .i64)])], .int .i64, .int .i64] (.bool)) := ⟨⟨_, _, _, Tryz.underlying181⟩, fun _ h => (by cases h), Tryz.t181, rfl, rfl, fun _ h => by cases h⟩
theorem tn182 : TnOk Tryz.prog 182 (.fn [.st [.sl 169 (.st [.int .i64, .int .i64]), .sl 25 (.sl 3 (.int .i64))]] (.bool)) := ⟨⟨_, _, _, Tryz.underlying182⟩, fun _ h => (by cases h), Tryz.t182, rfl, rfl, fun _ h => by cases h⟩
theorem tn188 : TnOk Tryz.prog 188 (.fn [.sl 163 (.st [.int .i64, .int .i64, .bool, .int .i64]), .fn [.st [.int .i64, .int .i64, .bool, .int .i64]] (.bool)] (.bool)) := ⟨⟨_, _, _, Tryz.underlying188⟩, fun _ h => (by cases h), Tryz.t188, rfl, rfl, fun _ h => by cases h⟩
theorem tn189 : TnOk Tryz.prog 189 (.fn [.st [.int .i64, .int .i64, .bool, .int .i64]] (.bool)) := ⟨⟨_, _, _, Tryz.underlying189⟩, fun _ h => (by cases h), Tryz.t189, rfl, rfl, fun _ h => by cases h⟩
theorem tn196 : TnOk Tryz.prog 196 (.fn [.sl 92 (.st [.str, .int .i64, .sl 158 (.st [.int .i64, .sl 3 (.int .i64), .sl 3 (.int .i64)])]), .fn [.st [.str, .int .i64, .sl 158 (.st [.int .i64, .sl 3 (.int .i64), .sl 3 (.int .i64)])]] (.bool)] (.int .i64)) := ⟨⟨_, _, _, Tryz.underlying196⟩, fun _ h => (by cases h), Tryz.t196, rfl, rfl, fun _ h => by cases h⟩
theorem tn197 : TnOk Tryz.prog 197 (.fn [.st [.str, .int .i64, .sl 158 (.st [.int .i64, .sl 3 (.int .i64), .sl 3 (.int .i64)])]] (.bool)) := ⟨⟨_, _, _, Tryz.underlying197⟩, fun _ h => (by cases h), Tryz.t197, rfl, rfl, fun _ h => by cases h⟩
theorem tn202 : TnOk Tryz.prog 202 (.fn [.ptr (.st [.sl 5 (.int .u8), .int .i64, .int .i64])] (.sl 169 (.st [.int .i64, .int .i64]))) := ⟨⟨_, _, _, Tryz.underlying202⟩, fun _ h => (by cases h), Tryz.t202, rfl, rfl, fun _ h => by cases h⟩
theorem tn203 : TnOk Tryz.prog 203 (.fn [.ptr (.st [.sl 5 (.int .u8), .int .i64, .int .i64]), .int .i64] (.bool)) := ⟨⟨_, _, _, Tryz.underlying203⟩, fun _ h => (by cases h), Tryz.t203, rfl, rfl, fun _ h => by cases h⟩
theorem tn204 : TnOk Tryz.prog 204 (.fn [.ptr (.st [.sl 5 (.int .u8), .int .i64, .int .i64])] (.sl 25 (.sl 3 (.int .i64)))) := ⟨⟨_, _, _, Tryz.underlying204⟩, fun _ h => (by cases h), Tryz.t204, rfl, rfl, fun _ h => by cases h⟩
theorem tn205 : TnOk Tryz.prog 205 (.fn [.ptr (.st [.sl 5 (.int .u8), .int .i64, .int .i64]), .int .i64, .int .i64, .int .i64] (.st [.str, .int .i64, .sl 158 (.st [.int .i64, .sl 3 (.int .i64), .sl 3 (.int .i64)])])) := ⟨⟨_, _, _, Tryz.underlying205⟩, fun _ h => (by cases h), Tryz.t205, rfl, rfl, fun _ h => by cases h⟩
theorem tn206 : TnOk Tryz.prog 206 (.fn [.ptr (.st [.sl 5 (.int .u8), .int .i64, .int .i64])] (.int .i64)) := ⟨⟨_, _, _, Tryz.underlying206⟩, fun _ h => (by cases h), Tryz.t206, rfl, rfl, fun _ h => by cases h⟩
theorem tn207 : TnOk Tryz.prog 207 (.fn [.st [.sl 3 (.int .i64), .sl 3 (.int .i64), .sl 25 (.sl 3 (.int .i64))]] (.st [.sl 3 (.int .i64), .sl 3 (.int .i64), .sl 25 (.sl 3 (.int .i64))])) := ⟨⟨_, _, _, Tryz.underlying207⟩, fun _ h => (by cases h), Tryz.t207, rfl, rfl, fun _ h => by cases h⟩
theorem tn208 : TnOk Tryz.prog 208 (.fn [.st [.sl 3 (.int .i64), .sl 3 (.int .i64), .sl 25 (.sl 3 (.int .i64))], .int .i64] (.bool)) := ⟨⟨_, _, _, Tryz.underlying208⟩, fun _ h => (by cases h), Tryz.t208, rfl, rfl, fun _ h => by cases h⟩
theorem tn209 : TnOk Tryz.prog 209 (.fn [.int .i64] (.int .i64)) := ⟨⟨_, _, _, Tryz.underlying209⟩, fun _ h => (by cases h), Tryz.t209, rfl, rfl, fun _ h => by cases h⟩
theorem tn210 : TnOk Tryz.prog 210 (.fn [.int .i64, .int .i64] (.int .i64)) := ⟨⟨_, _, _, Tryz.underlying210⟩, fun _ h => (by cases h), Tryz.t210, rfl, rfl, fun _ h => by cases h⟩
theorem tn211 : TnOk Tryz.prog 211 (.fn [.sl 3 (.int .i64), .sl 3 (.int .i64)] (.sl 3 (.int .i64))) := ⟨⟨_, _, _, Tryz.underlying211⟩, fun _ h => (by cases h), Tryz.t211, rfl, rfl, fun _ h => by cases h⟩
theorem tn212 : TnOk Tryz.prog 212 (.fn [.sl 3 (.int .i64), .int .i64] (.sl 3 (.int .i64))) := ⟨⟨_, _, _, Tryz.underlying212⟩, fun _ h => (by cases h), Tryz.t212, rfl, rfl, fun _ h => by cases h⟩
theorem tn213 : TnOk Tryz.prog 213 (.fn [.st [.sl 3 (.int .i64), .sl 3 (.int .i64), .sl 25 (.sl 3 (.int .i64))], .int .i64] (.int .i64)) := ⟨⟨_, _, _, Tryz.underlying213⟩, fun _ h => (by cases h), Tryz.t213, rfl, rfl, fun _ h => by cases h⟩
theorem tn214 : TnOk Tryz.prog 214 (.fn [.st [.str, .int .i64, .sl 158 (.st [.int .i64, .sl 3 (.int .i64), .sl 3 (.int .i64)])], .sl 3 (.int .i64)] (.sl 158 (.st [.int .i64, .sl 3 (.int .i64), .sl 3 (.int .i64)]))) := ⟨⟨_, _, _, Tryz.underlying214⟩, fun _ h => (by cases h), Tryz.t214, rfl, rfl, fun _ h => by cases h⟩
theorem tn215 : TnOk Tryz.prog 215 (.fn [.st [.int .i64, .sl 92 (.st [.str, .int .i64, .sl 158 (.st [.int .i64, .sl 3 (.int .i64), .sl 3 (.int .i64)])]), .sl 163 (.st [.int .i64, .int .i64, .bool, .int .i64]), .sl 104 (.st [.sl 169 (.st [.int .i64, .int .i64]), .sl 25 (.sl 3 (.int .i64))]), .sl 3 (.int .i64)], .int .i64] (.bool)) := ⟨⟨_, _, _, Tryz.underlying215⟩, fun _ h => (by cases h), Tryz.t215, rfl, rfl, fun _ h => by cases h⟩
theorem tn216 : TnOk Tryz.prog 216 (.fn [.st [.sl 3 (.int .i64), .sl 3 (.int .i64)], .st [.int .i64, .int .i64, .bool, .int .i64]] (.bool)) := ⟨⟨_, _, _, Tryz.underlying216⟩, fun _ h => (by cases h), Tryz.t216, rfl, rfl, fun _ h => by cases h⟩
theorem tn217 : TnOk Tryz.prog 217 (.fn [.st [.sl 3 (.int .i64), .sl 3 (.int .i64)], .int .i64, .int .i64, .int .i64] (.int .i64)) := ⟨⟨_, _, _, Tryz.underlying217⟩, fun _ h => (by cases h), Tryz.t217, rfl, rfl, fun _ h => by cases h⟩
theorem tn218 : TnOk Tryz.prog 218 (.fn [.sl 169 (.st [.int .i64, .int .i64]), .int .i64, .int .i64] (.int .i64)) := ⟨⟨_, _, _, Tryz.underlying218⟩, fun _ h => (by cases h), Tryz.t218, rfl, rfl, fun _ h => by cases h⟩
theorem tn219 : TnOk Tryz.prog 219 (.fn [.st [.sl 3 (.int .i64), .sl 3 (.int .i64)], .int .i64, .int .i64, .int .i64] (.bool)) := ⟨⟨_, _, _, Tryz.underlying219⟩, fun _ h => (by cases h), Tryz.t219, rfl, rfl, fun _ h => by cases h⟩
theorem tn220 : TnOk Tryz.prog 220 (.fn [.sl 3 (.int .i64), .fn [.int .i64] (.bool)] (.sl 3 (.int .i64))) := ⟨⟨_, _, _, Tryz.underlying220⟩, fun _ h => (by cases h), Tryz.t220, rfl, rfl, fun _ h => by cases h⟩
theorem tn221 : TnOk Tryz.prog 221 (.fn [.int .i64] (.sl 3 (.int .i64))) := ⟨⟨_, _, _, Tryz.underlying221⟩, fun _ h => (by cases h), Tryz.t221, rfl, rfl, fun _ h => by cases h⟩
theorem tn231 : TnOk Tryz.prog 231 (.fn [.st [.int .i64, .sl 3 (.int .i64), .sl 3 (.int .i64)], .int .i64, .int .i64] (.bool)) := ⟨⟨_, _, _, Tryz.underlying231⟩, fun _ h => (by cases h), Tryz.t231, rfl, rfl, fun _ h => by cases h⟩
theorem tn232 : TnOk Tryz.prog 232 (.fn [.str] (.bool)) := ⟨⟨_, _, _, Tryz.underlying232⟩, fun _ h => (by cases h), Tryz.t232, rfl, rfl, fun _ h => by cases h⟩
theorem tn235 : TnOk Tryz.prog 235 (.fn [.sl 163 (.st [.int .i64, .int .i64, .bool, .int .i64]), .fn [.st [.int .i64, .int .i64, .bool, .int .i64]] (.bool)] (.int .i64)) := ⟨⟨_, _, _, Tryz.underlying235⟩, fun _ h => (by cases h), Tryz.t235, rfl, rfl, fun _ h => by cases h⟩
theorem tn247 : TnOk Tryz.prog 247 (.fn [.ptr (.st [.sl 5 (.int .u8), .int .i64, .int .i64]), .int .i64] (.str)) := ⟨⟨_, _, _, Tryz.underlying247⟩, fun _ h => (by cases h), Tryz.t247, rfl, rfl, fun _ h => by cases h⟩
theorem tn248 : TnOk Tryz.prog 248 (.fn [.st [.str, .int .i64, .sl 158 (.st [.int .i64, .sl 3 (.int .i64), .sl 3 (.int .i64)])]] (.sl 3 (.int .i64))) := ⟨⟨_, _, _, Tryz.underlying248⟩, fun _ h => (by cases h), Tryz.t248, rfl, rfl, fun _ h => by cases h⟩
theorem tn250 : TnOk Tryz.prog 250 (.fn [.sl 3 (.int .i64)] (.bool)) := ⟨⟨_, _, _, Tryz.underlying250⟩, fun _ h => (by cases h), Tryz.t250, rfl, rfl, fun _ h => by cases h⟩
theorem tn251 : TnOk Tryz.prog 251 (.fn [.sl 25 (.sl 3 (.int .i64)), .fn [.sl 3 (.int .i64)] (.bool)] (.bool)) := ⟨⟨_, _, _, Tryz.underlying251⟩, fun _ h => (by cases h), Tryz.t251, rfl, rfl, fun _ h => by cases h⟩
theorem tn252 : TnOk Tryz.prog 252 (.fn [.st [.int .i64, .sl 92 (.st [.str, .int .i64, .sl 158 (.st [.int .i64, .sl 3 (.int .i64), .sl 3 (.int .i64)])]), .sl 163 (.st [.int .i64, .int .i64, .bool, .int .i64]), .sl 104 (.st [.sl 169 (.st [.int .i64, .int .i64]), .sl 25 (.sl 3 (.int .i64))]), .sl 3 (.int .i64)], .int .i64, .int .i64, .int .i64] (.int .i64)) := ⟨⟨_, _, _, Tryz.underlying252⟩, fun _ h => (by cases h), Tryz.t252, rfl, rfl, fun _ h => by cases h⟩
theorem tn271 : TnOk Tryz.prog 271 (.fn [.sl 25 (.sl 3 (.int .i64)), .fn [.sl 3 (.int .i64)] (.bool)] (.int .i64)) := ⟨⟨_, _, _, Tryz.underlying271⟩, fun _ h => (by cases h), Tryz.t271, rfl, rfl, fun _ h => by cases h⟩
def sg_ (h : Hd) (f : Ty.dens h.ps → Ty.dens h.cs → Option (h.R.den × ioT h.ps h.io)) : FSig := ⟨h.ps, h.cs, h.io, h.im, h.R, h.m, f⟩
theorem e_k {M : Go.Program} {n : Go.FuncId} {a b : FSig} (e : a = b) (h : SigOk M n a) : SigOk M n b := e ▸ h
def y_6 : Ty := .st [.sl 3 (.int .i64), .sl 3 (.int .i64)]
def y_5 : Ty := .st [.int .i64, .int .i64, .bool, .int .i64]
def y_4 : Ty := .st [.int .i64, .sl 3 (.int .i64), .sl 3 (.int .i64)]
def y_2 : Ty := .st [.sl 169 (.st [.int .i64, .int .i64]), .sl 25 (.sl 3 (.int .i64))]
def y_3 : Ty := .st [.sl 3 (.int .i64), .sl 3 (.int .i64), .sl 25 (.sl 3 (.int .i64))]
def y_1 : Ty := .st [.str, .int .i64, .sl 158 (y_4)]
def y_0 : Ty := .st [.int .i64, .sl 92 (y_1), .sl 163 (y_5), .sl 104 (y_2), .sl 3 (.int .i64)]
def tys : List (Nat × Ty) := [(3, .int .i64), (4, .bool), (5, .int .u8), (9, .str), (25, .sl 3 (.int .i64)), (28, .st [.sl 3 (.int .i64), .sl 3 (.int .i64)]), (32, .fn [.st [.int .i64, .sl 92 (.st [.str, .int .i64, .sl 158 (.st [.int .i64, .sl 3 (.int .i64), .sl 3 (.int .i64)])]), .sl 163 (.st [.int .i64, .int .i64, .bool, .int .i64]), .sl 104 (.st [.sl 169 (.st [.int .i64, .int .i64]), .sl 25 (.sl 3 (.int .i64))]), .sl 3 (.int .i64)], .st [.sl 3 (.int .i64), .sl 3 (.int .i64)], .int .i64] (.str)), (33, .sl 92 (.st [.str, .int .i64, .sl 158 (.st [.int .i64, .sl 3 (.int .i64), .sl 3 (.int .i64)])])), (34, .sl 163 (.st [.int .i64, .int .i64, .bool, .int .i64])), (35, .sl 104 (.st [.sl 169 (.st [.int .i64, .int .i64]), .sl 25 (.sl 3 (.int .i64))])), (36, .st [.int .i64, .sl 92 (.st [.str, .int .i64, .sl 158 (.st [.int .i64, .sl 3 (.int .i64), .sl 3 (.int .i64)])]), .sl 163 (.st [.int .i64, .int .i64, .bool, .int .i64]), .sl 104 (.st [.sl 169 (.st [.int .i64, .int .i64]), .sl 25 (.sl 3 (.int .i64))]), .sl 3 (.int .i64)]), (37, .st [.int .i64, .sl 92 (.st [.str, .int .i64, .sl 158 (.st [.int .i64, .sl 3 (.int .i64), .sl 3 (.int .i64)])]), .sl 163 (.st [.int .i64, .int .i64, .bool, .int .i64]), .sl 104 (.st [.sl 169 (.st [.int .i64, .int .i64]), .sl 25 (.sl 3 (.int .i64))]), .sl 3 (.int .i64)]), (39, .st [.sl 3 (.int .i64), .sl 3 (.int .i64)]), (44, .sl 9 (.str)), (45, .fn [.st [.int .i64, .sl 92 (.st [.str, .int .i64, .sl 158 (.st [.int .i64, .sl 3 (.int .i64), .sl 3 (.int .i64)])]), .sl 163 (.st [.int .i64, .int .i64, .bool, .int .i64]), .sl 104 (.st [.sl 169 (.st [.int .i64, .int .i64]), .sl 25 (.sl 3 (.int .i64))]), .sl 3 (.int .i64)], .st [.sl 3 (.int .i64), .sl 3 (.int .i64)]] (.sl 9 (.str))), (48, .fn [.st [.sl 3 (.int .i64), .sl 3 (.int .i64)], .int .i64] (.int .i64)), (77, .sl 5 (.int .u8)), (78, .fn [.sl 5 (.int .u8)] (.st [.int .i64, .sl 92 (.st [.str, .int .i64, .sl 158 (.st [.int .i64, .sl 3 (.int .i64), .sl 3 (.int .i64)])]), .sl 163 (.st [.int .i64, .int .i64, .bool, .int .i64]), .sl 104 (.st [.sl 169 (.st [.int .i64, .int .i64]), .sl 25 (.sl 3 (.int .i64))]), .sl 3 (.int .i64)])), (79, .fn [.sl 5 (.int .u8), .st [.int .i64, .sl 92 (.st [.str, .int .i64, .sl 158 (.st [.int .i64, .sl 3 (.int .i64), .sl 3 (.int .i64)])]), .sl 163 (.st [.int .i64, .int .i64, .bool, .int .i64]), .sl 104 (.st [.sl 169 (.st [.int .i64, .int .i64]), .sl 25 (.sl 3 (.int .i64))]), .sl 3 (.int .i64)]] (.st [.sl 3 (.int .i64), .sl 3 (.int .i64)])), (80, .sl 25 (.sl 3 (.int .i64))), (81, .st [.sl 3 (.int .i64), .sl 3 (.int .i64), .sl 25 (.sl 3 (.int .i64))]), (82, .st [.sl 3 (.int .i64), .sl 3 (.int .i64), .sl 25 (.sl 3 (.int .i64))]), (83, .fn [.sl 5 (.int .u8), .st [.int .i64, .sl 92 (.st [.str, .int .i64, .sl 158 (.st [.int .i64, .sl 3 (.int .i64), .sl 3 (.int .i64)])]), .sl 163 (.st [.int .i64, .int .i64, .bool, .int .i64]), .sl 104 (.st [.sl 169 (.st [.int .i64, .int .i64]), .sl 25 (.sl 3 (.int .i64))]), .sl 3 (.int .i64)]] (.st [.sl 3 (.int .i64), .sl 3 (.int .i64), .sl 25 (.sl 3 (.int .i64))])), (84, .fn [.st [.int .i64, .sl 92 (.st [.str, .int .i64, .sl 158 (.st [.int .i64, .sl 3 (.int .i64), .sl 3 (.int .i64)])]), .sl 163 (.st [.int .i64, .int .i64, .bool, .int .i64]), .sl 104 (.st [.sl 169 (.st [.int .i64, .int .i64]), .sl 25 (.sl 3 (.int .i64))]), .sl 3 (.int .i64)], .st [.sl 3 (.int .i64), .sl 3 (.int .i64), .sl 25 (.sl 3 (.int .i64))], .int .i64] (.str)), (85, .fn [.st [.int .i64, .sl 92 (.st [.str, .int .i64, .sl 158 (.st [.int .i64, .sl 3 (.int .i64), .sl 3 (.int .i64)])]), .sl 163 (.st [.int .i64, .int .i64, .bool, .int .i64]), .sl 104 (.st [.sl 169 (.st [.int .i64, .int .i64]), .sl 25 (.sl 3 (.int .i64))]), .sl 3 (.int .i64)], .st [.sl 3 (.int .i64), .sl 3 (.int .i64)], .st [.int .i64, .int .i64, .int .i64, .int .i64]] (.bool)), (86, .st [.int .i64, .int .i64, .int .i64, .int .i64]), (87, .st [.int .i64, .int .i64, .int .i64, .int .i64]), (88, .fn [.sl 3 (.int .i64), .int .i64] (.bool)), (89, .fn [.st [.int .i64, .sl 92 (.st [.str, .int .i64, .sl 158 (.st [.int .i64, .sl 3 (.int .i64), .sl 3 (.int .i64)])]), .sl 163 (.st [.int .i64, .int .i64, .bool, .int .i64]), .sl 104 (.st [.sl 169 (.st [.int .i64, .int .i64]), .sl 25 (.sl 3 (.int .i64))]), .sl 3 (.int .i64)], .st [.sl 3 (.int .i64), .sl 3 (.int .i64)], .int .i64] (.sl 3 (.int .i64))), (90, .sl 158 (.st [.int .i64, .sl 3 (.int .i64), .sl 3 (.int .i64)])), (91, .st [.str, .int .i64, .sl 158 (.st [.int .i64, .sl 3 (.int .i64), .sl 3 (.int .i64)])]), (92, .st [.str, .int .i64, .sl 158 (.st [.int .i64, .sl 3 (.int .i64), .sl 3 (.int .i64)])]), (93, .fn [.sl 5 (.int .u8)] (.bool)), (97, .fn [.sl 3 (.int .i64), .int .i64] (.int .i64)), (98, .fn [.st [.int .i64, .sl 92 (.st [.str, .int .i64, .sl 158 (.st [.int .i64, .sl 3 (.int .i64), .sl 3 (.int .i64)])]), .sl 163 (.st [.int .i64, .int .i64, .bool, .int .i64]), .sl 104 (.st [.sl 169 (.st [.int .i64, .int .i64]), .sl 25 (.sl 3 (.int .i64))]), .sl 3 (.int .i64)], .st [.sl 3 (.int .i64), .sl 3 (.int .i64)]] (.bool)), (99, .fn [.int .i64, .int .i64, .int .i64] (.bool)), (101, .fn [.sl 169 (.st [.int .i64, .int .i64]), .int .i64] (.int .i64)), (102, .sl 169 (.st [.int .i64, .int .i64])), (103, .st [.sl 169 (.st [.int .i64, .int .i64]), .sl 25 (.sl 3 (.int .i64))]), (104, .st [.sl 169 (.st [.int .i64, .int .i64]), .sl 25 (.sl 3 (.int .i64))]), (105, .fn [.int .i64] (.str)), (109, .fn [.sl 3 (.int .i64)] (.sl 3 (.int .i64))), (110, .fn [.int .i64] (.bool)), (111, .fn [.st [.sl 3 (.int .i64), .sl 3 (.int .i64)], .int .i64, .int .i64] (.int .i64)), (115, .fn [.sl 3 (.int .i64), .sl 3 (.int .i64)] (.bool)), (120, .fn [.st [.int .i64, .sl 92 (.st [.str, .int .i64, .sl 158 (.st [.int .i64, .sl 3 (.int .i64), .sl 3 (.int .i64)])]), .sl 163 (.st [.int .i64, .int .i64, .bool, .int .i64]), .sl 104 (.st [.sl 169 (.st [.int .i64, .int .i64]), .sl 25 (.sl 3 (.int .i64))]), .sl 3 (.int .i64)]] (.bool)), (128, .fn [.st [.int .i64, .sl 92 (.st [.str, .int .i64, .sl 158 (.st [.int .i64, .sl 3 (.int .i64), .sl 3 (.int .i64)])]), .sl 163 (.st [.int .i64, .int .i64, .bool, .int .i64]), .sl 104 (.st [.sl 169 (.st [.int .i64, .int .i64]), .sl 25 (.sl 3 (.int .i64))]), .sl 3 (.int .i64)], .str] (.int .i64)), (130, .ptr (.st [.sl 5 (.int .u8), .int .i64, .int .i64])), (131, .fn [.sl 5 (.int .u8)] (.ptr (.st [.sl 5 (.int .u8), .int .i64, .int .i64]))), (132, .fn [.ptr (.st [.sl 5 (.int .u8), .int .i64, .int .i64]), .int .i64] (.st [.int .i64, .sl 92 (.st [.str, .int .i64, .sl 158 (.st [.int .i64, .sl 3 (.int .i64), .sl 3 (.int .i64)])]), .sl 163 (.st [.int .i64, .int .i64, .bool, .int .i64]), .sl 104 (.st [.sl 169 (.st [.int .i64, .int .i64]), .sl 25 (.sl 3 (.int .i64))]), .sl 3 (.int .i64)])), (133, .st [.sl 5 (.int .u8), .int .i64, .int .i64]), (134, .st [.sl 5 (.int .u8), .int .i64, .int .i64]), (135, .fn [.ptr (.st [.sl 5 (.int .u8), .int .i64, .int .i64]), .st [.int .i64, .sl 92 (.st [.str, .int .i64, .sl 158 (.st [.int .i64, .sl 3 (.int .i64), .sl 3 (.int .i64)])]), .sl 163 (.st [.int .i64, .int .i64, .bool, .int .i64]), .sl 104 (.st [.sl 169 (.st [.int .i64, .int .i64]), .sl 25 (.sl 3 (.int .i64))]), .sl 3 (.int .i64)]] (.st [.sl 3 (.int .i64), .sl 3 (.int .i64)])), (136, .fn [.st [.int .i64, .sl 92 (.st [.str, .int .i64, .sl 158 (.st [.int .i64, .sl 3 (.int .i64), .sl 3 (.int .i64)])]), .sl 163 (.st [.int .i64, .int .i64, .bool, .int .i64]), .sl 104 (.st [.sl 169 (.st [.int .i64, .int .i64]), .sl 25 (.sl 3 (.int .i64))]), .sl 3 (.int .i64)]] (.st [.sl 3 (.int .i64), .sl 3 (.int .i64), .sl 25 (.sl 3 (.int .i64))])), (137, .fn [.ptr (.st [.sl 5 (.int .u8), .int .i64, .int .i64]), .int .i64] (.int .i64)), (138, .fn [.st [.sl 3 (.int .i64), .sl 3 (.int .i64), .sl 25 (.sl 3 (.int .i64))], .st [.int .i64, .int .i64, .int .i64]] (.st [.sl 3 (.int .i64), .sl 3 (.int .i64), .sl 25 (.sl 3 (.int .i64))])), (139, .st [.int .i64, .int .i64, .int .i64]), (140, .st [.int .i64, .int .i64, .int .i64]), (141, .fn [.st [.sl 3 (.int .i64), .sl 3 (.int .i64), .sl 25 (.sl 3 (.int .i64))]] (.bool)), (142, .fn [.st [.int .i64, .sl 92 (.st [.str, .int .i64, .sl 158 (.st [.int .i64, .sl 3 (.int .i64), .sl 3 (.int .i64)])]), .sl 163 (.st [.int .i64, .int .i64, .bool, .int .i64]), .sl 104 (.st [.sl 169 (.st [.int .i64, .int .i64]), .sl 25 (.sl 3 (.int .i64))]), .sl 3 (.int .i64)], .st [.sl 3 (.int .i64), .sl 3 (.int .i64), .sl 25 (.sl 3 (.int .i64))]] (.bool)), (144, .fn [.st [.sl 3 (.int .i64), .sl 3 (.int .i64), .sl 25 (.sl 3 (.int .i64))], .int .i64] (.tup [.int .i64, .int .i64])), (145, .fn [.st [.str, .int .i64, .sl 158 (.st [.int .i64, .sl 3 (.int .i64), .sl 3 (.int .i64)])], .sl 3 (.int .i64)] (.int .i64)), (146, .fn [.st [.int .i64, .sl 92 (.st [.str, .int .i64, .sl 158 (.st [.int .i64, .sl 3 (.int .i64), .sl 3 (.int .i64)])]), .sl 163 (.st [.int .i64, .int .i64, .bool, .int .i64]), .sl 104 (.st [.sl 169 (.st [.int .i64, .int .i64]), .sl 25 (.sl 3 (.int .i64))]), .sl 3 (.int .i64)], .st [.int .i64, .int .i64, .int .i64, .int .i64]] (.bool)), (147, .fn [.st [.sl 3 (.int .i64), .sl 3 (.int .i64)], .st [.int .i64, .int .i64, .int .i64, .int .i64]] (.bool)), (148, .fn [.st [.sl 3 (.int .i64), .sl 3 (.int .i64)], .int .i64] (.sl 3 (.int .i64))), (157, .st [.int .i64, .sl 3 (.int .i64), .sl 3 (.int .i64)]), (158, .st [.int .i64, .sl 3 (.int .i64), .sl 3 (.int .i64)]), (160, .fn [.sl 169 (.st [.int .i64, .int .i64])] (.bool)), (162, .st [.int .i64, .int .i64, .bool, .int .i64]), (163, .st [.int .i64, .int .i64, .bool, .int .i64]), (167, .fn [.st [.sl 3 (.int .i64), .sl 3 (.int .i64)], .int .i64] (.st [.int .i64, .sl 3 (.int .i64), .sl 3 (.int .i64)])), (168, .st [.int .i64, .int .i64]), (169, .st [.int .i64, .int .i64]), (173, .fn [.st [.int .i64, .sl 92 (.st [.str, .int .i64, .sl 158 (.st [.int .i64, .sl 3 (.int .i64), .sl 3 (.int .i64)])]), .sl 163 (.st [.int .i64, .int .i64, .bool, .int .i64]), .sl 104 (.st [.sl 169 (.st [.int .i64, .int .i64]), .sl 25 (.sl 3 (.int .i64))]), .sl 3 (.int .i64)], .st [.sl 3 (.int .i64), .sl 3 (.int .i64)], .int .i64] (.int .i64)), (181, .fn [.st [.str, .int .i64, .sl 158 (.st [.int .i64, .sl 3 (.int .i64), .sl 3 (.int .i64)])], .int .i64, .int .i64] (.bool)), (182, .fn [.st [.sl 169 (.st [.int .i64, .int .i64]), .sl 25 (.sl 3 (.int .i64))]] (.bool)), (188, .fn [.sl 163 (.st [.int .i64, .int .i64, .bool, .int .i64]), .fn [.st [.int .i64, .int .i64, .bool, .int .i64]] (.bool)] (.bool)), (189, .fn [.st [.int .i64, .int .i64, .bool, .int .i64]] (.bool)), (196, .fn [.sl 92 (.st [.str, .int .i64, .sl 158 (.st [.int .i64, .sl 3 (.int .i64), .sl 3 (.int .i64)])]), .fn [.st [.str, .int .i64, .sl 158 (.st [.int .i64, .sl 3 (.int .i64), .sl 3 (.int .i64)])]] (.bool)] (.int .i64)), (197, .fn [.st [.str, .int .i64, .sl 158 (.st [.int .i64, .sl 3 (.int .i64), .sl 3 (.int .i64)])]] (.bool)), (202, .fn [.ptr (.st [.sl 5 (.int .u8), .int .i64, .int .i64])] (.sl 169 (.st [.int .i64, .int .i64]))), (203, .fn [.ptr (.st [.sl 5 (.int .u8), .int .i64, .int .i64]), .int .i64] (.bool)), (204, .fn [.ptr (.st [.sl 5 (.int .u8), .int .i64, .int .i64])] (.sl 25 (.sl 3 (.int .i64)))), (205, .fn [.ptr (.st [.sl 5 (.int .u8), .int .i64, .int .i64]), .int .i64, .int .i64, .int .i64] (.st [.str, .int .i64, .sl 158 (.st [.int .i64, .sl 3 (.int .i64), .sl 3 (.int .i64)])])), (206, .fn [.ptr (.st [.sl 5 (.int .u8), .int .i64, .int .i64])] (.int .i64)), (207, .fn [.st [.sl 3 (.int .i64), .sl 3 (.int .i64), .sl 25 (.sl 3 (.int .i64))]] (.st [.sl 3 (.int .i64), .sl 3 (.int .i64), .sl 25 (.sl 3 (.int .i64))])), (208, .fn [.st [.sl 3 (.int .i64), .sl 3 (.int .i64), .sl 25 (.sl 3 (.int .i64))], .int .i64] (.bool)), (209, .fn [.int .i64] (.int .i64)), (210, .fn [.int .i64, .int .i64] (.int .i64)), (211, .fn [.sl 3 (.int .i64), .sl 3 (.int .i64)] (.sl 3 (.int .i64))), (212, .fn [.sl 3 (.int .i64), .int .i64] (.sl 3 (.int .i64))), (213, .fn [.st [.sl 3 (.int .i64), .sl 3 (.int .i64), .sl 25 (.sl 3 (.int .i64))], .int .i64] (.int .i64)), (214, .fn [.st [.str, .int .i64, .sl 158 (.st [.int .i64, .sl 3 (.int .i64), .sl 3 (.int .i64)])], .sl 3 (.int .i64)] (.sl 158 (.st [.int .i64, .sl 3 (.int .i64), .sl 3 (.int .i64)]))), (215, .fn [.st [.int .i64, .sl 92 (.st [.str, .int .i64, .sl 158 (.st [.int .i64, .sl 3 (.int .i64), .sl 3 (.int .i64)])]), .sl 163 (.st [.int .i64, .int .i64, .bool, .int .i64]), .sl 104 (.st [.sl 169 (.st [.int .i64, .int .i64]), .sl 25 (.sl 3 (.int .i64))]), .sl 3 (.int .i64)], .int .i64] (.bool)), (216, .fn [.st [.sl 3 (.int .i64), .sl 3 (.int .i64)], .st [.int .i64, .int .i64, .bool, .int .i64]] (.bool)), (217, .fn [.st [.sl 3 (.int .i64), .sl 3 (.int .i64)], .int .i64, .int .i64, .int .i64] (.int .i64)), (218, .fn [.sl 169 (.st [.int .i64, .int .i64]), .int .i64, .int .i64] (.int .i64)), (219, .fn [.st [.sl 3 (.int .i64), .sl 3 (.int .i64)], .int .i64, .int .i64, .int .i64] (.bool)), (220, .fn [.sl 3 (.int .i64), .fn [.int .i64] (.bool)] (.sl 3 (.int .i64))), (221, .fn [.int .i64] (.sl 3 (.int .i64))), (231, .fn [.st [.int .i64, .sl 3 (.int .i64), .sl 3 (.int .i64)], .int .i64, .int .i64] (.bool)), (232, .fn [.str] (.bool)), (235, .fn [.sl 163 (.st [.int .i64, .int .i64, .bool, .int .i64]), .fn [.st [.int .i64, .int .i64, .bool, .int .i64]] (.bool)] (.int .i64)), (247, .fn [.ptr (.st [.sl 5 (.int .u8), .int .i64, .int .i64]), .int .i64] (.str)), (248, .fn [.st [.str, .int .i64, .sl 158 (.st [.int .i64, .sl 3 (.int .i64), .sl 3 (.int .i64)])]] (.sl 3 (.int .i64))), (250, .fn [.sl 3 (.int .i64)] (.bool)), (251, .fn [.sl 25 (.sl 3 (.int .i64)), .fn [.sl 3 (.int .i64)] (.bool)] (.bool)), (252, .fn [.st [.int .i64, .sl 92 (.st [.str, .int .i64, .sl 158 (.st [.int .i64, .sl 3 (.int .i64), .sl 3 (.int .i64)])]), .sl 163 (.st [.int .i64, .int .i64, .bool, .int .i64]), .sl 104 (.st [.sl 169 (.st [.int .i64, .int .i64]), .sl 25 (.sl 3 (.int .i64))]), .sl 3 (.int .i64)], .int .i64, .int .i64, .int .i64] (.int .i64)), (271, .fn [.sl 25 (.sl 3 (.int .i64)), .fn [.sl 3 (.int .i64)] (.bool)] (.int .i64))]
theorem tysOk : LkAll (TnOk Tryz.prog) tys := ⟨tn3, tn4, tn5, tn9, tn25, tn28, tn32, tn33, tn34, tn35, tn36, tn37, tn39, tn44, tn45, tn48, tn77, tn78, tn79, tn80, tn81, tn82, tn83, tn84, tn85, tn86, tn87, tn88, tn89, tn90, tn91, tn92, tn93, tn97, tn98, tn99, tn101, tn102, tn103, tn104, tn105, tn109, tn110, tn111, tn115, tn120, tn128, tn130, tn131, tn132, tn133, tn134, tn135, tn136, tn137, tn138, tn139, tn140, tn141, tn142, tn144, tn145, tn146, tn147, tn148, tn157, tn158, tn160, tn162, tn163, tn167, tn168, tn169, tn173, tn181, tn182, tn188, tn189, tn196, tn197, tn202, tn203, tn204, tn205, tn206, tn207, tn208, tn209, tn210, tn211, tn212, tn213, tn214, tn215, tn216, tn217, tn218, tn219, tn220, tn221, tn231, tn232, tn235, tn247, tn248, tn250, tn251, tn252, tn271, trivial⟩
noncomputable def tabName : String := ((Tryz.prog.globals[3]?).map (·.name)).getD (show String from default)
noncomputable def base_ : Base := [(tabName, Lib.pow10Tab.map fun z => Value.int .u64 z)]
theorem base_tab (w : World) (P : Prot) (h : BaseOk Tryz.prog base_ w P) : Lib.TabIs Tryz.prog w tabName .u64 Lib.pow10Tab := varAt_tab (h _ (List.mem_singleton.2 rfl))
def spec_l01In (x : D_Literal) (c : Unit) : (Option (Bool × Unit)) :=
  (Option.bind ((if (leZ x.2.1 x.1) = true then (some ((leZ x.1 x.2.2.1), ())) else (some (false, ()))) : (Option (Bool × Unit))) fun v0 => (some (v0.1, ())))
def H_spec_l01In : Hd := ⟨[.int .i64, .int .i64, .int .i64], [], none, .p, .bool, .p, []⟩
def T_spec_l01In : FSig := sg_ H_spec_l01In spec_l01In
theorem E_spec_l01In : fnOf tys [] Tryz.f50 H_spec_l01In = T_spec_l01In := by kernel_rfl
theorem K_spec_l01In : SigB base_ Tryz.prog 50 T_spec_l01In := (congrArg (SigB base_ Tryz.prog 50) E_spec_l01In).mp (fnOf_ok rfl tysOk trivial Tryz.func50 (by decide) rfl (fun _ h => by cases h) (nilEq_of (by kernel_rfl)))
abbrev s_spec_ActivityIndex_L0 : Type := (Int × (Int × ((List D_Activity) × ((List UInt8) × Unit))))
def spec_ActivityIndex_L0 : s_spec_ActivityIndex_L0 → Option (Out s_spec_ActivityIndex_L0 ((Bool × s_spec_ActivityIndex_L0) ⊕ Empty) (Int × Unit)) :=
  (fun v0 => (if (ltZ v0.1 v0.2.1) = true then (Option.bind (getI v0.2.2.1 v0.1) fun v1 => (if (eqS v1.1 v0.2.2.2.1) = true then (some (Out.ret (v0.1, ()))) else (some (Out.norm ((addZ .i64 v0.1 1), (v0.2.1, (v0.2.2.1, (v0.2.2.2.1, ())))))))) else (some (Out.exit (Sum.inl ((ltZ v0.1 v0.2.1), (v0.1, (v0.2.1, (v0.2.2.1, (v0.2.2.2.1, ()))))))))))
def spec_ActivityIndex (x : (D_Project × ((List UInt8) × Unit))) (c : Unit) : (Option (Int × Unit)) :=
  (Option.bind (loopN (A := s_spec_ActivityIndex_L0) big spec_ActivityIndex_L0 (0, ((lenI x.1.2.1), (x.1.2.1, (x.2.1, ()))))) fun v2 => (match v2 with | Out.norm v3 => none | Out.exit v4 => (match ((match v4 with | Sum.inl v7 => (Sum.inl ()) | Sum.inr v8 => (Empty.elim v8)) : (Unit ⊕ Empty)) with | Sum.inl v5 => (some ((-1), ())) | Sum.inr v6 => none) | Out.ret v9 => (some v9)))
def H_spec_ActivityIndex : Hd := ⟨[y_0, .str], [], none, .p, .int .i64, .p, []⟩
def T_spec_ActivityIndex : FSig := sg_ H_spec_ActivityIndex spec_ActivityIndex
theorem E_spec_ActivityIndex : fnOf tys [] Tryz.f87 H_spec_ActivityIndex = T_spec_ActivityIndex := by kernel_rfl
theorem K_spec_ActivityIndex : SigB base_ Tryz.prog 87 T_spec_ActivityIndex := (congrArg (SigB base_ Tryz.prog 87) E_spec_ActivityIndex).mp (fnOf_ok rfl tysOk trivial Tryz.func87 (by decide) rfl (fun _ h => by cases h) (nilEq_of (by kernel_rfl)))
abbrev s_spec_l04Nums_L0 : Type := (Int × (Int × ((List Int) × ((List Int) × (Int × Unit)))))
def spec_l04Nums_L0 : s_spec_l04Nums_L0 → Option (Out s_spec_l04Nums_L0 ((Bool × s_spec_l04Nums_L0) ⊕ Empty) (Bool × Unit)) :=
  (fun v0 => (if (ltZ v0.1 v0.2.1) = true then (Option.bind (getI v0.2.2.1 v0.1) fun v1 => (Option.bind ((Option.bind (spec_l01In (v1, (0, (20, ()))) ()) fun v2 => (some v2.1)) : (Option Bool)) fun v3 => (if (notB v3) = true then (some (Out.ret (false, ()))) else (some (Out.norm ((addZ .i64 v0.1 1), (v0.2.1, (v0.2.2.1, (v0.2.2.2.1, (v0.2.2.2.2.1, ())))))))))) else (some (Out.exit (Sum.inl ((ltZ v0.1 v0.2.1), (v0.1, (v0.2.1, (v0.2.2.1, (v0.2.2.2.1, (v0.2.2.2.2.1, ())))))))))))
def spec_l04Nums (x : ((List Int) × (Int × Unit))) (c : Unit) : (Option (Bool × Unit)) :=
  (Option.bind (loopN (A := s_spec_l04Nums_L0) big spec_l04Nums_L0 (0, ((lenI x.1), (x.1, (x.1, (x.2.1, ())))))) fun v4 => (match v4 with | Out.norm v5 => none | Out.exit v6 => (match ((match v6 with | Sum.inl v9 => (Sum.inl (v9.2.2.2.2.1, (v9.2.2.2.2.2.1, ()))) | Sum.inr v10 => (Empty.elim v10)) : (((List Int) × (Int × Unit)) ⊕ Empty)) with | Sum.inl v7 => (some ((eqZ (lenI v7.1) v7.2.1), ())) | Sum.inr v8 => none) | Out.ret v11 => (some v11)))
def H_spec_l04Nums : Hd := ⟨[.sl 3 (.int .i64), .int .i64], [], none, .p, .bool, .p, []⟩
def T_spec_l04Nums : FSig := sg_ H_spec_l04Nums spec_l04Nums
theorem E_spec_l04Nums : fnOf tys [(50, T_spec_l01In)] Tryz.f226 H_spec_l04Nums = T_spec_l04Nums := by kernel_rfl
theorem K_spec_l04Nums : SigB base_ Tryz.prog 226 T_spec_l04Nums := (congrArg (SigB base_ Tryz.prog 226) E_spec_l04Nums).mp (fnOf_ok rfl tysOk ⟨K_spec_l01In, trivial⟩ Tryz.func226 (by decide) rfl (fun _ h => by cases h) (nilEq_of (by kernel_rfl)))
def spec_ModeOk (x : (D_Mode × D_Step)) (c : Unit) : (Option (Bool × Unit)) :=
  (Option.bind ((Option.bind (spec_l01In (x.1.1, (1, (12, ()))) ()) fun v0 => (some v0.1)) : (Option Bool)) fun v1 => (Option.bind ((if v1 = true then (Option.bind ((Option.bind (spec_l04Nums (x.1.2.1, (x.2.1, ())) ()) fun v2 => (some v2.1)) : (Option Bool)) fun v3 => (Option.bind ((if v3 = true then (Option.bind ((Option.bind (spec_l04Nums (x.1.2.2.1, (x.2.2.1, ())) ()) fun v4 => (some v4.1)) : (Option Bool)) fun v5 => (some (v5, ()))) else (some (false, ()))) : (Option (Bool × Unit))) fun v6 => (some (v6.1, ())))) else (some (false, ()))) : (Option (Bool × Unit))) fun v7 => (some (v7.1, ()))))
def H_spec_ModeOk : Hd := ⟨[y_4, .int .i64, .int .i64], [], none, .p, .bool, .p, []⟩
def T_spec_ModeOk : FSig := sg_ H_spec_ModeOk spec_ModeOk
theorem E_spec_ModeOk : fnOf tys [(50, T_spec_l01In), (226, T_spec_l04Nums)] Tryz.f188 H_spec_ModeOk = T_spec_ModeOk := by kernel_rfl
theorem K_spec_ModeOk : SigB base_ Tryz.prog 188 T_spec_ModeOk := (congrArg (SigB base_ Tryz.prog 188) E_spec_ModeOk).mp (fnOf_ok rfl tysOk ⟨K_spec_l01In, K_spec_l04Nums, trivial⟩ Tryz.func188 (by decide) rfl (fun _ h => by cases h) (nilEq_of (by kernel_rfl)))
abbrev s_spec_IsName_L0 : Type := (Int × ((List UInt8) × Unit))
def spec_IsName_L0 : s_spec_IsName_L0 → Option (Out s_spec_IsName_L0 ((Bool × s_spec_IsName_L0) ⊕ Empty) (Bool × Unit)) :=
  (fun v0 => (if (ltZ v0.1 (lenI v0.2.1)) = true then (Option.bind (byteAt v0.2.1 v0.1) fun v1 => (Option.bind ((if (leZ 97 v1) = true then (Option.bind (byteAt v0.2.1 v0.1) fun v2 => (some ((leZ v2 122), (v0.1, (v0.2.1, ()))))) else (some (false, (v0.1, (v0.2.1, ()))))) : (Option (Bool × (Int × ((List UInt8) × Unit))))) fun v3 => (Option.bind ((if (notB v3.1) = true then (Option.bind ((if (eqZ v3.2.1 0) = true then (some (true, (v3.2.1, (v3.2.2.1, ())))) else (Option.bind (byteAt v3.2.2.1 v3.2.1) fun v4 => (Option.bind ((if (ltZ v4 48) = true then (some (true, (v3.2.1, (v3.2.2.1, ())))) else (Option.bind (byteAt v3.2.2.1 v3.2.1) fun v5 => (some ((ltZ 57 v5), (v3.2.1, (v3.2.2.1, ())))))) : (Option (Bool × (Int × ((List UInt8) × Unit))))) fun v6 => (some (v6.1, (v6.2.1, (v6.2.2.1, ()))))))) : (Option (Bool × (Int × ((List UInt8) × Unit))))) fun v7 => (some (v7.1, (v7.2.1, (v7.2.2.1, ()))))) else (some (false, (v3.2.1, (v3.2.2.1, ()))))) : (Option (Bool × (Int × ((List UInt8) × Unit))))) fun v8 => (if v8.1 = true then (some (Out.ret (false, ()))) else (some (Out.norm ((addZ .i64 v8.2.1 1), (v8.2.2.1, ())))))))) else (some (Out.exit (Sum.inl ((ltZ v0.1 (lenI v0.2.1)), (v0.1, (v0.2.1, ()))))))))
def spec_IsName (x : ((List UInt8) × Unit)) (c : Unit) : (Option (Bool × Unit)) :=
  (Option.bind (loopN (A := s_spec_IsName_L0) big spec_IsName_L0 (0, (x.1, ()))) fun v9 => (match v9 with | Out.norm v10 => none | Out.exit v11 => (match ((match v11 with | Sum.inl v16 => (Sum.inl (v16.2.2.1, ())) | Sum.inr v17 => (Empty.elim v17)) : (((List UInt8) × Unit) ⊕ Empty)) with | Sum.inl v12 => (Option.bind ((Option.bind (spec_l01In ((lenI v12.1), (1, (8, ()))) ()) fun v13 => (some v13.1)) : (Option Bool)) fun v14 => (some (v14, ()))) | Sum.inr v15 => none) | Out.ret v18 => (some v18)))
def H_spec_IsName : Hd := ⟨[.str], [], none, .p, .bool, .p, []⟩
def T_spec_IsName : FSig := sg_ H_spec_IsName spec_IsName
theorem E_spec_IsName : fnOf tys [(50, T_spec_l01In)] Tryz.f189 H_spec_IsName = T_spec_IsName := by kernel_rfl
theorem K_spec_IsName : SigB base_ Tryz.prog 189 T_spec_IsName := (congrArg (SigB base_ Tryz.prog 189) E_spec_IsName).mp (fnOf_ok rfl tysOk ⟨K_spec_l01In, trivial⟩ Tryz.func189 (by decide) rfl (fun _ h => by cases h) (nilEq_of (by kernel_rfl)))
abbrev s_spec_ActivityOk_L0 : Type := (Int × (Int × ((List D_Mode) × (Int × (Int × (D_Activity × Unit))))))
def spec_ActivityOk_L0 : s_spec_ActivityOk_L0 → Option (Out s_spec_ActivityOk_L0 ((Bool × s_spec_ActivityOk_L0) ⊕ Empty) (Bool × Unit)) :=
  (fun v0 => (if (ltZ v0.1 v0.2.1) = true then (Option.bind (getI v0.2.2.1 v0.1) fun v1 => (Option.bind ((Option.bind (spec_ModeOk (v1, (v0.2.2.2.1, (v0.2.2.2.2.1, ()))) ()) fun v2 => (some v2.1)) : (Option Bool)) fun v3 => (if (notB v3) = true then (some (Out.ret (false, ()))) else (some (Out.norm ((addZ .i64 v0.1 1), (v0.2.1, (v0.2.2.1, (v0.2.2.2.1, (v0.2.2.2.2.1, (v0.2.2.2.2.2.1, ()))))))))))) else (some (Out.exit (Sum.inl ((ltZ v0.1 v0.2.1), (v0.1, (v0.2.1, (v0.2.2.1, (v0.2.2.2.1, (v0.2.2.2.2.1, (v0.2.2.2.2.2.1, ()))))))))))))
def spec_ActivityOk (x : (D_Activity × D_Step)) (c : Unit) : (Option (Bool × Unit)) :=
  (Option.bind (loopN (A := s_spec_ActivityOk_L0) big spec_ActivityOk_L0 (0, ((lenI x.1.2.2.1), (x.1.2.2.1, (x.2.1, (x.2.2.1, (x.1, ()))))))) fun v4 => (match v4 with | Out.norm v5 => none | Out.exit v6 => (match ((match v6 with | Sum.inl v17 => (Sum.inl (v17.2.2.2.2.2.2.1, ())) | Sum.inr v18 => (Empty.elim v18)) : ((D_Activity × Unit) ⊕ Empty)) with | Sum.inl v7 => (Option.bind ((Option.bind (spec_IsName (v7.1.1, ()) ()) fun v8 => (some v8.1)) : (Option Bool)) fun v9 => (Option.bind ((if v9 = true then (Option.bind ((Option.bind (spec_l01In (v7.1.2.1, (0, (3, ()))) ()) fun v10 => (some v10.1)) : (Option Bool)) fun v11 => (Option.bind ((if v11 = true then (Option.bind ((Option.bind (spec_l01In ((lenI v7.1.2.2.1), (1, (3, ()))) ()) fun v12 => (some v12.1)) : (Option Bool)) fun v13 => (some (v13, ()))) else (some (false, ()))) : (Option (Bool × Unit))) fun v14 => (some (v14.1, ())))) else (some (false, ()))) : (Option (Bool × Unit))) fun v15 => (some (v15.1, ())))) | Sum.inr v16 => none) | Out.ret v19 => (some v19)))
def H_spec_ActivityOk : Hd := ⟨[y_1, .int .i64, .int .i64], [], none, .p, .bool, .p, []⟩
def T_spec_ActivityOk : FSig := sg_ H_spec_ActivityOk spec_ActivityOk
theorem E_spec_ActivityOk : fnOf tys [(50, T_spec_l01In), (188, T_spec_ModeOk), (189, T_spec_IsName)] Tryz.f129 H_spec_ActivityOk = T_spec_ActivityOk := by kernel_rfl
theorem K_spec_ActivityOk : SigB base_ Tryz.prog 129 T_spec_ActivityOk := (congrArg (SigB base_ Tryz.prog 129) E_spec_ActivityOk).mp (fnOf_ok rfl tysOk ⟨K_spec_l01In, K_spec_ModeOk, K_spec_IsName, trivial⟩ Tryz.func129 (by decide) rfl (fun _ h => by cases h) (nilEq_of (by kernel_rfl)))
abbrev s_spec_StepsOk_L0 : Type := (Int × (Int × ((List D_Step) × ((List D_Step) × Unit))))
def spec_StepsOk_L0 : s_spec_StepsOk_L0 → Option (Out s_spec_StepsOk_L0 ((Bool × s_spec_StepsOk_L0) ⊕ Empty) (Bool × Unit)) :=
  (fun v0 => (if (ltZ v0.1 v0.2.1) = true then (Option.bind (getI v0.2.2.1 v0.1) fun v1 => (Option.bind ((Option.bind (spec_l01In (v1.1, (0, (60, ()))) ()) fun v2 => (some v2.1)) : (Option Bool)) fun v3 => (Option.bind ((if (notB v3) = true then (some (true, (v0.1, (v0.2.1, (v0.2.2.1, (v0.2.2.2.1, ())))))) else (Option.bind ((Option.bind (spec_l01In (v1.2.1, (0, (20, ()))) ()) fun v4 => (some v4.1)) : (Option Bool)) fun v5 => (Option.bind ((if (notB v5) = true then (some (true, (v0.1, (v0.2.1, (v0.2.2.1, (v0.2.2.2.1, ())))))) else (Option.bind ((if (ltZ 0 v0.1) = true then (Option.bind (getI v0.2.2.2.1 (subZ .i64 v0.1 1)) fun v6 => (some ((leZ v1.1 v6.1), (v0.1, (v0.2.1, (v0.2.2.1, (v0.2.2.2.1, ()))))))) else (some (false, (v0.1, (v0.2.1, (v0.2.2.1, (v0.2.2.2.1, ()))))))) : (Option (Bool × (Int × (Int × ((List D_Step) × ((List D_Step) × Unit))))))) fun v7 => (some (v7.1, (v7.2.1, (v7.2.2.1, (v7.2.2.2.1, (v7.2.2.2.2.1, ())))))))) : (Option (Bool × (Int × (Int × ((List D_Step) × ((List D_Step) × Unit))))))) fun v8 => (some (v8.1, (v8.2.1, (v8.2.2.1, (v8.2.2.2.1, (v8.2.2.2.2.1, ()))))))))) : (Option (Bool × (Int × (Int × ((List D_Step) × ((List D_Step) × Unit))))))) fun v9 => (if v9.1 = true then (some (Out.ret (false, ()))) else (some (Out.norm ((addZ .i64 v9.2.1 1), (v9.2.2.1, (v9.2.2.2.1, (v9.2.2.2.2.1, ())))))))))) else (some (Out.exit (Sum.inl ((ltZ v0.1 v0.2.1), (v0.1, (v0.2.1, (v0.2.2.1, (v0.2.2.2.1, ()))))))))))
def spec_StepsOk (x : ((List D_Step) × Unit)) (c : Unit) : (Option (Bool × Unit)) :=
  (Option.bind (loopN (A := s_spec_StepsOk_L0) big spec_StepsOk_L0 (0, ((lenI x.1), (x.1, (x.1, ()))))) fun v10 => (match v10 with | Out.norm v11 => none | Out.exit v12 => (match ((match v12 with | Sum.inl v19 => (Sum.inl (v19.2.2.2.2.1, ())) | Sum.inr v20 => (Empty.elim v20)) : (((List D_Step) × Unit) ⊕ Empty)) with | Sum.inl v13 => (Option.bind ((Option.bind (spec_l01In ((lenI v13.1), (1, (8, ()))) ()) fun v14 => (some v14.1)) : (Option Bool)) fun v15 => (Option.bind ((if v15 = true then (Option.bind (getI v13.1 0) fun v16 => (some ((eqZ v16.1 0), ()))) else (some (false, ()))) : (Option (Bool × Unit))) fun v17 => (some (v17.1, ())))) | Sum.inr v18 => none) | Out.ret v21 => (some v21)))
def H_spec_StepsOk : Hd := ⟨[.sl 169 (.st [.int .i64, .int .i64])], [], none, .p, .bool, .p, []⟩
def T_spec_StepsOk : FSig := sg_ H_spec_StepsOk spec_StepsOk
theorem E_spec_StepsOk : fnOf tys [(50, T_spec_l01In)] Tryz.f113 H_spec_StepsOk = T_spec_StepsOk := by kernel_rfl
theorem K_spec_StepsOk : SigB base_ Tryz.prog 113 T_spec_StepsOk := (congrArg (SigB base_ Tryz.prog 113) E_spec_StepsOk).mp (fnOf_ok rfl tysOk ⟨K_spec_l01In, trivial⟩ Tryz.func113 (by decide) rfl (fun _ h => by cases h) (nilEq_of (by kernel_rfl)))
abbrev s_spec_ResourceOk_L0 : Type := (Int × (Int × ((List Int) × (Int × (Int × ((List (List Int)) × (D_Resource × Unit)))))))
def spec_ResourceOk_L0 : s_spec_ResourceOk_L0 → Option (Out s_spec_ResourceOk_L0 ((Bool × s_spec_ResourceOk_L0) ⊕ Empty) (Bool × Unit)) :=
  (fun v2 => (if (ltZ v2.1 v2.2.1) = true then (Option.bind (getI v2.2.2.1 v2.1) fun v3 => (Option.bind ((Option.bind (spec_l01In (v3, (0, (12, ()))) ()) fun v4 => (some v4.1)) : (Option Bool)) fun v5 => (if (notB v5) = true then (some (Out.ret (false, ()))) else (some (Out.norm ((addZ .i64 v2.1 1), (v2.2.1, (v2.2.2.1, (v2.2.2.2.1, (v2.2.2.2.2.1, (v2.2.2.2.2.2.1, (v2.2.2.2.2.2.2.1, ())))))))))))) else (some (Out.exit (Sum.inl ((ltZ v2.1 v2.2.1), (v2.1, (v2.2.1, (v2.2.2.1, (v2.2.2.2.1, (v2.2.2.2.2.1, (v2.2.2.2.2.2.1, (v2.2.2.2.2.2.2.1, ())))))))))))))
abbrev s_spec_ResourceOk_L1 : Type := (Int × (Int × ((List (List Int)) × (D_Resource × Unit))))
def spec_ResourceOk_L1 : s_spec_ResourceOk_L1 → Option (Out s_spec_ResourceOk_L1 ((Bool × s_spec_ResourceOk_L1) ⊕ Empty) (Bool × Unit)) :=
  (fun v0 => (if (ltZ v0.1 v0.2.1) = true then (Option.bind (getI v0.2.2.1 v0.1) fun v1 => (if (notB (eqZ (lenI v1) 4)) = true then (some (Out.ret (false, ()))) else (Option.bind (loopN (A := s_spec_ResourceOk_L0) big spec_ResourceOk_L0 (0, ((lenI v1), (v1, (v0.1, (v0.2.1, (v0.2.2.1, (v0.2.2.2.1, ())))))))) fun v6 => (match v6 with | Out.norm v7 => none | Out.exit v8 => (match ((match v8 with | Sum.inl v13 => (Sum.inl (v13.2.2.2.2.1, (v13.2.2.2.2.2.1, (v13.2.2.2.2.2.2.1, (v13.2.2.2.2.2.2.2.1, ()))))) | Sum.inr v14 => (Empty.elim v14)) : ((Int × (Int × ((List (List Int)) × (D_Resource × Unit)))) ⊕ Empty)) with | Sum.inl v9 => (some (Out.norm ((addZ .i64 v9.1 1), (v9.2.1, (v9.2.2.1, (v9.2.2.2.1, ())))))) | Sum.inr v10 => (match ((Empty.elim v10) : ((Int × (Int × ((List (List Int)) × (D_Resource × Unit)))) ⊕ Empty)) with | Sum.inl v11 => (some (Out.norm ((addZ .i64 v11.1 1), (v11.2.1, (v11.2.2.1, (v11.2.2.2.1, ())))))) | Sum.inr v12 => (some (Out.exit (Sum.inr (Empty.elim v12)))))) | Out.ret v15 => (some (Out.ret v15)))))) else (some (Out.exit (Sum.inl ((ltZ v0.1 v0.2.1), (v0.1, (v0.2.1, (v0.2.2.1, (v0.2.2.2.1, ()))))))))))
def spec_ResourceOk (x : (D_Resource × Unit)) (c : Unit) : (Option (Bool × Unit)) :=
  (Option.bind (loopN (A := s_spec_ResourceOk_L1) big spec_ResourceOk_L1 (0, ((lenI x.1.2.1), (x.1.2.1, (x.1, ()))))) fun v16 => (match v16 with | Out.norm v17 => none | Out.exit v18 => (match ((match v18 with | Sum.inl v25 => (Sum.inl (v25.2.2.2.2.1, ())) | Sum.inr v26 => (Empty.elim v26)) : ((D_Resource × Unit) ⊕ Empty)) with | Sum.inl v19 => (Option.bind ((Option.bind (spec_StepsOk (v19.1.1, ()) ()) fun v20 => (some v20.1)) : (Option Bool)) fun v21 => (Option.bind ((if v21 = true then (Option.bind ((if (eqZ (lenI v19.1.2.1) 0) = true then (some (true, ())) else (some ((eqZ (lenI v19.1.2.1) 4), ()))) : (Option (Bool × Unit))) fun v22 => (some (v22.1, ()))) else (some (false, ()))) : (Option (Bool × Unit))) fun v23 => (some (v23.1, ())))) | Sum.inr v24 => none) | Out.ret v27 => (some v27)))
def H_spec_ResourceOk : Hd := ⟨[y_2], [], none, .p, .bool, .p, []⟩
def T_spec_ResourceOk : FSig := sg_ H_spec_ResourceOk spec_ResourceOk
theorem E_spec_ResourceOk : fnOf tys [(50, T_spec_l01In), (113, T_spec_StepsOk)] Tryz.f130 H_spec_ResourceOk = T_spec_ResourceOk := by kernel_rfl
theorem K_spec_ResourceOk : SigB base_ Tryz.prog 130 T_spec_ResourceOk := (congrArg (SigB base_ Tryz.prog 130) E_spec_ResourceOk).mp (fnOf_ok rfl tysOk ⟨K_spec_l01In, K_spec_StepsOk, trivial⟩ Tryz.func130 (by decide) rfl (fun _ h => by cases h) (nilEq_of (by kernel_rfl)))
abbrev s_spec_ProjectOk_L0 : Type := (Int × (Int × ((List D_Activity) × (D_Project × (Int × Unit)))))
def spec_ProjectOk_L0 : s_spec_ProjectOk_L0 → Option (Out s_spec_ProjectOk_L0 ((Bool × s_spec_ProjectOk_L0) ⊕ Empty) (Bool × Unit)) :=
  (fun v8 => (if (ltZ v8.1 v8.2.1) = true then (Option.bind (getI v8.2.2.1 v8.1) fun v9 => (Option.bind ((Option.bind (spec_ActivityOk (v9, ((lenI v8.2.2.2.1.2.2.2.1), ((lenI v8.2.2.2.1.2.2.2.2.1), ()))) ()) fun v10 => (some v10.1)) : (Option Bool)) fun v11 => (Option.bind ((if (notB v11) = true then (some (true, (v8.1, (v8.2.1, (v8.2.2.1, (v8.2.2.2.1, (v8.2.2.2.2.1, ()))))))) else (Option.bind ((Option.bind (spec_ActivityIndex (v8.2.2.2.1, (v9.1, ())) ()) fun v12 => (some v12.1)) : (Option Int)) fun v13 => (some ((notB (eqZ v13 v8.1)), (v8.1, (v8.2.1, (v8.2.2.1, (v8.2.2.2.1, (v8.2.2.2.2.1, ()))))))))) : (Option (Bool × (Int × (Int × ((List D_Activity) × (D_Project × (Int × Unit)))))))) fun v14 => (if v14.1 = true then (some (Out.ret (false, ()))) else (some (Out.norm ((addZ .i64 v14.2.1 1), (v14.2.2.1, (v14.2.2.2.1, (v14.2.2.2.2.1, (v14.2.2.2.2.2.1, ()))))))))))) else (some (Out.exit (Sum.inl ((ltZ v8.1 v8.2.1), (v8.1, (v8.2.1, (v8.2.2.1, (v8.2.2.2.1, (v8.2.2.2.2.1, ())))))))))))
abbrev s_spec_ProjectOk_L1 : Type := (Int × (Int × ((List D_Resource) × (D_Project × (Int × Unit)))))
def spec_ProjectOk_L1 : s_spec_ProjectOk_L1 → Option (Out s_spec_ProjectOk_L1 ((Bool × s_spec_ProjectOk_L1) ⊕ Empty) (Bool × Unit)) :=
  (fun v19 => (if (ltZ v19.1 v19.2.1) = true then (Option.bind (getI v19.2.2.1 v19.1) fun v20 => (Option.bind ((Option.bind (spec_ResourceOk (v20, ()) ()) fun v21 => (some v21.1)) : (Option Bool)) fun v22 => (if (notB v22) = true then (some (Out.ret (false, ()))) else (some (Out.norm ((addZ .i64 v19.1 1), (v19.2.1, (v19.2.2.1, (v19.2.2.2.1, (v19.2.2.2.2.1, ())))))))))) else (some (Out.exit (Sum.inl ((ltZ v19.1 v19.2.1), (v19.1, (v19.2.1, (v19.2.2.1, (v19.2.2.2.1, (v19.2.2.2.2.1, ())))))))))))
abbrev s_spec_ProjectOk_L2 : Type := (Int × (Int × ((List Int) × (D_Project × (Int × Unit)))))
def spec_ProjectOk_L2 : s_spec_ProjectOk_L2 → Option (Out s_spec_ProjectOk_L2 ((Bool × s_spec_ProjectOk_L2) ⊕ Empty) (Bool × Unit)) :=
  (fun v27 => (if (ltZ v27.1 v27.2.1) = true then (Option.bind (getI v27.2.2.1 v27.1) fun v28 => (Option.bind ((Option.bind (spec_l01In (v28, (0, (100, ()))) ()) fun v29 => (some v29.1)) : (Option Bool)) fun v30 => (if (notB v30) = true then (some (Out.ret (false, ()))) else (some (Out.norm ((addZ .i64 v27.1 1), (v27.2.1, (v27.2.2.1, (v27.2.2.2.1, (v27.2.2.2.2.1, ())))))))))) else (some (Out.exit (Sum.inl ((ltZ v27.1 v27.2.1), (v27.1, (v27.2.1, (v27.2.2.1, (v27.2.2.2.1, (v27.2.2.2.2.1, ())))))))))))
abbrev s_spec_ProjectOk_L3 : Type := (Int × (Int × ((List D_Link) × (Int × Unit))))
def spec_ProjectOk_L3 : s_spec_ProjectOk_L3 → Option (Out s_spec_ProjectOk_L3 ((Bool × s_spec_ProjectOk_L3) ⊕ Empty) (Bool × Unit)) :=
  (fun v35 => (if (ltZ v35.1 v35.2.1) = true then (Option.bind (getI v35.2.2.1 v35.1) fun v36 => (Option.bind ((Option.bind (spec_l01In (v36.1, (0, ((subZ .i64 v35.2.2.2.1 1), ()))) ()) fun v37 => (some v37.1)) : (Option Bool)) fun v38 => (Option.bind ((if (notB v38) = true then (some (true, (v35.1, (v35.2.1, (v35.2.2.1, (v35.2.2.2.1, ())))))) else (Option.bind ((Option.bind (spec_l01In (v36.2.1, (0, ((subZ .i64 v35.2.2.2.1 1), ()))) ()) fun v39 => (some v39.1)) : (Option Bool)) fun v40 => (Option.bind ((if (notB v40) = true then (some (true, (v35.1, (v35.2.1, (v35.2.2.1, (v35.2.2.2.1, ())))))) else (Option.bind ((if (eqZ v36.1 v36.2.1) = true then (some (true, (v35.1, (v35.2.1, (v35.2.2.1, (v35.2.2.2.1, ())))))) else (Option.bind ((Option.bind (spec_l01In (v36.2.2.2.1, ((-60), (60, ()))) ()) fun v41 => (some v41.1)) : (Option Bool)) fun v42 => (some ((notB v42), (v35.1, (v35.2.1, (v35.2.2.1, (v35.2.2.2.1, ())))))))) : (Option (Bool × (Int × (Int × ((List D_Link) × (Int × Unit))))))) fun v43 => (some (v43.1, (v43.2.1, (v43.2.2.1, (v43.2.2.2.1, (v43.2.2.2.2.1, ())))))))) : (Option (Bool × (Int × (Int × ((List D_Link) × (Int × Unit))))))) fun v44 => (some (v44.1, (v44.2.1, (v44.2.2.1, (v44.2.2.2.1, (v44.2.2.2.2.1, ()))))))))) : (Option (Bool × (Int × (Int × ((List D_Link) × (Int × Unit))))))) fun v45 => (if v45.1 = true then (some (Out.ret (false, ()))) else (some (Out.norm ((addZ .i64 v45.2.1 1), (v45.2.2.1, (v45.2.2.2.1, (v45.2.2.2.2.1, ())))))))))) else (some (Out.exit (Sum.inl ((ltZ v35.1 v35.2.1), (v35.1, (v35.2.1, (v35.2.2.1, (v35.2.2.2.1, ()))))))))))
def spec_ProjectOk (x : (D_Project × Unit)) (c : Unit) : (Option (Bool × Unit)) :=
  (Option.bind ((Option.bind (spec_l01In (x.1.1, (1, (60, ()))) ()) fun v0 => (some v0.1)) : (Option Bool)) fun v1 => (Option.bind ((if (notB v1) = true then (some (true, (x.1, ((lenI x.1.2.1), ())))) else (Option.bind ((Option.bind (spec_l01In ((lenI x.1.2.1), (1, (6, ()))) ()) fun v2 => (some v2.1)) : (Option Bool)) fun v3 => (Option.bind ((if (notB v3) = true then (some (true, (x.1, ((lenI x.1.2.1), ())))) else (Option.bind ((if (ltZ 3 (lenI x.1.2.2.2.1)) = true then (some (true, (x.1, ((lenI x.1.2.1), ())))) else (Option.bind ((if (ltZ 2 (lenI x.1.2.2.2.2.1)) = true then (some (true, (x.1, ((lenI x.1.2.1), ())))) else (some ((ltZ 12 (lenI x.1.2.2.1)), (x.1, ((lenI x.1.2.1), ()))))) : (Option (Bool × (D_Project × (Int × Unit))))) fun v4 => (some (v4.1, (v4.2.1, (v4.2.2.1, ())))))) : (Option (Bool × (D_Project × (Int × Unit))))) fun v5 => (some (v5.1, (v5.2.1, (v5.2.2.1, ())))))) : (Option (Bool × (D_Project × (Int × Unit))))) fun v6 => (some (v6.1, (v6.2.1, (v6.2.2.1, ()))))))) : (Option (Bool × (D_Project × (Int × Unit))))) fun v7 => (if v7.1 = true then (some (false, ())) else (Option.bind (loopN (A := s_spec_ProjectOk_L0) big spec_ProjectOk_L0 (0, ((lenI v7.2.1.2.1), (v7.2.1.2.1, (v7.2.1, (v7.2.2.1, ())))))) fun v15 => (match v15 with | Out.norm v16 => none | Out.exit v17 => (match ((match v17 with | Sum.inl v63 => (Sum.inl (v63.2.2.2.2.1, (v63.2.2.2.2.2.1, ()))) | Sum.inr v64 => (Empty.elim v64)) : ((D_Project × (Int × Unit)) ⊕ Empty)) with | Sum.inl v18 => (Option.bind (loopN (A := s_spec_ProjectOk_L1) big spec_ProjectOk_L1 (0, ((lenI v18.1.2.2.2.1), (v18.1.2.2.2.1, (v18.1, (v18.2.1, ())))))) fun v23 => (match v23 with | Out.norm v24 => none | Out.exit v25 => (match ((match v25 with | Sum.inl v59 => (Sum.inl (v59.2.2.2.2.1, (v59.2.2.2.2.2.1, ()))) | Sum.inr v60 => (Empty.elim v60)) : ((D_Project × (Int × Unit)) ⊕ Empty)) with | Sum.inl v26 => (Option.bind (loopN (A := s_spec_ProjectOk_L2) big spec_ProjectOk_L2 (0, ((lenI v26.1.2.2.2.2.1), (v26.1.2.2.2.2.1, (v26.1, (v26.2.1, ())))))) fun v31 => (match v31 with | Out.norm v32 => none | Out.exit v33 => (match ((match v33 with | Sum.inl v55 => (Sum.inl (v55.2.2.2.2.1, (v55.2.2.2.2.2.1, ()))) | Sum.inr v56 => (Empty.elim v56)) : ((D_Project × (Int × Unit)) ⊕ Empty)) with | Sum.inl v34 => (Option.bind (loopN (A := s_spec_ProjectOk_L3) big spec_ProjectOk_L3 (0, ((lenI v34.1.2.2.1), (v34.1.2.2.1, (v34.2.1, ()))))) fun v46 => (match v46 with | Out.norm v47 => none | Out.exit v48 => (match ((match v48 with | Sum.inl v51 => (Sum.inl ()) | Sum.inr v52 => (Empty.elim v52)) : (Unit ⊕ Empty)) with | Sum.inl v49 => (some (true, ())) | Sum.inr v50 => none) | Out.ret v53 => (some v53))) | Sum.inr v54 => none) | Out.ret v57 => (some v57))) | Sum.inr v58 => none) | Out.ret v61 => (some v61))) | Sum.inr v62 => none) | Out.ret v65 => (some v65))))))
def H_spec_ProjectOk : Hd := ⟨[y_0], [], none, .p, .bool, .p, []⟩
def T_spec_ProjectOk : FSig := sg_ H_spec_ProjectOk spec_ProjectOk
theorem E_spec_ProjectOk : fnOf tys [(50, T_spec_l01In), (87, T_spec_ActivityIndex), (129, T_spec_ActivityOk), (130, T_spec_ResourceOk)] Tryz.f74 H_spec_ProjectOk = T_spec_ProjectOk := by kernel_rfl
theorem K_spec_ProjectOk : SigB base_ Tryz.prog 74 T_spec_ProjectOk := (congrArg (SigB base_ Tryz.prog 74) E_spec_ProjectOk).mp (fnOf_ok rfl tysOk ⟨K_spec_l01In, K_spec_ActivityIndex, K_spec_ActivityOk, K_spec_ResourceOk, trivial⟩ Tryz.func74 (by decide) rfl (fun _ h => by cases h) (nilEq_of (by kernel_rfl)))
def impl_within (x : D_Literal) (c : Unit) : (Option (Bool × Unit)) :=
  (Option.bind ((if (leZ x.2.1 x.1) = true then (some ((leZ x.1 x.2.2.1), ())) else (some (false, ()))) : (Option (Bool × Unit))) fun v0 => (some (v0.1, ())))
def H_impl_within : Hd := ⟨[.int .i64, .int .i64, .int .i64], [], none, .p, .bool, .p, []⟩
def T_impl_within : FSig := sg_ H_impl_within impl_within
theorem E_impl_within : fnOf tys [] Tryz.f83 H_impl_within = T_impl_within := by kernel_rfl
theorem K_impl_within : SigB base_ Tryz.prog 83 T_impl_within := (congrArg (SigB base_ Tryz.prog 83) E_impl_within).mp (fnOf_ok rfl tysOk trivial Tryz.func83 (by decide) rfl (fun _ h => by cases h) (nilEq_of (by kernel_rfl)))
abbrev s_slices_IndexFunc_impl_Activity_impl_Activity_L0 : Type := (Int × (Int × (((D_Activity × Unit) → (Option Bool)) × ((List D_Activity) × Unit))))
def slices_IndexFunc_impl_Activity_impl_Activity_L0 : s_slices_IndexFunc_impl_Activity_impl_Activity_L0 → Option (Out s_slices_IndexFunc_impl_Activity_impl_Activity_L0 ((Bool × s_slices_IndexFunc_impl_Activity_impl_Activity_L0) ⊕ Empty) (Int × Unit)) :=
  (fun v0 => (if (ltZ v0.1 v0.2.1) = true then (Option.bind (getI v0.2.2.2.1 v0.1) fun v1 => (Option.bind (v0.2.2.1 (v1, ())) fun v2 => (if v2 = true then (some (Out.ret (v0.1, ()))) else (some (Out.norm ((addZ .i64 v0.1 1), (v0.2.1, (v0.2.2.1, (v0.2.2.2.1, ()))))))))) else (some (Out.exit (Sum.inl ((ltZ v0.1 v0.2.1), (v0.1, (v0.2.1, (v0.2.2.1, (v0.2.2.2.1, ()))))))))))
def slices_IndexFunc_impl_Activity_impl_Activity (x : ((List D_Activity) × (((D_Activity × Unit) → (Option Bool)) × Unit))) (c : Unit) : (Option (Int × Unit)) :=
  (Option.bind (loopN (A := s_slices_IndexFunc_impl_Activity_impl_Activity_L0) big slices_IndexFunc_impl_Activity_impl_Activity_L0 (0, ((lenI x.1), (x.2.1, (x.1, ()))))) fun v3 => (match v3 with | Out.norm v4 => none | Out.exit v5 => (match ((match v5 with | Sum.inl v8 => (Sum.inl ()) | Sum.inr v9 => (Empty.elim v9)) : (Unit ⊕ Empty)) with | Sum.inl v6 => (some ((-1), ())) | Sum.inr v7 => none) | Out.ret v10 => (some v10)))
def H_slices_IndexFunc_impl_Activity_impl_Activity : Hd := ⟨[.sl 92 (y_1), .fn [y_1] (.bool)], [], none, .p, .int .i64, .p, []⟩
def T_slices_IndexFunc_impl_Activity_impl_Activity : FSig := sg_ H_slices_IndexFunc_impl_Activity_impl_Activity slices_IndexFunc_impl_Activity_impl_Activity
theorem E_slices_IndexFunc_impl_Activity_impl_Activity : fnOf tys [] Tryz.f145 H_slices_IndexFunc_impl_Activity_impl_Activity = T_slices_IndexFunc_impl_Activity_impl_Activity := by kernel_rfl
theorem K_slices_IndexFunc_impl_Activity_impl_Activity : SigB base_ Tryz.prog 145 T_slices_IndexFunc_impl_Activity_impl_Activity := (congrArg (SigB base_ Tryz.prog 145) E_slices_IndexFunc_impl_Activity_impl_Activity).mp (fnOf_ok rfl tysOk trivial Tryz.func145 (by decide) rfl (fun _ h => by cases h) (nilEq_of (by kernel_rfl)))
def impl_ActivityIndex_1 (x : (D_Activity × Unit)) (c : ((List UInt8) × Unit)) : (Option (Bool × Unit)) :=
  (some ((eqS x.1.1 c.1), ()))
def H_impl_ActivityIndex_1 : Hd := ⟨[y_1], [.str], none, .p, .bool, .p, []⟩
def T_impl_ActivityIndex_1 : FSig := sg_ H_impl_ActivityIndex_1 impl_ActivityIndex_1
theorem E_impl_ActivityIndex_1 : fnOf tys [] Tryz.f146 H_impl_ActivityIndex_1 = T_impl_ActivityIndex_1 := by kernel_rfl
theorem K_impl_ActivityIndex_1 : SigB base_ Tryz.prog 146 T_impl_ActivityIndex_1 := (congrArg (SigB base_ Tryz.prog 146) E_impl_ActivityIndex_1).mp (fnOf_ok rfl tysOk trivial Tryz.func146 (by decide) rfl (fun _ h => by cases h) (nilEq_of (by kernel_rfl)))
def impl_ActivityIndex (x : (D_Project × ((List UInt8) × Unit))) (c : Unit) : (Option (Int × Unit)) :=
  (Option.bind ((Option.bind (slices_IndexFunc_impl_Activity_impl_Activity (x.1.2.1, ((fun v0 => (Option.bind (impl_ActivityIndex_1 v0 (x.2.1, ())) fun v1 => (some v1.1))), ())) ()) fun v2 => (some v2.1)) : (Option Int)) fun v3 => (some (v3, ())))
def H_impl_ActivityIndex : Hd := ⟨[y_0, .str], [], none, .p, .int .i64, .p, []⟩
def T_impl_ActivityIndex : FSig := sg_ H_impl_ActivityIndex impl_ActivityIndex
theorem E_impl_ActivityIndex : fnOf tys [(145, T_slices_IndexFunc_impl_Activity_impl_Activity), (146, T_impl_ActivityIndex_1)] Tryz.f90 H_impl_ActivityIndex = T_impl_ActivityIndex := by kernel_rfl
theorem K_impl_ActivityIndex : SigB base_ Tryz.prog 90 T_impl_ActivityIndex := (congrArg (SigB base_ Tryz.prog 90) E_impl_ActivityIndex).mp (fnOf_ok rfl tysOk ⟨K_slices_IndexFunc_impl_Activity_impl_Activity, K_impl_ActivityIndex_1, trivial⟩ Tryz.func90 (by decide) rfl (fun _ h => by cases h) (nilEq_of (by kernel_rfl)))
def impl_isAmount (x : (Int × Unit)) (c : Unit) : (Option (Bool × Unit)) :=
  (Option.bind ((Option.bind (impl_within (x.1, (0, (20, ()))) ()) fun v0 => (some v0.1)) : (Option Bool)) fun v1 => (some (v1, ())))
def H_impl_isAmount : Hd := ⟨[.int .i64], [], none, .p, .bool, .p, []⟩
def T_impl_isAmount : FSig := sg_ H_impl_isAmount impl_isAmount
theorem E_impl_isAmount : fnOf tys [(83, T_impl_within)] Tryz.f229 H_impl_isAmount = T_impl_isAmount := by kernel_rfl
theorem K_impl_isAmount : SigB base_ Tryz.prog 229 T_impl_isAmount := (congrArg (SigB base_ Tryz.prog 229) E_impl_isAmount).mp (fnOf_ok rfl tysOk ⟨K_impl_within, trivial⟩ Tryz.func229 (by decide) rfl (fun _ h => by cases h) (nilEq_of (by kernel_rfl)))
abbrev s_impl_areAmounts_L0 : Type := (Int × (Int × ((List Int) × ((List Int) × (Int × Unit)))))
def impl_areAmounts_L0 : s_impl_areAmounts_L0 → Option (Out s_impl_areAmounts_L0 ((Bool × s_impl_areAmounts_L0) ⊕ Empty) (Bool × Unit)) :=
  (fun v0 => (if (ltZ v0.1 v0.2.1) = true then (Option.bind (getI v0.2.2.1 v0.1) fun v1 => (Option.bind ((Option.bind (impl_isAmount (v1, ()) ()) fun v2 => (some v2.1)) : (Option Bool)) fun v3 => (if (notB v3) = true then (some (Out.ret (false, ()))) else (some (Out.norm ((addZ .i64 v0.1 1), (v0.2.1, (v0.2.2.1, (v0.2.2.2.1, (v0.2.2.2.2.1, ())))))))))) else (some (Out.exit (Sum.inl ((ltZ v0.1 v0.2.1), (v0.1, (v0.2.1, (v0.2.2.1, (v0.2.2.2.1, (v0.2.2.2.2.1, ())))))))))))
def impl_areAmounts (x : ((List Int) × (Int × Unit))) (c : Unit) : (Option (Bool × Unit)) :=
  (Option.bind (loopN (A := s_impl_areAmounts_L0) big impl_areAmounts_L0 (0, ((lenI x.1), (x.1, (x.1, (x.2.1, ())))))) fun v4 => (match v4 with | Out.norm v5 => none | Out.exit v6 => (match ((match v6 with | Sum.inl v9 => (Sum.inl (v9.2.2.2.2.1, (v9.2.2.2.2.2.1, ()))) | Sum.inr v10 => (Empty.elim v10)) : (((List Int) × (Int × Unit)) ⊕ Empty)) with | Sum.inl v7 => (some ((eqZ (lenI v7.1) v7.2.1), ())) | Sum.inr v8 => none) | Out.ret v11 => (some v11)))
def H_impl_areAmounts : Hd := ⟨[.sl 3 (.int .i64), .int .i64], [], none, .p, .bool, .p, []⟩
def T_impl_areAmounts : FSig := sg_ H_impl_areAmounts impl_areAmounts
theorem E_impl_areAmounts : fnOf tys [(229, T_impl_isAmount)] Tryz.f228 H_impl_areAmounts = T_impl_areAmounts := by kernel_rfl
theorem K_impl_areAmounts : SigB base_ Tryz.prog 228 T_impl_areAmounts := (congrArg (SigB base_ Tryz.prog 228) E_impl_areAmounts).mp (fnOf_ok rfl tysOk ⟨K_impl_isAmount, trivial⟩ Tryz.func228 (by decide) rfl (fun _ h => by cases h) (nilEq_of (by kernel_rfl)))
def impl_ModeOk (x : (D_Mode × D_Step)) (c : Unit) : (Option (Bool × Unit)) :=
  (Option.bind ((Option.bind (impl_within (x.1.1, (1, (12, ()))) ()) fun v0 => (some v0.1)) : (Option Bool)) fun v1 => (Option.bind ((if v1 = true then (Option.bind ((Option.bind (impl_areAmounts (x.1.2.1, (x.2.1, ())) ()) fun v2 => (some v2.1)) : (Option Bool)) fun v3 => (Option.bind ((if v3 = true then (Option.bind ((Option.bind (impl_areAmounts (x.1.2.2.1, (x.2.2.1, ())) ()) fun v4 => (some v4.1)) : (Option Bool)) fun v5 => (some (v5, ()))) else (some (false, ()))) : (Option (Bool × Unit))) fun v6 => (some (v6.1, ())))) else (some (false, ()))) : (Option (Bool × Unit))) fun v7 => (some (v7.1, ()))))
def H_impl_ModeOk : Hd := ⟨[y_4, .int .i64, .int .i64], [], none, .p, .bool, .p, []⟩
def T_impl_ModeOk : FSig := sg_ H_impl_ModeOk impl_ModeOk
theorem E_impl_ModeOk : fnOf tys [(83, T_impl_within), (228, T_impl_areAmounts)] Tryz.f192 H_impl_ModeOk = T_impl_ModeOk := by kernel_rfl
theorem K_impl_ModeOk : SigB base_ Tryz.prog 192 T_impl_ModeOk := (congrArg (SigB base_ Tryz.prog 192) E_impl_ModeOk).mp (fnOf_ok rfl tysOk ⟨K_impl_within, K_impl_areAmounts, trivial⟩ Tryz.func192 (by decide) rfl (fun _ h => by cases h) (nilEq_of (by kernel_rfl)))
abbrev s_impl_IsName_L0 : Type := (Int × (Int × ((List UInt8) × Unit)))
def impl_IsName_L0 : s_impl_IsName_L0 → Option (Out s_impl_IsName_L0 ((Bool × s_impl_IsName_L0) ⊕ Empty) (Bool × Unit)) :=
  (fun v0 => (if (ltZ v0.1 v0.2.1) = true then (Option.bind (byteAt v0.2.2.1 v0.1) fun v1 => (Option.bind ((if (leZ 97 v1) = true then (Option.bind (byteAt v0.2.2.1 v0.1) fun v2 => (some ((leZ v2 122), (v0.1, (v0.1, (v0.2.1, (v0.2.2.1, ()))))))) else (some (false, (v0.1, (v0.1, (v0.2.1, (v0.2.2.1, ()))))))) : (Option (Bool × (Int × (Int × (Int × ((List UInt8) × Unit))))))) fun v3 => (Option.bind ((if (notB v3.1) = true then (Option.bind ((if (eqZ v3.2.1 0) = true then (some (true, (v3.2.2.1, (v3.2.2.2.1, (v3.2.2.2.2.1, ()))))) else (Option.bind (byteAt v3.2.2.2.2.1 v3.2.1) fun v4 => (Option.bind ((if (ltZ v4 48) = true then (some (true, (v3.2.2.1, (v3.2.2.2.1, (v3.2.2.2.2.1, ()))))) else (Option.bind (byteAt v3.2.2.2.2.1 v3.2.1) fun v5 => (some ((ltZ 57 v5), (v3.2.2.1, (v3.2.2.2.1, (v3.2.2.2.2.1, ()))))))) : (Option (Bool × (Int × (Int × ((List UInt8) × Unit)))))) fun v6 => (some (v6.1, (v6.2.1, (v6.2.2.1, (v6.2.2.2.1, ())))))))) : (Option (Bool × (Int × (Int × ((List UInt8) × Unit)))))) fun v7 => (some (v7.1, (v7.2.1, (v7.2.2.1, (v7.2.2.2.1, ())))))) else (some (false, (v3.2.2.1, (v3.2.2.2.1, (v3.2.2.2.2.1, ())))))) : (Option (Bool × (Int × (Int × ((List UInt8) × Unit)))))) fun v8 => (if v8.1 = true then (some (Out.ret (false, ()))) else (some (Out.norm ((addZ .i64 v8.2.1 1), (v8.2.2.1, (v8.2.2.2.1, ()))))))))) else (some (Out.exit (Sum.inl ((ltZ v0.1 v0.2.1), (v0.1, (v0.2.1, (v0.2.2.1, ())))))))))
def impl_IsName (x : ((List UInt8) × Unit)) (c : Unit) : (Option (Bool × Unit)) :=
  (Option.bind (loopN (A := s_impl_IsName_L0) big impl_IsName_L0 (0, ((lenI x.1), (x.1, ())))) fun v9 => (match v9 with | Out.norm v10 => none | Out.exit v11 => (match ((match v11 with | Sum.inl v16 => (Sum.inl (v16.2.2.2.1, ())) | Sum.inr v17 => (Empty.elim v17)) : (((List UInt8) × Unit) ⊕ Empty)) with | Sum.inl v12 => (Option.bind ((Option.bind (impl_within ((lenI v12.1), (1, (8, ()))) ()) fun v13 => (some v13.1)) : (Option Bool)) fun v14 => (some (v14, ()))) | Sum.inr v15 => none) | Out.ret v18 => (some v18)))
def H_impl_IsName : Hd := ⟨[.str], [], none, .p, .bool, .p, []⟩
def T_impl_IsName : FSig := sg_ H_impl_IsName impl_IsName
theorem E_impl_IsName : fnOf tys [(83, T_impl_within)] Tryz.f193 H_impl_IsName = T_impl_IsName := by kernel_rfl
theorem K_impl_IsName : SigB base_ Tryz.prog 193 T_impl_IsName := (congrArg (SigB base_ Tryz.prog 193) E_impl_IsName).mp (fnOf_ok rfl tysOk ⟨K_impl_within, trivial⟩ Tryz.func193 (by decide) rfl (fun _ h => by cases h) (nilEq_of (by kernel_rfl)))
abbrev s_impl_ActivityOk_L0 : Type := (Int × (Int × ((List D_Mode) × (Int × (Int × (D_Activity × Unit))))))
def impl_ActivityOk_L0 : s_impl_ActivityOk_L0 → Option (Out s_impl_ActivityOk_L0 ((Bool × s_impl_ActivityOk_L0) ⊕ Empty) (Bool × Unit)) :=
  (fun v0 => (if (ltZ v0.1 v0.2.1) = true then (Option.bind (getI v0.2.2.1 v0.1) fun v1 => (Option.bind ((Option.bind (impl_ModeOk (v1, (v0.2.2.2.1, (v0.2.2.2.2.1, ()))) ()) fun v2 => (some v2.1)) : (Option Bool)) fun v3 => (if (notB v3) = true then (some (Out.ret (false, ()))) else (some (Out.norm ((addZ .i64 v0.1 1), (v0.2.1, (v0.2.2.1, (v0.2.2.2.1, (v0.2.2.2.2.1, (v0.2.2.2.2.2.1, ()))))))))))) else (some (Out.exit (Sum.inl ((ltZ v0.1 v0.2.1), (v0.1, (v0.2.1, (v0.2.2.1, (v0.2.2.2.1, (v0.2.2.2.2.1, (v0.2.2.2.2.2.1, ()))))))))))))
def impl_ActivityOk (x : (D_Activity × D_Step)) (c : Unit) : (Option (Bool × Unit)) :=
  (Option.bind (loopN (A := s_impl_ActivityOk_L0) big impl_ActivityOk_L0 (0, ((lenI x.1.2.2.1), (x.1.2.2.1, (x.2.1, (x.2.2.1, (x.1, ()))))))) fun v4 => (match v4 with | Out.norm v5 => none | Out.exit v6 => (match ((match v6 with | Sum.inl v17 => (Sum.inl (v17.2.2.2.2.2.2.1, ())) | Sum.inr v18 => (Empty.elim v18)) : ((D_Activity × Unit) ⊕ Empty)) with | Sum.inl v7 => (Option.bind ((Option.bind (impl_IsName (v7.1.1, ()) ()) fun v8 => (some v8.1)) : (Option Bool)) fun v9 => (Option.bind ((if v9 = true then (Option.bind ((Option.bind (impl_within (v7.1.2.1, (0, (3, ()))) ()) fun v10 => (some v10.1)) : (Option Bool)) fun v11 => (Option.bind ((if v11 = true then (Option.bind ((Option.bind (impl_within ((lenI v7.1.2.2.1), (1, (3, ()))) ()) fun v12 => (some v12.1)) : (Option Bool)) fun v13 => (some (v13, ()))) else (some (false, ()))) : (Option (Bool × Unit))) fun v14 => (some (v14.1, ())))) else (some (false, ()))) : (Option (Bool × Unit))) fun v15 => (some (v15.1, ())))) | Sum.inr v16 => none) | Out.ret v19 => (some v19)))
def H_impl_ActivityOk : Hd := ⟨[y_1, .int .i64, .int .i64], [], none, .p, .bool, .p, []⟩
def T_impl_ActivityOk : FSig := sg_ H_impl_ActivityOk impl_ActivityOk
theorem E_impl_ActivityOk : fnOf tys [(83, T_impl_within), (192, T_impl_ModeOk), (193, T_impl_IsName)] Tryz.f133 H_impl_ActivityOk = T_impl_ActivityOk := by kernel_rfl
theorem K_impl_ActivityOk : SigB base_ Tryz.prog 133 T_impl_ActivityOk := (congrArg (SigB base_ Tryz.prog 133) E_impl_ActivityOk).mp (fnOf_ok rfl tysOk ⟨K_impl_within, K_impl_ModeOk, K_impl_IsName, trivial⟩ Tryz.func133 (by decide) rfl (fun _ h => by cases h) (nilEq_of (by kernel_rfl)))
def impl_isTime (x : (Int × Unit)) (c : Unit) : (Option (Bool × Unit)) :=
  (Option.bind ((Option.bind (impl_within (x.1, (0, (60, ()))) ()) fun v0 => (some v0.1)) : (Option Bool)) fun v1 => (some (v1, ())))
def H_impl_isTime : Hd := ⟨[.int .i64], [], none, .p, .bool, .p, []⟩
def T_impl_isTime : FSig := sg_ H_impl_isTime impl_isTime
theorem E_impl_isTime : fnOf tys [(83, T_impl_within)] Tryz.f118 H_impl_isTime = T_impl_isTime := by kernel_rfl
theorem K_impl_isTime : SigB base_ Tryz.prog 118 T_impl_isTime := (congrArg (SigB base_ Tryz.prog 118) E_impl_isTime).mp (fnOf_ok rfl tysOk ⟨K_impl_within, trivial⟩ Tryz.func118 (by decide) rfl (fun _ h => by cases h) (nilEq_of (by kernel_rfl)))
abbrev s_impl_StepsOk_L0 : Type := (Int × (Int × ((List D_Step) × ((List D_Step) × Unit))))
def impl_StepsOk_L0 : s_impl_StepsOk_L0 → Option (Out s_impl_StepsOk_L0 ((Bool × s_impl_StepsOk_L0) ⊕ Empty) (Bool × Unit)) :=
  (fun v0 => (if (ltZ v0.1 v0.2.1) = true then (Option.bind (getI v0.2.2.1 v0.1) fun v1 => (Option.bind ((Option.bind (impl_isTime (v1.1, ()) ()) fun v2 => (some v2.1)) : (Option Bool)) fun v3 => (Option.bind ((if (notB v3) = true then (some (true, (v0.1, (v0.2.1, (v0.2.2.1, (v0.2.2.2.1, ())))))) else (Option.bind ((Option.bind (impl_isAmount (v1.2.1, ()) ()) fun v4 => (some v4.1)) : (Option Bool)) fun v5 => (Option.bind ((if (notB v5) = true then (some (true, (v0.1, (v0.2.1, (v0.2.2.1, (v0.2.2.2.1, ())))))) else (Option.bind ((if (eqZ v0.1 0) = true then (Option.bind ((if (notB (eqZ v1.1 0)) = true then (some (true, (v0.1, (v0.2.1, (v0.2.2.1, (v0.2.2.2.1, ())))))) else (Option.bind ((if (ltZ 0 v0.1) = true then (Option.bind (getI v0.2.2.2.1 (subZ .i64 v0.1 1)) fun v6 => (some ((leZ v1.1 v6.1), (v0.1, (v0.2.1, (v0.2.2.1, (v0.2.2.2.1, ()))))))) else (some (false, (v0.1, (v0.2.1, (v0.2.2.1, (v0.2.2.2.1, ()))))))) : (Option (Bool × (Int × (Int × ((List D_Step) × ((List D_Step) × Unit))))))) fun v7 => (some (v7.1, (v7.2.1, (v7.2.2.1, (v7.2.2.2.1, (v7.2.2.2.2.1, ())))))))) : (Option (Bool × (Int × (Int × ((List D_Step) × ((List D_Step) × Unit))))))) fun v8 => (some (v8.1, (v8.2.1, (v8.2.2.1, (v8.2.2.2.1, (v8.2.2.2.2.1, ()))))))) else (Option.bind ((if (ltZ 0 v0.1) = true then (Option.bind (getI v0.2.2.2.1 (subZ .i64 v0.1 1)) fun v9 => (some ((leZ v1.1 v9.1), (v0.1, (v0.2.1, (v0.2.2.1, (v0.2.2.2.1, ()))))))) else (some (false, (v0.1, (v0.2.1, (v0.2.2.1, (v0.2.2.2.1, ()))))))) : (Option (Bool × (Int × (Int × ((List D_Step) × ((List D_Step) × Unit))))))) fun v10 => (some (v10.1, (v10.2.1, (v10.2.2.1, (v10.2.2.2.1, (v10.2.2.2.2.1, ())))))))) : (Option (Bool × (Int × (Int × ((List D_Step) × ((List D_Step) × Unit))))))) fun v11 => (some (v11.1, (v11.2.1, (v11.2.2.1, (v11.2.2.2.1, (v11.2.2.2.2.1, ())))))))) : (Option (Bool × (Int × (Int × ((List D_Step) × ((List D_Step) × Unit))))))) fun v12 => (some (v12.1, (v12.2.1, (v12.2.2.1, (v12.2.2.2.1, (v12.2.2.2.2.1, ()))))))))) : (Option (Bool × (Int × (Int × ((List D_Step) × ((List D_Step) × Unit))))))) fun v13 => (if v13.1 = true then (some (Out.ret (false, ()))) else (some (Out.norm ((addZ .i64 v13.2.1 1), (v13.2.2.1, (v13.2.2.2.1, (v13.2.2.2.2.1, ())))))))))) else (some (Out.exit (Sum.inl ((ltZ v0.1 v0.2.1), (v0.1, (v0.2.1, (v0.2.2.1, (v0.2.2.2.1, ()))))))))))
def impl_StepsOk (x : ((List D_Step) × Unit)) (c : Unit) : (Option (Bool × Unit)) :=
  (Option.bind (loopN (A := s_impl_StepsOk_L0) big impl_StepsOk_L0 (0, ((lenI x.1), (x.1, (x.1, ()))))) fun v14 => (match v14 with | Out.norm v15 => none | Out.exit v16 => (match ((match v16 with | Sum.inl v21 => (Sum.inl (v21.2.2.2.2.1, ())) | Sum.inr v22 => (Empty.elim v22)) : (((List D_Step) × Unit) ⊕ Empty)) with | Sum.inl v17 => (Option.bind ((Option.bind (impl_within ((lenI v17.1), (1, (8, ()))) ()) fun v18 => (some v18.1)) : (Option Bool)) fun v19 => (some (v19, ()))) | Sum.inr v20 => none) | Out.ret v23 => (some v23)))
def H_impl_StepsOk : Hd := ⟨[.sl 169 (.st [.int .i64, .int .i64])], [], none, .p, .bool, .p, []⟩
def T_impl_StepsOk : FSig := sg_ H_impl_StepsOk impl_StepsOk
theorem E_impl_StepsOk : fnOf tys [(83, T_impl_within), (118, T_impl_isTime), (229, T_impl_isAmount)] Tryz.f194 H_impl_StepsOk = T_impl_StepsOk := by kernel_rfl
theorem K_impl_StepsOk : SigB base_ Tryz.prog 194 T_impl_StepsOk := (congrArg (SigB base_ Tryz.prog 194) E_impl_StepsOk).mp (fnOf_ok rfl tysOk ⟨K_impl_within, K_impl_isTime, K_impl_isAmount, trivial⟩ Tryz.func194 (by decide) rfl (fun _ h => by cases h) (nilEq_of (by kernel_rfl)))
abbrev s_impl_ResourceOk_L0 : Type := (Int × (Int × ((List Int) × (Int × (Int × ((List (List Int)) × (D_Resource × Unit)))))))
def impl_ResourceOk_L0 : s_impl_ResourceOk_L0 → Option (Out s_impl_ResourceOk_L0 ((Bool × s_impl_ResourceOk_L0) ⊕ Empty) (Bool × Unit)) :=
  (fun v2 => (if (ltZ v2.1 v2.2.1) = true then (Option.bind (getI v2.2.2.1 v2.1) fun v3 => (Option.bind ((Option.bind (impl_within (v3, (0, (12, ()))) ()) fun v4 => (some v4.1)) : (Option Bool)) fun v5 => (if (notB v5) = true then (some (Out.ret (false, ()))) else (some (Out.norm ((addZ .i64 v2.1 1), (v2.2.1, (v2.2.2.1, (v2.2.2.2.1, (v2.2.2.2.2.1, (v2.2.2.2.2.2.1, (v2.2.2.2.2.2.2.1, ())))))))))))) else (some (Out.exit (Sum.inl ((ltZ v2.1 v2.2.1), (v2.1, (v2.2.1, (v2.2.2.1, (v2.2.2.2.1, (v2.2.2.2.2.1, (v2.2.2.2.2.2.1, (v2.2.2.2.2.2.2.1, ())))))))))))))
abbrev s_impl_ResourceOk_L1 : Type := (Int × (Int × ((List (List Int)) × (D_Resource × Unit))))
def impl_ResourceOk_L1 : s_impl_ResourceOk_L1 → Option (Out s_impl_ResourceOk_L1 ((Bool × s_impl_ResourceOk_L1) ⊕ Empty) (Bool × Unit)) :=
  (fun v0 => (if (ltZ v0.1 v0.2.1) = true then (Option.bind (getI v0.2.2.1 v0.1) fun v1 => (if (notB (eqZ (lenI v1) 4)) = true then (some (Out.ret (false, ()))) else (Option.bind (loopN (A := s_impl_ResourceOk_L0) big impl_ResourceOk_L0 (0, ((lenI v1), (v1, (v0.1, (v0.2.1, (v0.2.2.1, (v0.2.2.2.1, ())))))))) fun v6 => (match v6 with | Out.norm v7 => none | Out.exit v8 => (match ((match v8 with | Sum.inl v13 => (Sum.inl (v13.2.2.2.2.1, (v13.2.2.2.2.2.1, (v13.2.2.2.2.2.2.1, (v13.2.2.2.2.2.2.2.1, ()))))) | Sum.inr v14 => (Empty.elim v14)) : ((Int × (Int × ((List (List Int)) × (D_Resource × Unit)))) ⊕ Empty)) with | Sum.inl v9 => (some (Out.norm ((addZ .i64 v9.1 1), (v9.2.1, (v9.2.2.1, (v9.2.2.2.1, ())))))) | Sum.inr v10 => (match ((Empty.elim v10) : ((Int × (Int × ((List (List Int)) × (D_Resource × Unit)))) ⊕ Empty)) with | Sum.inl v11 => (some (Out.norm ((addZ .i64 v11.1 1), (v11.2.1, (v11.2.2.1, (v11.2.2.2.1, ())))))) | Sum.inr v12 => (some (Out.exit (Sum.inr (Empty.elim v12)))))) | Out.ret v15 => (some (Out.ret v15)))))) else (some (Out.exit (Sum.inl ((ltZ v0.1 v0.2.1), (v0.1, (v0.2.1, (v0.2.2.1, (v0.2.2.2.1, ()))))))))))
def impl_ResourceOk (x : (D_Resource × Unit)) (c : Unit) : (Option (Bool × Unit)) :=
  (Option.bind (loopN (A := s_impl_ResourceOk_L1) big impl_ResourceOk_L1 (0, ((lenI x.1.2.1), (x.1.2.1, (x.1, ()))))) fun v16 => (match v16 with | Out.norm v17 => none | Out.exit v18 => (match ((match v18 with | Sum.inl v25 => (Sum.inl (v25.2.2.2.2.1, ())) | Sum.inr v26 => (Empty.elim v26)) : ((D_Resource × Unit) ⊕ Empty)) with | Sum.inl v19 => (Option.bind ((Option.bind (impl_StepsOk (v19.1.1, ()) ()) fun v20 => (some v20.1)) : (Option Bool)) fun v21 => (Option.bind ((if v21 = true then (Option.bind ((if (eqZ (lenI v19.1.2.1) 0) = true then (some (true, ())) else (some ((eqZ (lenI v19.1.2.1) 4), ()))) : (Option (Bool × Unit))) fun v22 => (some (v22.1, ()))) else (some (false, ()))) : (Option (Bool × Unit))) fun v23 => (some (v23.1, ())))) | Sum.inr v24 => none) | Out.ret v27 => (some v27)))
def H_impl_ResourceOk : Hd := ⟨[y_2], [], none, .p, .bool, .p, []⟩
def T_impl_ResourceOk : FSig := sg_ H_impl_ResourceOk impl_ResourceOk
theorem E_impl_ResourceOk : fnOf tys [(83, T_impl_within), (194, T_impl_StepsOk)] Tryz.f134 H_impl_ResourceOk = T_impl_ResourceOk := by kernel_rfl
theorem K_impl_ResourceOk : SigB base_ Tryz.prog 134 T_impl_ResourceOk := (congrArg (SigB base_ Tryz.prog 134) E_impl_ResourceOk).mp (fnOf_ok rfl tysOk ⟨K_impl_within, K_impl_StepsOk, trivial⟩ Tryz.func134 (by decide) rfl (fun _ h => by cases h) (nilEq_of (by kernel_rfl)))
abbrev s_slices_IndexFunc_impl_Link_impl_Link_L0 : Type := (Int × (Int × (((D_Link × Unit) → (Option Bool)) × ((List D_Link) × Unit))))
def slices_IndexFunc_impl_Link_impl_Link_L0 : s_slices_IndexFunc_impl_Link_impl_Link_L0 → Option (Out s_slices_IndexFunc_impl_Link_impl_Link_L0 ((Bool × s_slices_IndexFunc_impl_Link_impl_Link_L0) ⊕ Empty) (Int × Unit)) :=
  (fun v0 => (if (ltZ v0.1 v0.2.1) = true then (Option.bind (getI v0.2.2.2.1 v0.1) fun v1 => (Option.bind (v0.2.2.1 (v1, ())) fun v2 => (if v2 = true then (some (Out.ret (v0.1, ()))) else (some (Out.norm ((addZ .i64 v0.1 1), (v0.2.1, (v0.2.2.1, (v0.2.2.2.1, ()))))))))) else (some (Out.exit (Sum.inl ((ltZ v0.1 v0.2.1), (v0.1, (v0.2.1, (v0.2.2.1, (v0.2.2.2.1, ()))))))))))
def slices_IndexFunc_impl_Link_impl_Link (x : ((List D_Link) × (((D_Link × Unit) → (Option Bool)) × Unit))) (c : Unit) : (Option (Int × Unit)) :=
  (Option.bind (loopN (A := s_slices_IndexFunc_impl_Link_impl_Link_L0) big slices_IndexFunc_impl_Link_impl_Link_L0 (0, ((lenI x.1), (x.2.1, (x.1, ()))))) fun v3 => (match v3 with | Out.norm v4 => none | Out.exit v5 => (match ((match v5 with | Sum.inl v8 => (Sum.inl ()) | Sum.inr v9 => (Empty.elim v9)) : (Unit ⊕ Empty)) with | Sum.inl v6 => (some ((-1), ())) | Sum.inr v7 => none) | Out.ret v10 => (some v10)))
def H_slices_IndexFunc_impl_Link_impl_Link : Hd := ⟨[.sl 163 (y_5), .fn [y_5] (.bool)], [], none, .p, .int .i64, .p, []⟩
def T_slices_IndexFunc_impl_Link_impl_Link : FSig := sg_ H_slices_IndexFunc_impl_Link_impl_Link slices_IndexFunc_impl_Link_impl_Link
theorem E_slices_IndexFunc_impl_Link_impl_Link : fnOf tys [] Tryz.f195 H_slices_IndexFunc_impl_Link_impl_Link = T_slices_IndexFunc_impl_Link_impl_Link := by kernel_rfl
theorem K_slices_IndexFunc_impl_Link_impl_Link : SigB base_ Tryz.prog 195 T_slices_IndexFunc_impl_Link_impl_Link := (congrArg (SigB base_ Tryz.prog 195) E_slices_IndexFunc_impl_Link_impl_Link).mp (fnOf_ok rfl tysOk trivial Tryz.func195 (by decide) rfl (fun _ h => by cases h) (nilEq_of (by kernel_rfl)))
def slices_ContainsFunc_impl_Link_impl_Link (x : ((List D_Link) × (((D_Link × Unit) → (Option Bool)) × Unit))) (c : Unit) : (Option (Bool × Unit)) :=
  (Option.bind ((Option.bind (slices_IndexFunc_impl_Link_impl_Link (x.1, (x.2.1, ())) ()) fun v0 => (some v0.1)) : (Option Int)) fun v1 => (some ((leZ 0 v1), ())))
def H_slices_ContainsFunc_impl_Link_impl_Link : Hd := ⟨[.sl 163 (y_5), .fn [y_5] (.bool)], [], none, .p, .bool, .p, []⟩
def T_slices_ContainsFunc_impl_Link_impl_Link : FSig := sg_ H_slices_ContainsFunc_impl_Link_impl_Link slices_ContainsFunc_impl_Link_impl_Link
theorem E_slices_ContainsFunc_impl_Link_impl_Link : fnOf tys [(195, T_slices_IndexFunc_impl_Link_impl_Link)] Tryz.f135 H_slices_ContainsFunc_impl_Link_impl_Link = T_slices_ContainsFunc_impl_Link_impl_Link := by kernel_rfl
theorem K_slices_ContainsFunc_impl_Link_impl_Link : SigB base_ Tryz.prog 135 T_slices_ContainsFunc_impl_Link_impl_Link := (congrArg (SigB base_ Tryz.prog 135) E_slices_ContainsFunc_impl_Link_impl_Link).mp (fnOf_ok rfl tysOk ⟨K_slices_IndexFunc_impl_Link_impl_Link, trivial⟩ Tryz.func135 (by decide) rfl (fun _ h => by cases h) (nilEq_of (by kernel_rfl)))
def impl_Project_hasActivity (x : (D_Project × (Int × Unit))) (c : Unit) : (Option (Bool × Unit)) :=
  (Option.bind ((Option.bind (impl_within (x.2.1, (0, ((subZ .i64 (lenI x.1.2.1) 1), ()))) ()) fun v0 => (some v0.1)) : (Option Bool)) fun v1 => (some (v1, ())))
def H_impl_Project_hasActivity : Hd := ⟨[y_0, .int .i64], [], none, .p, .bool, .p, []⟩
def T_impl_Project_hasActivity : FSig := sg_ H_impl_Project_hasActivity impl_Project_hasActivity
theorem E_impl_Project_hasActivity : fnOf tys [(83, T_impl_within)] Tryz.f101 H_impl_Project_hasActivity = T_impl_Project_hasActivity := by kernel_rfl
theorem K_impl_Project_hasActivity : SigB base_ Tryz.prog 101 T_impl_Project_hasActivity := (congrArg (SigB base_ Tryz.prog 101) E_impl_Project_hasActivity).mp (fnOf_ok rfl tysOk ⟨K_impl_within, trivial⟩ Tryz.func101 (by decide) rfl (fun _ h => by cases h) (nilEq_of (by kernel_rfl)))
def impl_Project_linkOk (x : (D_Project × (D_Link × Unit))) (c : Unit) : (Option (Bool × Unit)) :=
  (Option.bind ((Option.bind (impl_Project_hasActivity (x.1, (x.2.1.1, ())) ()) fun v0 => (some v0.1)) : (Option Bool)) fun v1 => (Option.bind ((if v1 = true then (Option.bind ((Option.bind (impl_Project_hasActivity (x.1, (x.2.1.2.1, ())) ()) fun v2 => (some v2.1)) : (Option Bool)) fun v3 => (Option.bind ((if v3 = true then (Option.bind ((if (notB (eqZ x.2.1.1 x.2.1.2.1)) = true then (Option.bind ((Option.bind (impl_within (x.2.1.2.2.2.1, ((-60), (60, ()))) ()) fun v4 => (some v4.1)) : (Option Bool)) fun v5 => (some (v5, ()))) else (some (false, ()))) : (Option (Bool × Unit))) fun v6 => (some (v6.1, ()))) else (some (false, ()))) : (Option (Bool × Unit))) fun v7 => (some (v7.1, ())))) else (some (false, ()))) : (Option (Bool × Unit))) fun v8 => (some (v8.1, ()))))
def H_impl_Project_linkOk : Hd := ⟨[y_0, y_5], [], none, .p, .bool, .p, []⟩
def T_impl_Project_linkOk : FSig := sg_ H_impl_Project_linkOk impl_Project_linkOk
theorem E_impl_Project_linkOk : fnOf tys [(83, T_impl_within), (101, T_impl_Project_hasActivity)] Tryz.f137 H_impl_Project_linkOk = T_impl_Project_linkOk := by kernel_rfl
theorem K_impl_Project_linkOk : SigB base_ Tryz.prog 137 T_impl_Project_linkOk := (congrArg (SigB base_ Tryz.prog 137) E_impl_Project_linkOk).mp (fnOf_ok rfl tysOk ⟨K_impl_within, K_impl_Project_hasActivity, trivial⟩ Tryz.func137 (by decide) rfl (fun _ h => by cases h) (nilEq_of (by kernel_rfl)))
def impl_ProjectOk_1 (x : (D_Link × Unit)) (c : (D_Project × Unit)) : (Option (Bool × Unit)) :=
  (Option.bind ((Option.bind (impl_Project_linkOk (c.1, (x.1, ())) ()) fun v0 => (some v0.1)) : (Option Bool)) fun v1 => (some ((notB v1), ())))
def H_impl_ProjectOk_1 : Hd := ⟨[y_5], [y_0], none, .p, .bool, .p, []⟩
def T_impl_ProjectOk_1 : FSig := sg_ H_impl_ProjectOk_1 impl_ProjectOk_1
theorem E_impl_ProjectOk_1 : fnOf tys [(137, T_impl_Project_linkOk)] Tryz.f136 H_impl_ProjectOk_1 = T_impl_ProjectOk_1 := by kernel_rfl
theorem K_impl_ProjectOk_1 : SigB base_ Tryz.prog 136 T_impl_ProjectOk_1 := (congrArg (SigB base_ Tryz.prog 136) E_impl_ProjectOk_1).mp (fnOf_ok rfl tysOk ⟨K_impl_Project_linkOk, trivial⟩ Tryz.func136 (by decide) rfl (fun _ h => by cases h) (nilEq_of (by kernel_rfl)))
abbrev s_impl_ProjectOk_L0 : Type := (Int × (Int × ((List D_Activity) × (D_Project × Unit))))
def impl_ProjectOk_L0 : s_impl_ProjectOk_L0 → Option (Out s_impl_ProjectOk_L0 ((Bool × s_impl_ProjectOk_L0) ⊕ Empty) (Bool × Unit)) :=
  (fun v8 => (if (ltZ v8.1 v8.2.1) = true then (Option.bind (getI v8.2.2.1 v8.1) fun v9 => (Option.bind ((Option.bind (impl_ActivityOk (v9, ((lenI v8.2.2.2.1.2.2.2.1), ((lenI v8.2.2.2.1.2.2.2.2.1), ()))) ()) fun v10 => (some v10.1)) : (Option Bool)) fun v11 => (Option.bind ((if (notB v11) = true then (some (true, (v8.1, (v8.2.1, (v8.2.2.1, (v8.2.2.2.1, ())))))) else (Option.bind ((Option.bind (impl_ActivityIndex (v8.2.2.2.1, (v9.1, ())) ()) fun v12 => (some v12.1)) : (Option Int)) fun v13 => (some ((notB (eqZ v13 v8.1)), (v8.1, (v8.2.1, (v8.2.2.1, (v8.2.2.2.1, ())))))))) : (Option (Bool × (Int × (Int × ((List D_Activity) × (D_Project × Unit))))))) fun v14 => (if v14.1 = true then (some (Out.ret (false, ()))) else (some (Out.norm ((addZ .i64 v14.2.1 1), (v14.2.2.1, (v14.2.2.2.1, (v14.2.2.2.2.1, ())))))))))) else (some (Out.exit (Sum.inl ((ltZ v8.1 v8.2.1), (v8.1, (v8.2.1, (v8.2.2.1, (v8.2.2.2.1, ()))))))))))
abbrev s_impl_ProjectOk_L1 : Type := (Int × (Int × ((List D_Resource) × (D_Project × Unit))))
def impl_ProjectOk_L1 : s_impl_ProjectOk_L1 → Option (Out s_impl_ProjectOk_L1 ((Bool × s_impl_ProjectOk_L1) ⊕ Empty) (Bool × Unit)) :=
  (fun v19 => (if (ltZ v19.1 v19.2.1) = true then (Option.bind (getI v19.2.2.1 v19.1) fun v20 => (Option.bind ((Option.bind (impl_ResourceOk (v20, ()) ()) fun v21 => (some v21.1)) : (Option Bool)) fun v22 => (if (notB v22) = true then (some (Out.ret (false, ()))) else (some (Out.norm ((addZ .i64 v19.1 1), (v19.2.1, (v19.2.2.1, (v19.2.2.2.1, ()))))))))) else (some (Out.exit (Sum.inl ((ltZ v19.1 v19.2.1), (v19.1, (v19.2.1, (v19.2.2.1, (v19.2.2.2.1, ()))))))))))
abbrev s_impl_ProjectOk_L2 : Type := (Int × (Int × ((List Int) × (D_Project × Unit))))
def impl_ProjectOk_L2 : s_impl_ProjectOk_L2 → Option (Out s_impl_ProjectOk_L2 ((Bool × s_impl_ProjectOk_L2) ⊕ Empty) (Bool × Unit)) :=
  (fun v27 => (if (ltZ v27.1 v27.2.1) = true then (Option.bind (getI v27.2.2.1 v27.1) fun v28 => (Option.bind ((Option.bind (impl_within (v28, (0, (100, ()))) ()) fun v29 => (some v29.1)) : (Option Bool)) fun v30 => (if (notB v30) = true then (some (Out.ret (false, ()))) else (some (Out.norm ((addZ .i64 v27.1 1), (v27.2.1, (v27.2.2.1, (v27.2.2.2.1, ()))))))))) else (some (Out.exit (Sum.inl ((ltZ v27.1 v27.2.1), (v27.1, (v27.2.1, (v27.2.2.1, (v27.2.2.2.1, ()))))))))))
def impl_ProjectOk (x : (D_Project × Unit)) (c : Unit) : (Option (Bool × Unit)) :=
  (Option.bind ((Option.bind (impl_within (x.1.1, (1, (60, ()))) ()) fun v0 => (some v0.1)) : (Option Bool)) fun v1 => (Option.bind ((if (notB v1) = true then (some (true, (x.1, ()))) else (Option.bind ((Option.bind (impl_within ((lenI x.1.2.1), (1, (6, ()))) ()) fun v2 => (some v2.1)) : (Option Bool)) fun v3 => (Option.bind ((if (notB v3) = true then (some (true, (x.1, ()))) else (Option.bind ((if (ltZ 3 (lenI x.1.2.2.2.1)) = true then (some (true, (x.1, ()))) else (Option.bind ((if (ltZ 2 (lenI x.1.2.2.2.2.1)) = true then (some (true, (x.1, ()))) else (some ((ltZ 12 (lenI x.1.2.2.1)), (x.1, ())))) : (Option (Bool × (D_Project × Unit)))) fun v4 => (some (v4.1, (v4.2.1, ()))))) : (Option (Bool × (D_Project × Unit)))) fun v5 => (some (v5.1, (v5.2.1, ()))))) : (Option (Bool × (D_Project × Unit)))) fun v6 => (some (v6.1, (v6.2.1, ())))))) : (Option (Bool × (D_Project × Unit)))) fun v7 => (if v7.1 = true then (some (false, ())) else (Option.bind (loopN (A := s_impl_ProjectOk_L0) big impl_ProjectOk_L0 (0, ((lenI v7.2.1.2.1), (v7.2.1.2.1, (v7.2.1, ()))))) fun v15 => (match v15 with | Out.norm v16 => none | Out.exit v17 => (match ((match v17 with | Sum.inl v48 => (Sum.inl (v48.2.2.2.2.1, ())) | Sum.inr v49 => (Empty.elim v49)) : ((D_Project × Unit) ⊕ Empty)) with | Sum.inl v18 => (Option.bind (loopN (A := s_impl_ProjectOk_L1) big impl_ProjectOk_L1 (0, ((lenI v18.1.2.2.2.1), (v18.1.2.2.2.1, (v18.1, ()))))) fun v23 => (match v23 with | Out.norm v24 => none | Out.exit v25 => (match ((match v25 with | Sum.inl v44 => (Sum.inl (v44.2.2.2.2.1, ())) | Sum.inr v45 => (Empty.elim v45)) : ((D_Project × Unit) ⊕ Empty)) with | Sum.inl v26 => (Option.bind (loopN (A := s_impl_ProjectOk_L2) big impl_ProjectOk_L2 (0, ((lenI v26.1.2.2.2.2.1), (v26.1.2.2.2.2.1, (v26.1, ()))))) fun v31 => (match v31 with | Out.norm v32 => none | Out.exit v33 => (match ((match v33 with | Sum.inl v40 => (Sum.inl (v40.2.2.2.2.1, ())) | Sum.inr v41 => (Empty.elim v41)) : ((D_Project × Unit) ⊕ Empty)) with | Sum.inl v34 => (Option.bind ((Option.bind (slices_ContainsFunc_impl_Link_impl_Link (v34.1.2.2.1, ((fun v35 => (Option.bind (impl_ProjectOk_1 v35 (v34.1, ())) fun v36 => (some v36.1))), ())) ()) fun v37 => (some v37.1)) : (Option Bool)) fun v38 => (some ((notB v38), ()))) | Sum.inr v39 => none) | Out.ret v42 => (some v42))) | Sum.inr v43 => none) | Out.ret v46 => (some v46))) | Sum.inr v47 => none) | Out.ret v50 => (some v50))))))
def H_impl_ProjectOk : Hd := ⟨[y_0], [], none, .p, .bool, .p, []⟩
def T_impl_ProjectOk : FSig := sg_ H_impl_ProjectOk impl_ProjectOk
theorem E_impl_ProjectOk : fnOf tys [(83, T_impl_within), (90, T_impl_ActivityIndex), (133, T_impl_ActivityOk), (134, T_impl_ResourceOk), (135, T_slices_ContainsFunc_impl_Link_impl_Link), (136, T_impl_ProjectOk_1)] Tryz.f78 H_impl_ProjectOk = T_impl_ProjectOk := by kernel_rfl
theorem K_impl_ProjectOk : SigB base_ Tryz.prog 78 T_impl_ProjectOk := (congrArg (SigB base_ Tryz.prog 78) E_impl_ProjectOk).mp (fnOf_ok rfl tysOk ⟨K_impl_within, K_impl_ActivityIndex, K_impl_ActivityOk, K_impl_ResourceOk, K_slices_ContainsFunc_impl_Link_impl_Link, K_impl_ProjectOk_1, trivial⟩ Tryz.func78 (by decide) rfl (fun _ h => by cases h) (nilEq_of (by kernel_rfl)))
abbrev s_impl_ScheduleForm_L0 : Type := (Int × (Int × (D_Schedule × (D_Project × Unit))))
def impl_ScheduleForm_L0 : s_impl_ScheduleForm_L0 → Option (Out s_impl_ScheduleForm_L0 ((Bool × s_impl_ScheduleForm_L0) ⊕ Empty) (Bool × Unit)) :=
  (fun v4 => (if (ltZ v4.1 v4.2.1) = true then (Option.bind (getI v4.2.2.1.1 v4.1) fun v5 => (Option.bind ((Option.bind (impl_isTime (v5, ()) ()) fun v6 => (some v6.1)) : (Option Bool)) fun v7 => (Option.bind ((if (notB v7) = true then (some (true, (v4.1, (v4.2.1, (v4.2.2.1, (v4.2.2.2.1, ())))))) else (Option.bind (getI v4.2.2.1.2.1 v4.1) fun v8 => (Option.bind (getI v4.2.2.2.1.2.1 v4.1) fun v9 => (Option.bind ((Option.bind (impl_within (v8, (0, ((subZ .i64 (lenI v9.2.2.1) 1), ()))) ()) fun v10 => (some v10.1)) : (Option Bool)) fun v11 => (some ((notB v11), (v4.1, (v4.2.1, (v4.2.2.1, (v4.2.2.2.1, ())))))))))) : (Option (Bool × (Int × (Int × (D_Schedule × (D_Project × Unit))))))) fun v12 => (if v12.1 = true then (some (Out.ret (false, ()))) else (some (Out.norm ((addZ .i64 v12.2.1 1), (v12.2.2.1, (v12.2.2.2.1, (v12.2.2.2.2.1, ())))))))))) else (some (Out.exit (Sum.inl ((ltZ v4.1 v4.2.1), (v4.1, (v4.2.1, (v4.2.2.1, (v4.2.2.2.1, ()))))))))))
def impl_ScheduleForm (x : (D_Project × (D_Schedule × Unit))) (c : Unit) : (Option (Bool × Unit)) :=
  (Option.bind ((Option.bind (impl_ProjectOk (x.1, ()) ()) fun v0 => (some v0.1)) : (Option Bool)) fun v1 => (Option.bind ((if (notB v1) = true then (some (true, (x.2.1, (x.1, ())))) else (Option.bind ((if (notB (eqZ (lenI x.2.1.1) (lenI x.1.2.1))) = true then (some (true, (x.2.1, (x.1, ())))) else (some ((notB (eqZ (lenI x.2.1.2.1) (lenI x.1.2.1))), (x.2.1, (x.1, ()))))) : (Option (Bool × (D_Schedule × (D_Project × Unit))))) fun v2 => (some (v2.1, (v2.2.1, (v2.2.2.1, ())))))) : (Option (Bool × (D_Schedule × (D_Project × Unit))))) fun v3 => (if v3.1 = true then (some (false, ())) else (Option.bind (loopN (A := s_impl_ScheduleForm_L0) big impl_ScheduleForm_L0 (0, ((lenI v3.2.2.1.2.1), (v3.2.1, (v3.2.2.1, ()))))) fun v13 => (match v13 with | Out.norm v14 => none | Out.exit v15 => (match ((match v15 with | Sum.inl v18 => (Sum.inl ()) | Sum.inr v19 => (Empty.elim v19)) : (Unit ⊕ Empty)) with | Sum.inl v16 => (some (true, ())) | Sum.inr v17 => none) | Out.ret v20 => (some v20))))))
def H_impl_ScheduleForm : Hd := ⟨[y_0, y_6], [], none, .p, .bool, .p, []⟩
def T_impl_ScheduleForm : FSig := sg_ H_impl_ScheduleForm impl_ScheduleForm
theorem E_impl_ScheduleForm : fnOf tys [(78, T_impl_ProjectOk), (83, T_impl_within), (118, T_impl_isTime)] Tryz.f58 H_impl_ScheduleForm = T_impl_ScheduleForm := by kernel_rfl
theorem K_impl_ScheduleForm : SigB base_ Tryz.prog 58 T_impl_ScheduleForm := (congrArg (SigB base_ Tryz.prog 58) E_impl_ScheduleForm).mp (fnOf_ok rfl tysOk ⟨K_impl_ProjectOk, K_impl_within, K_impl_isTime, trivial⟩ Tryz.func58 (by decide) rfl (fun _ h => by cases h) (nilEq_of (by kernel_rfl)))
def impl_Project_hasResource (x : (D_Project × (Int × Unit))) (c : Unit) : (Option (Bool × Unit)) :=
  (Option.bind ((Option.bind (impl_within (x.2.1, (0, ((subZ .i64 (lenI x.1.2.2.2.1) 1), ()))) ()) fun v0 => (some v0.1)) : (Option Bool)) fun v1 => (some (v1, ())))
def H_impl_Project_hasResource : Hd := ⟨[y_0, .int .i64], [], none, .p, .bool, .p, []⟩
def T_impl_Project_hasResource : FSig := sg_ H_impl_Project_hasResource impl_Project_hasResource
theorem E_impl_Project_hasResource : fnOf tys [(83, T_impl_within)] Tryz.f59 H_impl_Project_hasResource = T_impl_Project_hasResource := by kernel_rfl
theorem K_impl_Project_hasResource : SigB base_ Tryz.prog 59 T_impl_Project_hasResource := (congrArg (SigB base_ Tryz.prog 59) E_impl_Project_hasResource).mp (fnOf_ok rfl tysOk ⟨K_impl_within, trivial⟩ Tryz.func59 (by decide) rfl (fun _ h => by cases h) (nilEq_of (by kernel_rfl)))
abbrev s_impl_kept_L0 : Type := (Int × (Int × ((List Int) × (((Int × Unit) → (Option Bool)) × ((List Int) × Unit)))))
def impl_kept_L0 : s_impl_kept_L0 → Option (Out s_impl_kept_L0 ((Bool × s_impl_kept_L0) ⊕ Empty) ((List Int) × Unit)) :=
  (fun v0 => (if (ltZ v0.1 v0.2.1) = true then (Option.bind (getI v0.2.2.1 v0.1) fun v1 => (Option.bind (v0.2.2.2.1 (v1, ())) fun v2 => (Option.bind ((if v2 = true then (Option.bind (addI v0.2.2.2.2.1 (v1 :: [])) fun v3 => (some (Out.norm (v0.1, (v0.2.1, (v0.2.2.1, (v0.2.2.2.1, (v3, ())))))))) else (some (Out.norm (v0.1, (v0.2.1, (v0.2.2.1, (v0.2.2.2.1, (v0.2.2.2.2.1, ())))))))) : (Option (Out (Int × (Int × ((List Int) × (((Int × Unit) → (Option Bool)) × ((List Int) × Unit))))) Empty ((List Int) × Unit)))) fun v4 => (match ((match ((match v4 with | Out.norm v13 => (Out.norm v13) | Out.exit v14 => (Out.exit v14) | Out.ret v15 => (Out.ret v15)) : (Out (Int × (Int × ((List Int) × (((Int × Unit) → (Option Bool)) × ((List Int) × Unit))))) Empty ((List Int) × Unit))) with | Out.norm v10 => (Out.norm v10) | Out.exit v11 => (Out.exit v11) | Out.ret v12 => (Out.ret v12)) : (Out (Int × (Int × ((List Int) × (((Int × Unit) → (Option Bool)) × ((List Int) × Unit))))) Empty ((List Int) × Unit))) with | Out.norm v5 => (some (Out.norm ((addZ .i64 v5.1 1), (v5.2.1, (v5.2.2.1, (v5.2.2.2.1, (v5.2.2.2.2.1, ()))))))) | Out.exit v6 => (match ((Empty.elim v6) : ((Int × (Int × ((List Int) × (((Int × Unit) → (Option Bool)) × ((List Int) × Unit))))) ⊕ Empty)) with | Sum.inl v7 => (some (Out.norm ((addZ .i64 v7.1 1), (v7.2.1, (v7.2.2.1, (v7.2.2.2.1, (v7.2.2.2.2.1, ()))))))) | Sum.inr v8 => (some (Out.exit (Sum.inr (Empty.elim v8))))) | Out.ret v9 => (some (Out.ret v9)))))) else (some (Out.exit (Sum.inl ((ltZ v0.1 v0.2.1), (v0.1, (v0.2.1, (v0.2.2.1, (v0.2.2.2.1, (v0.2.2.2.2.1, ())))))))))))
def impl_kept (x : ((List Int) × (((Int × Unit) → (Option Bool)) × Unit))) (c : Unit) : (Option ((List Int) × Unit)) :=
  (Option.bind (loopN (A := s_impl_kept_L0) big impl_kept_L0 (0, ((lenI x.1), (x.1, (x.2.1, ([], ())))))) fun v16 => (match v16 with | Out.norm v17 => none | Out.exit v18 => (match ((match v18 with | Sum.inl v21 => (Sum.inl (v21.2.2.2.2.2.1, ())) | Sum.inr v22 => (Empty.elim v22)) : (((List Int) × Unit) ⊕ Empty)) with | Sum.inl v19 => (some (v19.1, ())) | Sum.inr v20 => none) | Out.ret v23 => (some v23)))
def H_impl_kept : Hd := ⟨[.sl 3 (.int .i64), .fn [.int .i64] (.bool)], [], none, .p, .sl 3 (.int .i64), (Ty.all (.sl 3 (.int .i64))), []⟩
def T_impl_kept : FSig := sg_ H_impl_kept impl_kept
theorem E_impl_kept : fnOf tys [] Tryz.f174 H_impl_kept = T_impl_kept := by kernel_rfl
theorem K_impl_kept : SigB base_ Tryz.prog 174 T_impl_kept := (congrArg (SigB base_ Tryz.prog 174) E_impl_kept).mp (fnOf_ok rfl tysOk trivial Tryz.func174 (by decide) rfl (fun _ h => by cases h) (nilEq_of (by kernel_rfl)))
abbrev s_impl_IntRange_L0 : Type := (Int × (Int × ((List Int) × Unit)))
def impl_IntRange_L0 : s_impl_IntRange_L0 → Option (Out s_impl_IntRange_L0 ((Bool × s_impl_IntRange_L0) ⊕ Empty) ((List Int) × Unit)) :=
  (fun v2 => (if (ltZ v2.1 v2.2.1) = true then (Option.bind (addI v2.2.2.1 (v2.1 :: [])) fun v3 => (some (Out.norm ((addZ .i64 v2.1 1), (v2.2.1, (v3, ())))))) else (some (Out.exit (Sum.inl ((ltZ v2.1 v2.2.1), (v2.1, (v2.2.1, (v2.2.2.1, ())))))))))
def impl_IntRange (x : (Int × Unit)) (c : Unit) : (Option ((List Int) × Unit)) :=
  (Option.bind ((Option.bind (impl_within (x.1, (0, (200, ()))) ()) fun v0 => (some v0.1)) : (Option Bool)) fun v1 => (if (notB v1) = true then (some ([], ())) else (Option.bind (loopN (A := s_impl_IntRange_L0) big impl_IntRange_L0 (0, (x.1, ([], ())))) fun v4 => (match v4 with | Out.norm v5 => none | Out.exit v6 => (match ((match v6 with | Sum.inl v9 => (Sum.inl (v9.2.2.2.1, ())) | Sum.inr v10 => (Empty.elim v10)) : (((List Int) × Unit) ⊕ Empty)) with | Sum.inl v7 => (some (v7.1, ())) | Sum.inr v8 => none) | Out.ret v11 => (some v11)))))
def H_impl_IntRange : Hd := ⟨[.int .i64], [], none, .p, .sl 3 (.int .i64), (Ty.all (.sl 3 (.int .i64))), []⟩
def T_impl_IntRange : FSig := sg_ H_impl_IntRange impl_IntRange
theorem E_impl_IntRange : fnOf tys [(83, T_impl_within)] Tryz.f175 H_impl_IntRange = T_impl_IntRange := by kernel_rfl
theorem K_impl_IntRange : SigB base_ Tryz.prog 175 T_impl_IntRange := (congrArg (SigB base_ Tryz.prog 175) E_impl_IntRange).mp (fnOf_ok rfl tysOk ⟨K_impl_within, trivial⟩ Tryz.func175 (by decide) rfl (fun _ h => by cases h) (nilEq_of (by kernel_rfl)))
def impl_Project_mode (x : (D_Project × (D_Schedule × (Int × Unit)))) (c : Unit) : (Option (D_Mode × Unit)) :=
  (Option.bind (getI x.1.2.1 x.2.2.1) fun v0 => (Option.bind (getI x.2.1.2.1 x.2.2.1) fun v1 => (Option.bind (getI v0.2.2.1 v1) fun v2 => (some (v2, ())))))
def H_impl_Project_mode : Hd := ⟨[y_0, y_6, .int .i64], [], none, .p, y_4, .p, []⟩
def T_impl_Project_mode : FSig := sg_ H_impl_Project_mode impl_Project_mode
theorem E_impl_Project_mode : fnOf tys [] Tryz.f119 H_impl_Project_mode = T_impl_Project_mode := by kernel_rfl
theorem K_impl_Project_mode : SigB base_ Tryz.prog 119 T_impl_Project_mode := (congrArg (SigB base_ Tryz.prog 119) E_impl_Project_mode).mp (fnOf_ok rfl tysOk trivial Tryz.func119 (by decide) rfl (fun _ h => by cases h) (nilEq_of (by kernel_rfl)))
def impl_Project_end (x : (D_Project × (D_Schedule × (Int × Unit)))) (c : Unit) : (Option (Int × Unit)) :=
  (Option.bind (getI x.2.1.1 x.2.2.1) fun v0 => (Option.bind ((Option.bind (impl_Project_mode (x.1, (x.2.1, (x.2.2.1, ()))) ()) fun v1 => (some v1.1)) : (Option D_Mode)) fun v2 => (some ((addZ .i64 v0 v2.1), ()))))
def H_impl_Project_end : Hd := ⟨[y_0, y_6, .int .i64], [], none, .p, .int .i64, .p, []⟩
def T_impl_Project_end : FSig := sg_ H_impl_Project_end impl_Project_end
theorem E_impl_Project_end : fnOf tys [(119, T_impl_Project_mode)] Tryz.f106 H_impl_Project_end = T_impl_Project_end := by kernel_rfl
theorem K_impl_Project_end : SigB base_ Tryz.prog 106 T_impl_Project_end := (congrArg (SigB base_ Tryz.prog 106) E_impl_Project_end).mp (fnOf_ok rfl tysOk ⟨K_impl_Project_mode, trivial⟩ Tryz.func106 (by decide) rfl (fun _ h => by cases h) (nilEq_of (by kernel_rfl)))
def impl_Project_running_1 (x : (Int × Unit)) (c : (D_Schedule × (Int × (D_Project × Unit)))) : (Option (Bool × Unit)) :=
  (Option.bind (getI c.1.1 x.1) fun v0 => (Option.bind ((if (leZ v0 c.2.1) = true then (Option.bind ((Option.bind (impl_Project_end (c.2.2.1, (c.1, (x.1, ()))) ()) fun v1 => (some v1.1)) : (Option Int)) fun v2 => (some ((ltZ c.2.1 v2), ()))) else (some (false, ()))) : (Option (Bool × Unit))) fun v3 => (some (v3.1, ()))))
def H_impl_Project_running_1 : Hd := ⟨[.int .i64], [y_6, .int .i64, y_0], none, .p, .bool, .p, []⟩
def T_impl_Project_running_1 : FSig := sg_ H_impl_Project_running_1 impl_Project_running_1
theorem E_impl_Project_running_1 : fnOf tys [(106, T_impl_Project_end)] Tryz.f176 H_impl_Project_running_1 = T_impl_Project_running_1 := by kernel_rfl
theorem K_impl_Project_running_1 : SigB base_ Tryz.prog 176 T_impl_Project_running_1 := (congrArg (SigB base_ Tryz.prog 176) E_impl_Project_running_1).mp (fnOf_ok rfl tysOk ⟨K_impl_Project_end, trivial⟩ Tryz.func176 (by decide) rfl (fun _ h => by cases h) (nilEq_of (by kernel_rfl)))
def impl_Project_running (x : (D_Project × (D_Schedule × (Int × Unit)))) (c : Unit) : (Option ((List Int) × Unit)) :=
  (Option.bind ((Option.bind (impl_IntRange ((lenI x.1.2.1), ()) ()) fun v0 => (some v0.1)) : (Option (List Int))) fun v1 => (Option.bind ((Option.bind (impl_kept (v1, ((fun v2 => (Option.bind (impl_Project_running_1 v2 (x.2.1, (x.2.2.1, (x.1, ())))) fun v3 => (some v3.1))), ())) ()) fun v4 => (some v4.1)) : (Option (List Int))) fun v5 => (some (v5, ()))))
def H_impl_Project_running : Hd := ⟨[y_0, y_6, .int .i64], [], none, .p, .sl 3 (.int .i64), (Ty.all (.sl 3 (.int .i64))), []⟩
def T_impl_Project_running : FSig := sg_ H_impl_Project_running impl_Project_running
theorem E_impl_Project_running : fnOf tys [(174, T_impl_kept), (175, T_impl_IntRange), (176, T_impl_Project_running_1)] Tryz.f108 H_impl_Project_running = T_impl_Project_running := by kernel_rfl
theorem K_impl_Project_running : SigB base_ Tryz.prog 108 T_impl_Project_running := (congrArg (SigB base_ Tryz.prog 108) E_impl_Project_running).mp (fnOf_ok rfl tysOk ⟨K_impl_kept, K_impl_IntRange, K_impl_Project_running_1, trivial⟩ Tryz.func108 (by decide) rfl (fun _ h => by cases h) (nilEq_of (by kernel_rfl)))
abbrev s_impl_Project_usage_L0 : Type := (Int × (Int × ((List Int) × (D_Project × (D_Schedule × D_Step)))))
def impl_Project_usage_L0 : s_impl_Project_usage_L0 → Option (Out s_impl_Project_usage_L0 ((Bool × s_impl_Project_usage_L0) ⊕ Empty) (Int × Unit)) :=
  (fun v2 => (if (ltZ v2.1 v2.2.1) = true then (Option.bind ((Option.bind (getI v2.2.2.1 v2.1) fun v3 => (some ())) : (Option Unit)) fun v4 => (Option.bind ((Option.bind (getI v2.2.2.1 v2.1) fun v5 => (some v5)) : (Option Int)) fun v6 => (Option.bind ((Option.bind (impl_Project_mode (v2.2.2.2.1, (v2.2.2.2.2.1, (v6, ()))) ()) fun v7 => (some v7.1)) : (Option D_Mode)) fun v8 => (Option.bind (getI v8.2.1 v2.2.2.2.2.2.1) fun v9 => (some (Out.norm ((addZ .i64 v2.1 1), (v2.2.1, (v2.2.2.1, (v2.2.2.2.1, (v2.2.2.2.2.1, (v2.2.2.2.2.2.1, ((addZ .i64 v2.2.2.2.2.2.2.1 v9), ()))))))))))))) else (some (Out.exit (Sum.inl ((ltZ v2.1 v2.2.1), (v2.1, (v2.2.1, (v2.2.2.1, (v2.2.2.2.1, (v2.2.2.2.2.1, (v2.2.2.2.2.2.1, (v2.2.2.2.2.2.2.1, ())))))))))))))
def impl_Project_usage (x : (D_Project × (D_Schedule × D_Step))) (c : Unit) : (Option (Int × Unit)) :=
  (Option.bind ((Option.bind (impl_Project_running (x.1, (x.2.1, (x.2.2.2.1, ()))) ()) fun v0 => (some v0.1)) : (Option (List Int))) fun v1 => (Option.bind (loopN (A := s_impl_Project_usage_L0) big impl_Project_usage_L0 (0, ((lenI v1), (v1, (x.1, (x.2.1, (x.2.2.1, (0, ())))))))) fun v10 => (match v10 with | Out.norm v11 => none | Out.exit v12 => (match ((match v12 with | Sum.inl v15 => (Sum.inl (v15.2.2.2.2.2.2.2.1, ())) | Sum.inr v16 => (Empty.elim v16)) : ((Int × Unit) ⊕ Empty)) with | Sum.inl v13 => (some (v13.1, ())) | Sum.inr v14 => none) | Out.ret v17 => (some v17))))
def H_impl_Project_usage : Hd := ⟨[y_0, y_6, .int .i64, .int .i64], [], none, .p, .int .i64, .p, []⟩
def T_impl_Project_usage : FSig := sg_ H_impl_Project_usage impl_Project_usage
theorem E_impl_Project_usage : fnOf tys [(108, T_impl_Project_running), (119, T_impl_Project_mode)] Tryz.f60 H_impl_Project_usage = T_impl_Project_usage := by kernel_rfl
theorem K_impl_Project_usage : SigB base_ Tryz.prog 60 T_impl_Project_usage := (congrArg (SigB base_ Tryz.prog 60) E_impl_Project_usage).mp (fnOf_ok rfl tysOk ⟨K_impl_Project_running, K_impl_Project_mode, trivial⟩ Tryz.func60 (by decide) rfl (fun _ h => by cases h) (nilEq_of (by kernel_rfl)))
abbrev s_impl_capacityAt_L0 : Type := (Int × (Int × ((List D_Step) × D_Step)))
def impl_capacityAt_L0 : s_impl_capacityAt_L0 → Option (Out s_impl_capacityAt_L0 ((Bool × s_impl_capacityAt_L0) ⊕ Empty) (Int × Unit)) :=
  (fun v0 => (if (ltZ v0.1 v0.2.1) = true then (Option.bind (getI v0.2.2.1 v0.1) fun v1 => (Option.bind ((if (leZ v1.1 v0.2.2.2.1) = true then (some (Out.norm (v0.1, (v0.2.1, (v0.2.2.1, (v0.2.2.2.1, (v1.2.1, ()))))))) else (some (Out.norm (v0.1, (v0.2.1, (v0.2.2.1, (v0.2.2.2.1, (v0.2.2.2.2.1, ())))))))) : (Option (Out (Int × (Int × ((List D_Step) × D_Step))) Empty (Int × Unit)))) fun v2 => (match ((match ((match v2 with | Out.norm v11 => (Out.norm v11) | Out.exit v12 => (Out.exit v12) | Out.ret v13 => (Out.ret v13)) : (Out (Int × (Int × ((List D_Step) × D_Step))) Empty (Int × Unit))) with | Out.norm v8 => (Out.norm v8) | Out.exit v9 => (Out.exit v9) | Out.ret v10 => (Out.ret v10)) : (Out (Int × (Int × ((List D_Step) × D_Step))) Empty (Int × Unit))) with | Out.norm v3 => (some (Out.norm ((addZ .i64 v3.1 1), (v3.2.1, (v3.2.2.1, (v3.2.2.2.1, (v3.2.2.2.2.1, ()))))))) | Out.exit v4 => (match ((Empty.elim v4) : ((Int × (Int × ((List D_Step) × D_Step))) ⊕ Empty)) with | Sum.inl v5 => (some (Out.norm ((addZ .i64 v5.1 1), (v5.2.1, (v5.2.2.1, (v5.2.2.2.1, (v5.2.2.2.2.1, ()))))))) | Sum.inr v6 => (some (Out.exit (Sum.inr (Empty.elim v6))))) | Out.ret v7 => (some (Out.ret v7))))) else (some (Out.exit (Sum.inl ((ltZ v0.1 v0.2.1), (v0.1, (v0.2.1, (v0.2.2.1, (v0.2.2.2.1, (v0.2.2.2.2.1, ())))))))))))
def impl_capacityAt (x : ((List D_Step) × (Int × Unit))) (c : Unit) : (Option (Int × Unit)) :=
  (Option.bind (loopN (A := s_impl_capacityAt_L0) big impl_capacityAt_L0 (0, ((lenI x.1), (x.1, (x.2.1, (0, ())))))) fun v14 => (match v14 with | Out.norm v15 => none | Out.exit v16 => (match ((match v16 with | Sum.inl v19 => (Sum.inl (v19.2.2.2.2.2.1, ())) | Sum.inr v20 => (Empty.elim v20)) : ((Int × Unit) ⊕ Empty)) with | Sum.inl v17 => (some (v17.1, ())) | Sum.inr v18 => none) | Out.ret v21 => (some v21)))
def H_impl_capacityAt : Hd := ⟨[.sl 169 (.st [.int .i64, .int .i64]), .int .i64], [], none, .p, .int .i64, .p, []⟩
def T_impl_capacityAt : FSig := sg_ H_impl_capacityAt impl_capacityAt
theorem E_impl_capacityAt : fnOf tys [] Tryz.f61 H_impl_capacityAt = T_impl_capacityAt := by kernel_rfl
theorem K_impl_capacityAt : SigB base_ Tryz.prog 61 T_impl_capacityAt := (congrArg (SigB base_ Tryz.prog 61) E_impl_capacityAt).mp (fnOf_ok rfl tysOk trivial Tryz.func61 (by decide) rfl (fun _ h => by cases h) (nilEq_of (by kernel_rfl)))
def H_strconv_Itoa : Hd := ⟨[.int .i64], [], none, .p, .str, .p, []⟩
def strconv_Itoa : (Int × Unit) → Unit → Option (List UInt8 × Unit) := itoaF
def T_strconv_Itoa : FSig := sg_ H_strconv_Itoa strconv_Itoa
theorem K_strconv_Itoa : SigB base_ Tryz.prog 120 T_strconv_Itoa := itoa_ok ⟨Tryz.f120, Tryz.func120, by decide, rfl⟩ base_tab (fun n h0 h1 w h => Any.strconv_Itoa Tryz.laysM171 n h0 h1 w (tab_cast h (by kernel_rfl)))
def impl_FormatInt (x : (Int × Unit)) (c : Unit) : (Option ((List UInt8) × Unit)) :=
  (Option.bind ((Option.bind (impl_within (x.1, ((-100000), (100000, ()))) ()) fun v0 => (some v0.1)) : (Option Bool)) fun v1 => (if (notB v1) = true then (some ([], ())) else (Option.bind ((Option.bind (strconv_Itoa (x.1, ()) ()) fun v2 => (some v2.1)) : (Option (List UInt8))) fun v3 => (some (v3, ())))))
def H_impl_FormatInt : Hd := ⟨[.int .i64], [], none, .p, .str, .p, []⟩
def T_impl_FormatInt : FSig := sg_ H_impl_FormatInt impl_FormatInt
theorem E_impl_FormatInt : fnOf tys [(83, T_impl_within), (120, T_strconv_Itoa)] Tryz.f62 H_impl_FormatInt = T_impl_FormatInt := by kernel_rfl
theorem K_impl_FormatInt : SigB base_ Tryz.prog 62 T_impl_FormatInt := (congrArg (SigB base_ Tryz.prog 62) E_impl_FormatInt).mp (fnOf_ok rfl tysOk ⟨K_impl_within, K_strconv_Itoa, trivial⟩ Tryz.func62 (by decide) rfl (fun _ h => by cases h) (nilEq_of (by kernel_rfl)))
end Go.Proofs.YtholdafohofboaaGreatDoor