/-
  The functions of this seat as plain Lean functions, and that the program computes them. No condition.
-/
import Derived.Test.YtmbknefcilojkaaDoorN37
import Derived.Test.YtmbknefcilojkaaDoordX
import Derived.Test.YtmbknefcilojkaaDoorProg
import Derived.KernelRfl
namespace Go.Proofs.YtmbknefcilojkaaDoor
open Go.Abs
set_option linter.unusedVariables false
set_option maxRecDepth 100000
abbrev D_Mode : Type := (Int × ((List Int) × ((List Int) × Unit)))
abbrev D_Activity : Type := ((List UInt8) × (Int × ((List D_Mode) × Unit)))
abbrev D_Link : Type := (Int × (Int × (Bool × (Int × Unit))))
abbrev D_Step : Type := (Int × (Int × Unit))
abbrev D_Resource : Type := ((List D_Step) × ((List (List Int)) × Unit))
abbrev D_Project : Type := (Int × ((List D_Activity) × ((List D_Link) × ((List D_Resource) × ((List Int) × Unit)))))
theorem tn3 : TnOk Tryd.prog 3 (.int .i64) := ⟨Tryd.underlying3, fun _ h => (by cases h), Tryd.t3, rfl, rfl, fun _ _ => rfl⟩
theorem tn4 : TnOk Tryd.prog 4 (.bool) := ⟨Tryd.underlying4, fun _ h => (by cases h), Tryd.t4, rfl, rfl, fun _ _ => rfl⟩
theorem tn5 : TnOk Tryd.prog 5 (.int .u8) := ⟨Tryd.underlying5, fun _ h => (by cases h), Tryd.t5, rfl, rfl, fun _ _ => rfl⟩
theorem tn9 : TnOk Tryd.prog 9 (.str) := ⟨Tryd.underlying9, fun _ h => (by cases h), Tryd.t9, rfl, rfl, fun _ _ => rfl⟩
theorem tn22 : TnOk Tryd.prog 22 (.sl 104 (.st [.str, .int .i64, .sl 182 (.st [.int .i64, .sl 3 (.int .i64), .sl 3 (.int .i64)])])) := ⟨⟨Tryd.underlying22, Tryd.t104, _, rfl, rfl, rfl, rfl, by decide, by decide, fun _ _ => rfl, fun k h => by cases h⟩, fun _ h => (by cases h), Tryd.t22, rfl, rfl, fun _ _ => rfl⟩
theorem tn23 : TnOk Tryd.prog 23 (.sl 29 (.st [.int .i64, .int .i64, .bool, .int .i64])) := ⟨⟨Tryd.underlying23, Tryd.t29, _, rfl, rfl, rfl, rfl, by decide, by decide, fun _ _ => rfl, fun k h => by cases h⟩, fun _ h => (by cases h), Tryd.t23, rfl, rfl, fun _ _ => rfl⟩
theorem tn24 : TnOk Tryd.prog 24 (.sl 108 (.st [.sl 186 (.st [.int .i64, .int .i64]), .sl 25 (.sl 3 (.int .i64))])) := ⟨⟨Tryd.underlying24, Tryd.t108, _, rfl, rfl, rfl, rfl, by decide, by decide, fun _ _ => rfl, fun k h => by cases h⟩, fun _ h => (by cases h), Tryd.t24, rfl, rfl, fun _ _ => rfl⟩
theorem tn25 : TnOk Tryd.prog 25 (.sl 3 (.int .i64)) := ⟨⟨Tryd.underlying25, Tryd.t3, _, rfl, rfl, rfl, rfl, by decide, by decide, fun _ _ => rfl, fun k h => by cases h; exact Tryd.underlying3⟩, fun _ h => (by cases h), Tryd.t25, rfl, rfl, fun _ _ => rfl⟩
theorem tn26 : TnOk Tryd.prog 26 (.st [.int .i64, .sl 104 (.st [.str, .int .i64, .sl 182 (.st [.int .i64, .sl 3 (.int .i64), .sl 3 (.int .i64)])]), .sl 29 (.st [.int .i64, .int .i64, .bool, .int .i64]), .sl 108 (.st [.sl 186 (.st [.int .i64, .int .i64]), .sl 25 (.sl 3 (.int .i64))]), .sl 3 (.int .i64)]) := ⟨⟨_, Tryd.underlying26, Tryd.eqGuardType26, Tryd.stoodInHeld26, rfl, fun j τ h => by
    cases j with
    | zero => cases h; exact ⟨_, _, rfl, rfl, by decide, by decide, Tryd.underlying3, rfl, fun us h => by cases h⟩
    | succ j =>
     cases j with
     | zero => cases h; exact ⟨_, _, rfl, rfl, by decide, by decide, Tryd.underlying22, rfl, fun us h => by cases h⟩
     | succ j =>
      cases j with
      | zero => cases h; exact ⟨_, _, rfl, rfl, by decide, by decide, Tryd.underlying23, rfl, fun us h => by cases h⟩
      | succ j =>
       cases j with
       | zero => cases h; exact ⟨_, _, rfl, rfl, by decide, by decide, Tryd.underlying24, rfl, fun us h => by cases h⟩
       | succ j =>
        cases j with
        | zero => cases h; exact ⟨_, _, rfl, rfl, by decide, by decide, Tryd.underlying25, rfl, fun us h => by cases h⟩
        | succ j =>
         cases h⟩, (fun us hus fs hfs j τ h f hf => by
    cases hus
    rw [Tryd.underlying26] at hfs
    cases hfs
    cases j with
    | zero => cases h; cases hf; exact ⟨fun k e => by cases e; exact Tryd.underlying3, fun e => (by cases e), fun e => (by cases e)⟩
    | succ j =>
     cases j with
     | zero => cases h; cases hf; exact ⟨fun k e => (by cases e), fun e => (by cases e), fun e => (by cases e)⟩
     | succ j =>
      cases j with
      | zero => cases h; cases hf; exact ⟨fun k e => (by cases e), fun e => (by cases e), fun e => (by cases e)⟩
      | succ j =>
       cases j with
       | zero => cases h; cases hf; exact ⟨fun k e => (by cases e), fun e => (by cases e), fun e => (by cases e)⟩
       | succ j =>
        cases j with
        | zero => cases h; cases hf; exact ⟨fun k e => (by cases e), fun e => (by cases e), fun e => (by cases e)⟩
        | succ j =>
         cases h), Tryd.t26, rfl, rfl, fun _ _ => rfl⟩
theorem tn27 : TnOk Tryd.prog 27 (.st [.int .i64, .sl 104 (.st [.str, .int .i64, .sl 182 (.st [.int .i64, .sl 3 (.int .i64), .sl 3 (.int .i64)])]), .sl 29 (.st [.int .i64, .int .i64, .bool, .int .i64]), .sl 108 (.st [.sl 186 (.st [.int .i64, .int .i64]), .sl 25 (.sl 3 (.int .i64))]), .sl 3 (.int .i64)]) := ⟨⟨_, Tryd.underlying27, Tryd.eqGuardType27, Tryd.stoodInHeld27, rfl, fun j τ h => by
    cases j with
    | zero => cases h; exact ⟨_, _, rfl, rfl, by decide, by decide, Tryd.underlying3, rfl, fun us h => by cases h⟩
    | succ j =>
     cases j with
     | zero => cases h; exact ⟨_, _, rfl, rfl, by decide, by decide, Tryd.underlying22, rfl, fun us h => by cases h⟩
     | succ j =>
      cases j with
      | zero => cases h; exact ⟨_, _, rfl, rfl, by decide, by decide, Tryd.underlying23, rfl, fun us h => by cases h⟩
      | succ j =>
       cases j with
       | zero => cases h; exact ⟨_, _, rfl, rfl, by decide, by decide, Tryd.underlying24, rfl, fun us h => by cases h⟩
       | succ j =>
        cases j with
        | zero => cases h; exact ⟨_, _, rfl, rfl, by decide, by decide, Tryd.underlying25, rfl, fun us h => by cases h⟩
        | succ j =>
         cases h⟩, (fun us hus fs hfs j τ h f hf => by
    cases hus
    rw [Tryd.underlying27] at hfs
    cases hfs
    cases j with
    | zero => cases h; cases hf; exact ⟨fun k e => by cases e; exact Tryd.underlying3, fun e => (by cases e), fun e => (by cases e)⟩
    | succ j =>
     cases j with
     | zero => cases h; cases hf; exact ⟨fun k e => (by cases e), fun e => (by cases e), fun e => (by cases e)⟩
     | succ j =>
      cases j with
      | zero => cases h; cases hf; exact ⟨fun k e => (by cases e), fun e => (by cases e), fun e => (by cases e)⟩
      | succ j =>
       cases j with
       | zero => cases h; cases hf; exact ⟨fun k e => (by cases e), fun e => (by cases e), fun e => (by cases e)⟩
       | succ j =>
        cases j with
        | zero => cases h; cases hf; exact ⟨fun k e => (by cases e), fun e => (by cases e), fun e => (by cases e)⟩
        | succ j =>
         cases h), Tryd.t27, rfl, rfl, fun _ _ => rfl⟩
theorem tn28 : TnOk Tryd.prog 28 (.st [.int .i64, .int .i64, .bool, .int .i64]) := ⟨⟨_, Tryd.underlying28, Tryd.eqGuardType28, Tryd.stoodInHeld28, rfl, fun j τ h => by
    cases j with
    | zero => cases h; exact ⟨_, _, rfl, rfl, by decide, by decide, Tryd.underlying3, rfl, fun us h => by cases h⟩
    | succ j =>
     cases j with
     | zero => cases h; exact ⟨_, _, rfl, rfl, by decide, by decide, Tryd.underlying3, rfl, fun us h => by cases h⟩
     | succ j =>
      cases j with
      | zero => cases h; exact ⟨_, _, rfl, rfl, by decide, by decide, Tryd.underlying4, rfl, fun us h => by cases h⟩
      | succ j =>
       cases j with
       | zero => cases h; exact ⟨_, _, rfl, rfl, by decide, by decide, Tryd.underlying3, rfl, fun us h => by cases h⟩
       | succ j =>
        cases h⟩, (fun us hus fs hfs j τ h f hf => by
    cases hus
    rw [Tryd.underlying28] at hfs
    cases hfs
    cases j with
    | zero => cases h; cases hf; exact ⟨fun k e => by cases e; exact Tryd.underlying3, fun e => (by cases e), fun e => (by cases e)⟩
    | succ j =>
     cases j with
     | zero => cases h; cases hf; exact ⟨fun k e => by cases e; exact Tryd.underlying3, fun e => (by cases e), fun e => (by cases e)⟩
     | succ j =>
      cases j with
      | zero => cases h; cases hf; exact ⟨fun k e => (by cases e), fun _ => Tryd.underlying4, fun e => (by cases e)⟩
      | succ j =>
       cases j with
       | zero => cases h; cases hf; exact ⟨fun k e => by cases e; exact Tryd.underlying3, fun e => (by cases e), fun e => (by cases e)⟩
       | succ j =>
        cases h), Tryd.t28, rfl, rfl, fun _ _ => rfl⟩
theorem tn29 : TnOk Tryd.prog 29 (.st [.int .i64, .int .i64, .bool, .int .i64]) := ⟨⟨_, Tryd.underlying29, Tryd.eqGuardType29, Tryd.stoodInHeld29, rfl, fun j τ h => by
    cases j with
    | zero => cases h; exact ⟨_, _, rfl, rfl, by decide, by decide, Tryd.underlying3, rfl, fun us h => by cases h⟩
    | succ j =>
     cases j with
     | zero => cases h; exact ⟨_, _, rfl, rfl, by decide, by decide, Tryd.underlying3, rfl, fun us h => by cases h⟩
     | succ j =>
      cases j with
      | zero => cases h; exact ⟨_, _, rfl, rfl, by decide, by decide, Tryd.underlying4, rfl, fun us h => by cases h⟩
      | succ j =>
       cases j with
       | zero => cases h; exact ⟨_, _, rfl, rfl, by decide, by decide, Tryd.underlying3, rfl, fun us h => by cases h⟩
       | succ j =>
        cases h⟩, (fun us hus fs hfs j τ h f hf => by
    cases hus
    rw [Tryd.underlying29] at hfs
    cases hfs
    cases j with
    | zero => cases h; cases hf; exact ⟨fun k e => by cases e; exact Tryd.underlying3, fun e => (by cases e), fun e => (by cases e)⟩
    | succ j =>
     cases j with
     | zero => cases h; cases hf; exact ⟨fun k e => by cases e; exact Tryd.underlying3, fun e => (by cases e), fun e => (by cases e)⟩
     | succ j =>
      cases j with
      | zero => cases h; cases hf; exact ⟨fun k e => (by cases e), fun _ => Tryd.underlying4, fun e => (by cases e)⟩
      | succ j =>
       cases j with
       | zero => cases h; cases hf; exact ⟨fun k e => by cases e; exact Tryd.underlying3, fun e => (by cases e), fun e => (by cases e)⟩
       | succ j =>
        cases h), Tryd.t29, rfl, rfl, fun _ _ => rfl⟩
theorem tn30 : TnOk Tryd.prog 30 (.fn [.st [.int .i64, .sl 104 (.st [.str, .int .i64, .sl 182 (.st [.int .i64, .sl 3 (.int .i64), .sl 3 (.int .i64)])]), .sl 29 (.st [.int .i64, .int .i64, .bool, .int .i64]), .sl 108 (.st [.sl 186 (.st [.int .i64, .int .i64]), .sl 25 (.sl 3 (.int .i64))]), .sl 3 (.int .i64)], .int .i64] (.int .i64)) := ⟨⟨_, _, _, Tryd.underlying30⟩, fun _ h => (by cases h), Tryd.t30, rfl, rfl, fun _ h => by cases h⟩
theorem tn31 : TnOk Tryd.prog 31 (.fn [.st [.int .i64, .sl 99 (.st [.str, .int .i64, .sl 121 (.st [.int .i64, .sl 3 (.int .i64), .sl 3 (.int .i64)])]), .sl 38 (.st [.int .i64, .int .i64, .bool, .int .i64]), .sl 112 (.st [.sl 124 (.st [.int .i64, .int .i64]), .sl 25 (.sl 3 (.int .i64))]), .sl 3 (.int .i64)], .st [.int .i64, .int .i64, .bool, .int .i64]] (.str)) := ⟨⟨_, _, _, Tryd.underlying31⟩, fun _ h => (by cases h), Tryd.t31, rfl, rfl, fun _ h => by cases h⟩
theorem tn32 : TnOk Tryd.prog 32 (.sl 99 (.st [.str, .int .i64, .sl 121 (.st [.int .i64, .sl 3 (.int .i64), .sl 3 (.int .i64)])])) := ⟨⟨Tryd.underlying32, Tryd.t99, _, rfl, rfl, rfl, rfl, by decide, by decide, fun _ _ => rfl, fun k h => by cases h⟩, fun _ h => (by cases h), Tryd.t32, rfl, rfl, fun _ _ => rfl⟩
theorem tn33 : TnOk Tryd.prog 33 (.sl 38 (.st [.int .i64, .int .i64, .bool, .int .i64])) := ⟨⟨Tryd.underlying33, Tryd.t38, _, rfl, rfl, rfl, rfl, by decide, by decide, fun _ _ => rfl, fun k h => by cases h⟩, fun _ h => (by cases h), Tryd.t33, rfl, rfl, fun _ _ => rfl⟩
theorem tn34 : TnOk Tryd.prog 34 (.sl 112 (.st [.sl 124 (.st [.int .i64, .int .i64]), .sl 25 (.sl 3 (.int .i64))])) := ⟨⟨Tryd.underlying34, Tryd.t112, _, rfl, rfl, rfl, rfl, by decide, by decide, fun _ _ => rfl, fun k h => by cases h⟩, fun _ h => (by cases h), Tryd.t34, rfl, rfl, fun _ _ => rfl⟩
theorem tn35 : TnOk Tryd.prog 35 (.st [.int .i64, .sl 99 (.st [.str, .int .i64, .sl 121 (.st [.int .i64, .sl 3 (.int .i64), .sl 3 (.int .i64)])]), .sl 38 (.st [.int .i64, .int .i64, .bool, .int .i64]), .sl 112 (.st [.sl 124 (.st [.int .i64, .int .i64]), .sl 25 (.sl 3 (.int .i64))]), .sl 3 (.int .i64)]) := ⟨⟨_, Tryd.underlying35, Tryd.eqGuardType35, Tryd.stoodInHeld35, rfl, fun j τ h => by
    cases j with
    | zero => cases h; exact ⟨_, _, rfl, rfl, by decide, by decide, Tryd.underlying3, rfl, fun us h => by cases h⟩
    | succ j =>
     cases j with
     | zero => cases h; exact ⟨_, _, rfl, rfl, by decide, by decide, Tryd.underlying32, rfl, fun us h => by cases h⟩
     | succ j =>
      cases j with
      | zero => cases h; exact ⟨_, _, rfl, rfl, by decide, by decide, Tryd.underlying33, rfl, fun us h => by cases h⟩
      | succ j =>
       cases j with
       | zero => cases h; exact ⟨_, _, rfl, rfl, by decide, by decide, Tryd.underlying34, rfl, fun us h => by cases h⟩
       | succ j =>
        cases j with
        | zero => cases h; exact ⟨_, _, rfl, rfl, by decide, by decide, Tryd.underlying25, rfl, fun us h => by cases h⟩
        | succ j =>
         cases h⟩, (fun us hus fs hfs j τ h f hf => by
    cases hus
    rw [Tryd.underlying35] at hfs
    cases hfs
    cases j with
    | zero => cases h; cases hf; exact ⟨fun k e => by cases e; exact Tryd.underlying3, fun e => (by cases e), fun e => (by cases e)⟩
    | succ j =>
     cases j with
     | zero => cases h; cases hf; exact ⟨fun k e => (by cases e), fun e => (by cases e), fun e => (by cases e)⟩
     | succ j =>
      cases j with
      | zero => cases h; cases hf; exact ⟨fun k e => (by cases e), fun e => (by cases e), fun e => (by cases e)⟩
      | succ j =>
       cases j with
       | zero => cases h; cases hf; exact ⟨fun k e => (by cases e), fun e => (by cases e), fun e => (by cases e)⟩
       | succ j =>
        cases j with
        | zero => cases h; cases hf; exact ⟨fun k e => (by cases e), fun e => (by cases e), fun e => (by cases e)⟩
        | succ j =>
         cases h), Tryd.t35, rfl, rfl, fun _ _ => rfl⟩
theorem tn36 : TnOk Tryd.prog 36 (.st [.int .i64, .sl 99 (.st [.str, .int .i64, .sl 121 (.st [.int .i64, .sl 3 (.int .i64), .sl 3 (.int .i64)])]), .sl 38 (.st [.int .i64, .int .i64, .bool, .int .i64]), .sl 112 (.st [.sl 124 (.st [.int .i64, .int .i64]), .sl 25 (.sl 3 (.int .i64))]), .sl 3 (.int .i64)]) := ⟨⟨_, Tryd.underlying36, Tryd.eqGuardType36, Tryd.stoodInHeld36, rfl, fun j τ h => by
    cases j with
    | zero => cases h; exact ⟨_, _, rfl, rfl, by decide, by decide, Tryd.underlying3, rfl, fun us h => by cases h⟩
    | succ j =>
     cases j with
     | zero => cases h; exact ⟨_, _, rfl, rfl, by decide, by decide, Tryd.underlying32, rfl, fun us h => by cases h⟩
     | succ j =>
      cases j with
      | zero => cases h; exact ⟨_, _, rfl, rfl, by decide, by decide, Tryd.underlying33, rfl, fun us h => by cases h⟩
      | succ j =>
       cases j with
       | zero => cases h; exact ⟨_, _, rfl, rfl, by decide, by decide, Tryd.underlying34, rfl, fun us h => by cases h⟩
       | succ j =>
        cases j with
        | zero => cases h; exact ⟨_, _, rfl, rfl, by decide, by decide, Tryd.underlying25, rfl, fun us h => by cases h⟩
        | succ j =>
         cases h⟩, (fun us hus fs hfs j τ h f hf => by
    cases hus
    rw [Tryd.underlying36] at hfs
    cases hfs
    cases j with
    | zero => cases h; cases hf; exact ⟨fun k e => by cases e; exact Tryd.underlying3, fun e => (by cases e), fun e => (by cases e)⟩
    | succ j =>
     cases j with
     | zero => cases h; cases hf; exact ⟨fun k e => (by cases e), fun e => (by cases e), fun e => (by cases e)⟩
     | succ j =>
      cases j with
      | zero => cases h; cases hf; exact ⟨fun k e => (by cases e), fun e => (by cases e), fun e => (by cases e)⟩
      | succ j =>
       cases j with
       | zero => cases h; cases hf; exact ⟨fun k e => (by cases e), fun e => (by cases e), fun e => (by cases e)⟩
       | succ j =>
        cases j with
        | zero => cases h; cases hf; exact ⟨fun k e => (by cases e), fun e => (by cases e), fun e => (by cases e)⟩
        | succ j =>
         cases h), Tryd.t36, rfl, rfl, fun _ _ => rfl⟩
theorem tn37 : TnOk Tryd.prog 37 (.fn [.st [.int .i64, .sl 104 (.st [.str, .int .i64, .sl 182 (.st [.int .i64, .sl 3 (.int .i64), .sl 3 (.int .i64)])]), .sl 29 (.st [.int .i64, .int .i64, .bool, .int .i64]), .sl 108 (.st [.sl 186 (.st [.int .i64, .int .i64]), .sl 25 (.sl 3 (.int .i64))]), .sl 3 (.int .i64)]] (.st [.int .i64, .sl 99 (.st [.str, .int .i64, .sl 121 (.st [.int .i64, .sl 3 (.int .i64), .sl 3 (.int .i64)])]), .sl 38 (.st [.int .i64, .int .i64, .bool, .int .i64]), .sl 112 (.st [.sl 124 (.st [.int .i64, .int .i64]), .sl 25 (.sl 3 (.int .i64))]), .sl 3 (.int .i64)])) := ⟨⟨_, _, _, Tryd.underlying37⟩, fun _ h => (by cases h), Tryd.t37, rfl, rfl, fun _ h => by cases h⟩
theorem tn38 : TnOk Tryd.prog 38 (.st [.int .i64, .int .i64, .bool, .int .i64]) := ⟨⟨_, Tryd.underlying38, Tryd.eqGuardType38, Tryd.stoodInHeld38, rfl, fun j τ h => by
    cases j with
    | zero => cases h; exact ⟨_, _, rfl, rfl, by decide, by decide, Tryd.underlying3, rfl, fun us h => by cases h⟩
    | succ j =>
     cases j with
     | zero => cases h; exact ⟨_, _, rfl, rfl, by decide, by decide, Tryd.underlying3, rfl, fun us h => by cases h⟩
     | succ j =>
      cases j with
      | zero => cases h; exact ⟨_, _, rfl, rfl, by decide, by decide, Tryd.underlying4, rfl, fun us h => by cases h⟩
      | succ j =>
       cases j with
       | zero => cases h; exact ⟨_, _, rfl, rfl, by decide, by decide, Tryd.underlying3, rfl, fun us h => by cases h⟩
       | succ j =>
        cases h⟩, (fun us hus fs hfs j τ h f hf => by
    cases hus
    rw [Tryd.underlying38] at hfs
    cases hfs
    cases j with
    | zero => cases h; cases hf; exact ⟨fun k e => by cases e; exact Tryd.underlying3, fun e => (by cases e), fun e => (by cases e)⟩
    | succ j =>
     cases j with
     | zero => cases h; cases hf; exact ⟨fun k e => by cases e; exact Tryd.underlying3, fun e => (by cases e), fun e => (by cases e)⟩
     | succ j =>
      cases j with
      | zero => cases h; cases hf; exact ⟨fun k e => (by cases e), fun _ => Tryd.underlying4, fun e => (by cases e)⟩
      | succ j =>
       cases j with
       | zero => cases h; cases hf; exact ⟨fun k e => by cases e; exact Tryd.underlying3, fun e => (by cases e), fun e => (by cases e)⟩
       | succ j =>
        cases h), Tryd.t38, rfl, rfl, fun _ _ => rfl⟩
theorem tn39 : TnOk Tryd.prog 39 (.fn [.st [.int .i64, .int .i64, .bool, .int .i64]] (.st [.int .i64, .int .i64, .bool, .int .i64])) := ⟨⟨_, _, _, Tryd.underlying39⟩, fun _ h => (by cases h), Tryd.t39, rfl, rfl, fun _ h => by cases h⟩
theorem tn40 : TnOk Tryd.prog 40 (.fn [.st [.int .i64, .sl 99 (.st [.str, .int .i64, .sl 121 (.st [.int .i64, .sl 3 (.int .i64), .sl 3 (.int .i64)])]), .sl 38 (.st [.int .i64, .int .i64, .bool, .int .i64]), .sl 112 (.st [.sl 124 (.st [.int .i64, .int .i64]), .sl 25 (.sl 3 (.int .i64))]), .sl 3 (.int .i64)], .st [.int .i64, .sl 99 (.st [.str, .int .i64, .sl 121 (.st [.int .i64, .sl 3 (.int .i64), .sl 3 (.int .i64)])]), .sl 38 (.st [.int .i64, .int .i64, .bool, .int .i64]), .sl 112 (.st [.sl 124 (.st [.int .i64, .int .i64]), .sl 25 (.sl 3 (.int .i64))]), .sl 3 (.int .i64)]] (.bool)) := ⟨⟨_, _, _, Tryd.underlying40⟩, fun _ h => (by cases h), Tryd.t40, rfl, rfl, fun _ h => by cases h⟩
theorem tn41 : TnOk Tryd.prog 41 (.fn [.st [.int .i64, .sl 104 (.st [.str, .int .i64, .sl 182 (.st [.int .i64, .sl 3 (.int .i64), .sl 3 (.int .i64)])]), .sl 29 (.st [.int .i64, .int .i64, .bool, .int .i64]), .sl 108 (.st [.sl 186 (.st [.int .i64, .int .i64]), .sl 25 (.sl 3 (.int .i64))]), .sl 3 (.int .i64)], .st [.int .i64, .int .i64, .bool, .int .i64]] (.bool)) := ⟨⟨_, _, _, Tryd.underlying41⟩, fun _ h => (by cases h), Tryd.t41, rfl, rfl, fun _ h => by cases h⟩
theorem tn42 : TnOk Tryd.prog 42 (.sl 25 (.sl 3 (.int .i64))) := ⟨⟨Tryd.underlying42, Tryd.t25, _, rfl, rfl, rfl, rfl, by decide, by decide, fun _ _ => rfl, fun k h => by cases h⟩, fun _ h => (by cases h), Tryd.t42, rfl, rfl, fun _ _ => rfl⟩
theorem tn72 : TnOk Tryd.prog 72 (.fn [.sl 104 (.st [.str, .int .i64, .sl 182 (.st [.int .i64, .sl 3 (.int .i64), .sl 3 (.int .i64)])]), .int .i64] (.int .i64)) := ⟨⟨_, _, _, Tryd.underlying72⟩, fun _ h => (by cases h), Tryd.t72, rfl, rfl, fun _ h => by cases h⟩
theorem tn73 : TnOk Tryd.prog 73 (.fn [.sl 29 (.st [.int .i64, .int .i64, .bool, .int .i64]), .int .i64] (.int .i64)) := ⟨⟨_, _, _, Tryd.underlying73⟩, fun _ h => (by cases h), Tryd.t73, rfl, rfl, fun _ h => by cases h⟩
theorem tn74 : TnOk Tryd.prog 74 (.fn [.sl 108 (.st [.sl 186 (.st [.int .i64, .int .i64]), .sl 25 (.sl 3 (.int .i64))]), .int .i64] (.int .i64)) := ⟨⟨_, _, _, Tryd.underlying74⟩, fun _ h => (by cases h), Tryd.t74, rfl, rfl, fun _ h => by cases h⟩
theorem tn75 : TnOk Tryd.prog 75 (.fn [.sl 3 (.int .i64), .int .i64] (.int .i64)) := ⟨⟨_, _, _, Tryd.underlying75⟩, fun _ h => (by cases h), Tryd.t75, rfl, rfl, fun _ h => by cases h⟩
theorem tn76 : TnOk Tryd.prog 76 (.fn [.st [.int .i64, .sl 99 (.st [.str, .int .i64, .sl 121 (.st [.int .i64, .sl 3 (.int .i64), .sl 3 (.int .i64)])]), .sl 38 (.st [.int .i64, .int .i64, .bool, .int .i64]), .sl 112 (.st [.sl 124 (.st [.int .i64, .int .i64]), .sl 25 (.sl 3 (.int .i64))]), .sl 3 (.int .i64)]] (.st [.int .i64, .sl 99 (.st [.str, .int .i64, .sl 121 (.st [.int .i64, .sl 3 (.int .i64), .sl 3 (.int .i64)])]), .sl 38 (.st [.int .i64, .int .i64, .bool, .int .i64]), .sl 112 (.st [.sl 124 (.st [.int .i64, .int .i64]), .sl 25 (.sl 3 (.int .i64))]), .sl 3 (.int .i64)])) := ⟨⟨_, _, _, Tryd.underlying76⟩, fun _ h => (by cases h), Tryd.t76, rfl, rfl, fun _ h => by cases h⟩
theorem tn77 : TnOk Tryd.prog 77 (.fn [.st [.int .i64, .sl 99 (.st [.str, .int .i64, .sl 121 (.st [.int .i64, .sl 3 (.int .i64), .sl 3 (.int .i64)])]), .sl 38 (.st [.int .i64, .int .i64, .bool, .int .i64]), .sl 112 (.st [.sl 124 (.st [.int .i64, .int .i64]), .sl 25 (.sl 3 (.int .i64))]), .sl 3 (.int .i64)]] (.bool)) := ⟨⟨_, _, _, Tryd.underlying77⟩, fun _ h => (by cases h), Tryd.t77, rfl, rfl, fun _ h => by cases h⟩
theorem tn78 : TnOk Tryd.prog 78 (.fn [.sl 104 (.st [.str, .int .i64, .sl 182 (.st [.int .i64, .sl 3 (.int .i64), .sl 3 (.int .i64)])])] (.sl 99 (.st [.str, .int .i64, .sl 121 (.st [.int .i64, .sl 3 (.int .i64), .sl 3 (.int .i64)])]))) := ⟨⟨_, _, _, Tryd.underlying78⟩, fun _ h => (by cases h), Tryd.t78, rfl, rfl, fun _ h => by cases h⟩
theorem tn79 : TnOk Tryd.prog 79 (.fn [.sl 29 (.st [.int .i64, .int .i64, .bool, .int .i64])] (.sl 38 (.st [.int .i64, .int .i64, .bool, .int .i64]))) := ⟨⟨_, _, _, Tryd.underlying79⟩, fun _ h => (by cases h), Tryd.t79, rfl, rfl, fun _ h => by cases h⟩
theorem tn80 : TnOk Tryd.prog 80 (.fn [.sl 108 (.st [.sl 186 (.st [.int .i64, .int .i64]), .sl 25 (.sl 3 (.int .i64))])] (.sl 112 (.st [.sl 124 (.st [.int .i64, .int .i64]), .sl 25 (.sl 3 (.int .i64))]))) := ⟨⟨_, _, _, Tryd.underlying80⟩, fun _ h => (by cases h), Tryd.t80, rfl, rfl, fun _ h => by cases h⟩
theorem tn81 : TnOk Tryd.prog 81 (.fn [.sl 3 (.int .i64)] (.sl 3 (.int .i64))) := ⟨⟨_, _, _, Tryd.underlying81⟩, fun _ h => (by cases h), Tryd.t81, rfl, rfl, fun _ h => by cases h⟩
theorem tn82 : TnOk Tryd.prog 82 (.fn [] (.st [.int .i64, .sl 99 (.st [.str, .int .i64, .sl 121 (.st [.int .i64, .sl 3 (.int .i64), .sl 3 (.int .i64)])]), .sl 38 (.st [.int .i64, .int .i64, .bool, .int .i64]), .sl 112 (.st [.sl 124 (.st [.int .i64, .int .i64]), .sl 25 (.sl 3 (.int .i64))]), .sl 3 (.int .i64)])) := ⟨⟨_, _, _, Tryd.underlying82⟩, fun _ h => (by cases h), Tryd.t82, rfl, rfl, fun _ h => by cases h⟩
theorem tn83 : TnOk Tryd.prog 83 (.fn [.st [.int .i64, .int .i64, .bool, .int .i64]] (.str)) := ⟨⟨_, _, _, Tryd.underlying83⟩, fun _ h => (by cases h), Tryd.t83, rfl, rfl, fun _ h => by cases h⟩
theorem tn84 : TnOk Tryd.prog 84 (.fn [.sl 99 (.st [.str, .int .i64, .sl 121 (.st [.int .i64, .sl 3 (.int .i64), .sl 3 (.int .i64)])]), .sl 99 (.st [.str, .int .i64, .sl 121 (.st [.int .i64, .sl 3 (.int .i64), .sl 3 (.int .i64)])])] (.bool)) := ⟨⟨_, _, _, Tryd.underlying84⟩, fun _ h => (by cases h), Tryd.t84, rfl, rfl, fun _ h => by cases h⟩
theorem tn85 : TnOk Tryd.prog 85 (.fn [.sl 38 (.st [.int .i64, .int .i64, .bool, .int .i64]), .sl 38 (.st [.int .i64, .int .i64, .bool, .int .i64])] (.bool)) := ⟨⟨_, _, _, Tryd.underlying85⟩, fun _ h => (by cases h), Tryd.t85, rfl, rfl, fun _ h => by cases h⟩
theorem tn86 : TnOk Tryd.prog 86 (.fn [.sl 112 (.st [.sl 124 (.st [.int .i64, .int .i64]), .sl 25 (.sl 3 (.int .i64))]), .sl 112 (.st [.sl 124 (.st [.int .i64, .int .i64]), .sl 25 (.sl 3 (.int .i64))])] (.bool)) := ⟨⟨_, _, _, Tryd.underlying86⟩, fun _ h => (by cases h), Tryd.t86, rfl, rfl, fun _ h => by cases h⟩
theorem tn87 : TnOk Tryd.prog 87 (.fn [.sl 3 (.int .i64), .sl 3 (.int .i64)] (.bool)) := ⟨⟨_, _, _, Tryd.underlying87⟩, fun _ h => (by cases h), Tryd.t87, rfl, rfl, fun _ h => by cases h⟩
theorem tn90 : TnOk Tryd.prog 90 (.fn [.int .i64] (.str)) := ⟨⟨_, _, _, Tryd.underlying90⟩, fun _ h => (by cases h), Tryd.t90, rfl, rfl, fun _ h => by cases h⟩
theorem tn97 : TnOk Tryd.prog 97 (.sl 121 (.st [.int .i64, .sl 3 (.int .i64), .sl 3 (.int .i64)])) := ⟨⟨Tryd.underlying97, Tryd.t121, _, rfl, rfl, rfl, rfl, by decide, by decide, fun _ _ => rfl, fun k h => by cases h⟩, fun _ h => (by cases h), Tryd.t97, rfl, rfl, fun _ _ => rfl⟩
theorem tn98 : TnOk Tryd.prog 98 (.st [.str, .int .i64, .sl 121 (.st [.int .i64, .sl 3 (.int .i64), .sl 3 (.int .i64)])]) := ⟨⟨_, Tryd.underlying98, Tryd.eqGuardType98, Tryd.stoodInHeld98, rfl, fun j τ h => by
    cases j with
    | zero => cases h; exact ⟨_, _, rfl, rfl, by decide, by decide, Tryd.underlying9, rfl, fun us h => by cases h⟩
    | succ j =>
     cases j with
     | zero => cases h; exact ⟨_, _, rfl, rfl, by decide, by decide, Tryd.underlying3, rfl, fun us h => by cases h⟩
     | succ j =>
      cases j with
      | zero => cases h; exact ⟨_, _, rfl, rfl, by decide, by decide, Tryd.underlying97, rfl, fun us h => by cases h⟩
      | succ j =>
       cases h⟩, (fun us hus fs hfs j τ h f hf => by
    cases hus
    rw [Tryd.underlying98] at hfs
    cases hfs
    cases j with
    | zero => cases h; cases hf; exact ⟨fun k e => (by cases e), fun e => (by cases e), fun _ => Tryd.underlying9⟩
    | succ j =>
     cases j with
     | zero => cases h; cases hf; exact ⟨fun k e => by cases e; exact Tryd.underlying3, fun e => (by cases e), fun e => (by cases e)⟩
     | succ j =>
      cases j with
      | zero => cases h; cases hf; exact ⟨fun k e => (by cases e), fun e => (by cases e), fun e => (by cases e)⟩
      | succ j =>
       cases h), Tryd.t98, rfl, rfl, fun _ _ => rfl⟩
theorem tn99 : TnOk Tryd.prog 99 (.st [.str, .int .i64, .sl 121 (.st [.int .i64, .sl 3 (.int .i64), .sl 3 (.int .i64)])]) := ⟨⟨_, Tryd.underlying99, Tryd.eqGuardType99, Tryd.stoodInHeld99, rfl, fun j τ h => by
    cases j with
    | zero => cases h; exact ⟨_, _, rfl, rfl, by decide, by decide, Tryd.underlying9, rfl, fun us h => by cases h⟩
    | succ j =>
     cases j with
     | zero => cases h; exact ⟨_, _, rfl, rfl, by decide, by decide, Tryd.underlying3, rfl, fun us h => by cases h⟩
     | succ j =>
      cases j with
      | zero => cases h; exact ⟨_, _, rfl, rfl, by decide, by decide, Tryd.underlying97, rfl, fun us h => by cases h⟩
      | succ j =>
       cases h⟩, (fun us hus fs hfs j τ h f hf => by
    cases hus
    rw [Tryd.underlying99] at hfs
    cases hfs
    cases j with
    | zero => cases h; cases hf; exact ⟨fun k e => (by cases e), fun e => (by cases e), fun _ => Tryd.underlying9⟩
    | succ j =>
     cases j with
     | zero => cases h; cases hf; exact ⟨fun k e => by cases e; exact Tryd.underlying3, fun e => (by cases e), fun e => (by cases e)⟩
     | succ j =>
      cases j with
      | zero => cases h; cases hf; exact ⟨fun k e => (by cases e), fun e => (by cases e), fun e => (by cases e)⟩
      | succ j =>
       cases h), Tryd.t99, rfl, rfl, fun _ _ => rfl⟩
theorem tn101 : TnOk Tryd.prog 101 (.fn [.st [.str, .int .i64, .sl 182 (.st [.int .i64, .sl 3 (.int .i64), .sl 3 (.int .i64)])], .int .i64] (.int .i64)) := ⟨⟨_, _, _, Tryd.underlying101⟩, fun _ h => (by cases h), Tryd.t101, rfl, rfl, fun _ h => by cases h⟩
theorem tn102 : TnOk Tryd.prog 102 (.sl 182 (.st [.int .i64, .sl 3 (.int .i64), .sl 3 (.int .i64)])) := ⟨⟨Tryd.underlying102, Tryd.t182, _, rfl, rfl, rfl, rfl, by decide, by decide, fun _ _ => rfl, fun k h => by cases h⟩, fun _ h => (by cases h), Tryd.t102, rfl, rfl, fun _ _ => rfl⟩
theorem tn103 : TnOk Tryd.prog 103 (.st [.str, .int .i64, .sl 182 (.st [.int .i64, .sl 3 (.int .i64), .sl 3 (.int .i64)])]) := ⟨⟨_, Tryd.underlying103, Tryd.eqGuardType103, Tryd.stoodInHeld103, rfl, fun j τ h => by
    cases j with
    | zero => cases h; exact ⟨_, _, rfl, rfl, by decide, by decide, Tryd.underlying9, rfl, fun us h => by cases h⟩
    | succ j =>
     cases j with
     | zero => cases h; exact ⟨_, _, rfl, rfl, by decide, by decide, Tryd.underlying3, rfl, fun us h => by cases h⟩
     | succ j =>
      cases j with
      | zero => cases h; exact ⟨_, _, rfl, rfl, by decide, by decide, Tryd.underlying102, rfl, fun us h => by cases h⟩
      | succ j =>
       cases h⟩, (fun us hus fs hfs j τ h f hf => by
    cases hus
    rw [Tryd.underlying103] at hfs
    cases hfs
    cases j with
    | zero => cases h; cases hf; exact ⟨fun k e => (by cases e), fun e => (by cases e), fun _ => Tryd.underlying9⟩
    | succ j =>
     cases j with
     | zero => cases h; cases hf; exact ⟨fun k e => by cases e; exact Tryd.underlying3, fun e => (by cases e), fun e => (by cases e)⟩
     | succ j =>
      cases j with
      | zero => cases h; cases hf; exact ⟨fun k e => (by cases e), fun e => (by cases e), fun e => (by cases e)⟩
      | succ j =>
       cases h), Tryd.t103, rfl, rfl, fun _ _ => rfl⟩
theorem tn104 : TnOk Tryd.prog 104 (.st [.str, .int .i64, .sl 182 (.st [.int .i64, .sl 3 (.int .i64), .sl 3 (.int .i64)])]) := ⟨⟨_, Tryd.underlying104, Tryd.eqGuardType104, Tryd.stoodInHeld104, rfl, fun j τ h => by
    cases j with
    | zero => cases h; exact ⟨_, _, rfl, rfl, by decide, by decide, Tryd.underlying9, rfl, fun us h => by cases h⟩
    | succ j =>
     cases j with
     | zero => cases h; exact ⟨_, _, rfl, rfl, by decide, by decide, Tryd.underlying3, rfl, fun us h => by cases h⟩
     | succ j =>
      cases j with
      | zero => cases h; exact ⟨_, _, rfl, rfl, by decide, by decide, Tryd.underlying102, rfl, fun us h => by cases h⟩
      | succ j =>
       cases h⟩, (fun us hus fs hfs j τ h f hf => by
    cases hus
    rw [Tryd.underlying104] at hfs
    cases hfs
    cases j with
    | zero => cases h; cases hf; exact ⟨fun k e => (by cases e), fun e => (by cases e), fun _ => Tryd.underlying9⟩
    | succ j =>
     cases j with
     | zero => cases h; cases hf; exact ⟨fun k e => by cases e; exact Tryd.underlying3, fun e => (by cases e), fun e => (by cases e)⟩
     | succ j =>
      cases j with
      | zero => cases h; cases hf; exact ⟨fun k e => (by cases e), fun e => (by cases e), fun e => (by cases e)⟩
      | succ j =>
       cases h), Tryd.t104, rfl, rfl, fun _ _ => rfl⟩
theorem tn105 : TnOk Tryd.prog 105 (.fn [.st [.sl 186 (.st [.int .i64, .int .i64]), .sl 25 (.sl 3 (.int .i64))], .int .i64] (.int .i64)) := ⟨⟨_, _, _, Tryd.underlying105⟩, fun _ h => (by cases h), Tryd.t105, rfl, rfl, fun _ h => by cases h⟩
theorem tn106 : TnOk Tryd.prog 106 (.sl 186 (.st [.int .i64, .int .i64])) := ⟨⟨Tryd.underlying106, Tryd.t186, _, rfl, rfl, rfl, rfl, by decide, by decide, fun _ _ => rfl, fun k h => by cases h⟩, fun _ h => (by cases h), Tryd.t106, rfl, rfl, fun _ _ => rfl⟩
theorem tn107 : TnOk Tryd.prog 107 (.st [.sl 186 (.st [.int .i64, .int .i64]), .sl 25 (.sl 3 (.int .i64))]) := ⟨⟨_, Tryd.underlying107, Tryd.eqGuardType107, Tryd.stoodInHeld107, rfl, fun j τ h => by
    cases j with
    | zero => cases h; exact ⟨_, _, rfl, rfl, by decide, by decide, Tryd.underlying106, rfl, fun us h => by cases h⟩
    | succ j =>
     cases j with
     | zero => cases h; exact ⟨_, _, rfl, rfl, by decide, by decide, Tryd.underlying42, rfl, fun us h => by cases h⟩
     | succ j =>
      cases h⟩, (fun us hus fs hfs j τ h f hf => by
    cases hus
    rw [Tryd.underlying107] at hfs
    cases hfs
    cases j with
    | zero => cases h; cases hf; exact ⟨fun k e => (by cases e), fun e => (by cases e), fun e => (by cases e)⟩
    | succ j =>
     cases j with
     | zero => cases h; cases hf; exact ⟨fun k e => (by cases e), fun e => (by cases e), fun e => (by cases e)⟩
     | succ j =>
      cases h), Tryd.t107, rfl, rfl, fun _ _ => rfl⟩
theorem tn108 : TnOk Tryd.prog 108 (.st [.sl 186 (.st [.int .i64, .int .i64]), .sl 25 (.sl 3 (.int .i64))]) := ⟨⟨_, Tryd.underlying108, Tryd.eqGuardType108, Tryd.stoodInHeld108, rfl, fun j τ h => by
    cases j with
    | zero => cases h; exact ⟨_, _, rfl, rfl, by decide, by decide, Tryd.underlying106, rfl, fun us h => by cases h⟩
    | succ j =>
     cases j with
     | zero => cases h; exact ⟨_, _, rfl, rfl, by decide, by decide, Tryd.underlying42, rfl, fun us h => by cases h⟩
     | succ j =>
      cases h⟩, (fun us hus fs hfs j τ h f hf => by
    cases hus
    rw [Tryd.underlying108] at hfs
    cases hfs
    cases j with
    | zero => cases h; cases hf; exact ⟨fun k e => (by cases e), fun e => (by cases e), fun e => (by cases e)⟩
    | succ j =>
     cases j with
     | zero => cases h; cases hf; exact ⟨fun k e => (by cases e), fun e => (by cases e), fun e => (by cases e)⟩
     | succ j =>
      cases h), Tryd.t108, rfl, rfl, fun _ _ => rfl⟩
theorem tn109 : TnOk Tryd.prog 109 (.fn [.st [.str, .int .i64, .sl 121 (.st [.int .i64, .sl 3 (.int .i64), .sl 3 (.int .i64)])]] (.st [.str, .int .i64, .sl 121 (.st [.int .i64, .sl 3 (.int .i64), .sl 3 (.int .i64)])])) := ⟨⟨_, _, _, Tryd.underlying109⟩, fun _ h => (by cases h), Tryd.t109, rfl, rfl, fun _ h => by cases h⟩
theorem tn110 : TnOk Tryd.prog 110 (.sl 124 (.st [.int .i64, .int .i64])) := ⟨⟨Tryd.underlying110, Tryd.t124, _, rfl, rfl, rfl, rfl, by decide, by decide, fun _ _ => rfl, fun k h => by cases h⟩, fun _ h => (by cases h), Tryd.t110, rfl, rfl, fun _ _ => rfl⟩
theorem tn111 : TnOk Tryd.prog 111 (.st [.sl 124 (.st [.int .i64, .int .i64]), .sl 25 (.sl 3 (.int .i64))]) := ⟨⟨_, Tryd.underlying111, Tryd.eqGuardType111, Tryd.stoodInHeld111, rfl, fun j τ h => by
    cases j with
    | zero => cases h; exact ⟨_, _, rfl, rfl, by decide, by decide, Tryd.underlying110, rfl, fun us h => by cases h⟩
    | succ j =>
     cases j with
     | zero => cases h; exact ⟨_, _, rfl, rfl, by decide, by decide, Tryd.underlying42, rfl, fun us h => by cases h⟩
     | succ j =>
      cases h⟩, (fun us hus fs hfs j τ h f hf => by
    cases hus
    rw [Tryd.underlying111] at hfs
    cases hfs
    cases j with
    | zero => cases h; cases hf; exact ⟨fun k e => (by cases e), fun e => (by cases e), fun e => (by cases e)⟩
    | succ j =>
     cases j with
     | zero => cases h; cases hf; exact ⟨fun k e => (by cases e), fun e => (by cases e), fun e => (by cases e)⟩
     | succ j =>
      cases h), Tryd.t111, rfl, rfl, fun _ _ => rfl⟩
theorem tn112 : TnOk Tryd.prog 112 (.st [.sl 124 (.st [.int .i64, .int .i64]), .sl 25 (.sl 3 (.int .i64))]) := ⟨⟨_, Tryd.underlying112, Tryd.eqGuardType112, Tryd.stoodInHeld112, rfl, fun j τ h => by
    cases j with
    | zero => cases h; exact ⟨_, _, rfl, rfl, by decide, by decide, Tryd.underlying110, rfl, fun us h => by cases h⟩
    | succ j =>
     cases j with
     | zero => cases h; exact ⟨_, _, rfl, rfl, by decide, by decide, Tryd.underlying42, rfl, fun us h => by cases h⟩
     | succ j =>
      cases h⟩, (fun us hus fs hfs j τ h f hf => by
    cases hus
    rw [Tryd.underlying112] at hfs
    cases hfs
    cases j with
    | zero => cases h; cases hf; exact ⟨fun k e => (by cases e), fun e => (by cases e), fun e => (by cases e)⟩
    | succ j =>
     cases j with
     | zero => cases h; cases hf; exact ⟨fun k e => (by cases e), fun e => (by cases e), fun e => (by cases e)⟩
     | succ j =>
      cases h), Tryd.t112, rfl, rfl, fun _ _ => rfl⟩
theorem tn113 : TnOk Tryd.prog 113 (.fn [.int .i64, .int .i64, .int .i64] (.bool)) := ⟨⟨_, _, _, Tryd.underlying113⟩, fun _ h => (by cases h), Tryd.t113, rfl, rfl, fun _ h => by cases h⟩
theorem tn114 : TnOk Tryd.prog 114 (.fn [.st [.str, .int .i64, .sl 121 (.st [.int .i64, .sl 3 (.int .i64), .sl 3 (.int .i64)])], .int .i64, .int .i64] (.bool)) := ⟨⟨_, _, _, Tryd.underlying114⟩, fun _ h => (by cases h), Tryd.t114, rfl, rfl, fun _ h => by cases h⟩
theorem tn115 : TnOk Tryd.prog 115 (.fn [.st [.int .i64, .sl 99 (.st [.str, .int .i64, .sl 121 (.st [.int .i64, .sl 3 (.int .i64), .sl 3 (.int .i64)])]), .sl 38 (.st [.int .i64, .int .i64, .bool, .int .i64]), .sl 112 (.st [.sl 124 (.st [.int .i64, .int .i64]), .sl 25 (.sl 3 (.int .i64))]), .sl 3 (.int .i64)], .str] (.int .i64)) := ⟨⟨_, _, _, Tryd.underlying115⟩, fun _ h => (by cases h), Tryd.t115, rfl, rfl, fun _ h => by cases h⟩
theorem tn116 : TnOk Tryd.prog 116 (.fn [.st [.sl 124 (.st [.int .i64, .int .i64]), .sl 25 (.sl 3 (.int .i64))]] (.bool)) := ⟨⟨_, _, _, Tryd.underlying116⟩, fun _ h => (by cases h), Tryd.t116, rfl, rfl, fun _ h => by cases h⟩
theorem tn117 : TnOk Tryd.prog 117 (.fn [.st [.str, .int .i64, .sl 182 (.st [.int .i64, .sl 3 (.int .i64), .sl 3 (.int .i64)])]] (.st [.str, .int .i64, .sl 121 (.st [.int .i64, .sl 3 (.int .i64), .sl 3 (.int .i64)])])) := ⟨⟨_, _, _, Tryd.underlying117⟩, fun _ h => (by cases h), Tryd.t117, rfl, rfl, fun _ h => by cases h⟩
theorem tn118 : TnOk Tryd.prog 118 (.fn [.st [.sl 186 (.st [.int .i64, .int .i64]), .sl 25 (.sl 3 (.int .i64))]] (.st [.sl 124 (.st [.int .i64, .int .i64]), .sl 25 (.sl 3 (.int .i64))])) := ⟨⟨_, _, _, Tryd.underlying118⟩, fun _ h => (by cases h), Tryd.t118, rfl, rfl, fun _ h => by cases h⟩
theorem tn119 : TnOk Tryd.prog 119 (.fn [.sl 38 (.st [.int .i64, .int .i64, .bool, .int .i64])] (.sl 38 (.st [.int .i64, .int .i64, .bool, .int .i64]))) := ⟨⟨_, _, _, Tryd.underlying119⟩, fun _ h => (by cases h), Tryd.t119, rfl, rfl, fun _ h => by cases h⟩
theorem tn120 : TnOk Tryd.prog 120 (.st [.int .i64, .sl 3 (.int .i64), .sl 3 (.int .i64)]) := ⟨⟨_, Tryd.underlying120, Tryd.eqGuardType120, Tryd.stoodInHeld120, rfl, fun j τ h => by
    cases j with
    | zero => cases h; exact ⟨_, _, rfl, rfl, by decide, by decide, Tryd.underlying3, rfl, fun us h => by cases h⟩
    | succ j =>
     cases j with
     | zero => cases h; exact ⟨_, _, rfl, rfl, by decide, by decide, Tryd.underlying25, rfl, fun us h => by cases h⟩
     | succ j =>
      cases j with
      | zero => cases h; exact ⟨_, _, rfl, rfl, by decide, by decide, Tryd.underlying25, rfl, fun us h => by cases h⟩
      | succ j =>
       cases h⟩, (fun us hus fs hfs j τ h f hf => by
    cases hus
    rw [Tryd.underlying120] at hfs
    cases hfs
    cases j with
    | zero => cases h; cases hf; exact ⟨fun k e => by cases e; exact Tryd.underlying3, fun e => (by cases e), fun e => (by cases e)⟩
    | succ j =>
     cases j with
     | zero => cases h; cases hf; exact ⟨fun k e => (by cases e), fun e => (by cases e), fun e => (by cases e)⟩
     | succ j =>
      cases j with
      | zero => cases h; cases hf; exact ⟨fun k e => (by cases e), fun e => (by cases e), fun e => (by cases e)⟩
      | succ j =>
       cases h), Tryd.t120, rfl, rfl, fun _ _ => rfl⟩
theorem tn121 : TnOk Tryd.prog 121 (.st [.int .i64, .sl 3 (.int .i64), .sl 3 (.int .i64)]) := ⟨⟨_, Tryd.underlying121, Tryd.eqGuardType121, Tryd.stoodInHeld121, rfl, fun j τ h => by
    cases j with
    | zero => cases h; exact ⟨_, _, rfl, rfl, by decide, by decide, Tryd.underlying3, rfl, fun us h => by cases h⟩
    | succ j =>
     cases j with
     | zero => cases h; exact ⟨_, _, rfl, rfl, by decide, by decide, Tryd.underlying25, rfl, fun us h => by cases h⟩
     | succ j =>
      cases j with
      | zero => cases h; exact ⟨_, _, rfl, rfl, by decide, by decide, Tryd.underlying25, rfl, fun us h => by cases h⟩
      | succ j =>
       cases h⟩, (fun us hus fs hfs j τ h f hf => by
    cases hus
    rw [Tryd.underlying121] at hfs
    cases hfs
    cases j with
    | zero => cases h; cases hf; exact ⟨fun k e => by cases e; exact Tryd.underlying3, fun e => (by cases e), fun e => (by cases e)⟩
    | succ j =>
     cases j with
     | zero => cases h; cases hf; exact ⟨fun k e => (by cases e), fun e => (by cases e), fun e => (by cases e)⟩
     | succ j =>
      cases j with
      | zero => cases h; cases hf; exact ⟨fun k e => (by cases e), fun e => (by cases e), fun e => (by cases e)⟩
      | succ j =>
       cases h), Tryd.t121, rfl, rfl, fun _ _ => rfl⟩
theorem tn122 : TnOk Tryd.prog 122 (.fn [.sl 124 (.st [.int .i64, .int .i64])] (.sl 124 (.st [.int .i64, .int .i64]))) := ⟨⟨_, _, _, Tryd.underlying122⟩, fun _ h => (by cases h), Tryd.t122, rfl, rfl, fun _ h => by cases h⟩
theorem tn123 : TnOk Tryd.prog 123 (.st [.int .i64, .int .i64]) := ⟨⟨_, Tryd.underlying123, Tryd.eqGuardType123, Tryd.stoodInHeld123, rfl, fun j τ h => by
    cases j with
    | zero => cases h; exact ⟨_, _, rfl, rfl, by decide, by decide, Tryd.underlying3, rfl, fun us h => by cases h⟩
    | succ j =>
     cases j with
     | zero => cases h; exact ⟨_, _, rfl, rfl, by decide, by decide, Tryd.underlying3, rfl, fun us h => by cases h⟩
     | succ j =>
      cases h⟩, (fun us hus fs hfs j τ h f hf => by
    cases hus
    rw [Tryd.underlying123] at hfs
    cases hfs
    cases j with
    | zero => cases h; cases hf; exact ⟨fun k e => by cases e; exact Tryd.underlying3, fun e => (by cases e), fun e => (by cases e)⟩
    | succ j =>
     cases j with
     | zero => cases h; cases hf; exact ⟨fun k e => by cases e; exact Tryd.underlying3, fun e => (by cases e), fun e => (by cases e)⟩
     | succ j =>
      cases h), Tryd.t123, rfl, rfl, fun _ _ => rfl⟩
theorem tn124 : TnOk Tryd.prog 124 (.st [.int .i64, .int .i64]) := ⟨⟨_, Tryd.underlying124, Tryd.eqGuardType124, Tryd.stoodInHeld124, rfl, fun j τ h => by
    cases j with
    | zero => cases h; exact ⟨_, _, rfl, rfl, by decide, by decide, Tryd.underlying3, rfl, fun us h => by cases h⟩
    | succ j =>
     cases j with
     | zero => cases h; exact ⟨_, _, rfl, rfl, by decide, by decide, Tryd.underlying3, rfl, fun us h => by cases h⟩
     | succ j =>
      cases h⟩, (fun us hus fs hfs j τ h f hf => by
    cases hus
    rw [Tryd.underlying124] at hfs
    cases hfs
    cases j with
    | zero => cases h; cases hf; exact ⟨fun k e => by cases e; exact Tryd.underlying3, fun e => (by cases e), fun e => (by cases e)⟩
    | succ j =>
     cases j with
     | zero => cases h; cases hf; exact ⟨fun k e => by cases e; exact Tryd.underlying3, fun e => (by cases e), fun e => (by cases e)⟩
     | succ j =>
      cases h), Tryd.t124, rfl, rfl, fun _ _ => rfl⟩
theorem tn125 : TnOk Tryd.prog 125 (.fn [.sl 38 (.st [.int .i64, .int .i64, .bool, .int .i64]), .fn [.st [.int .i64, .int .i64, .bool, .int .i64]] (.bool)] (.bool)) := ⟨⟨_, _, _, Tryd.underlying125⟩, fun _ h => (by cases h), Tryd.t125, rfl, rfl, fun _ h => by cases h⟩
theorem tn126 : TnOk Tryd.prog 126 (.fn [.st [.int .i64, .int .i64, .bool, .int .i64]] (.bool)) := ⟨⟨_, _, _, Tryd.underlying126⟩, fun _ h => (by cases h), Tryd.t126, rfl, rfl, fun _ h => by cases h⟩
theorem tn127 : TnOk Tryd.prog 127 (.fn [.st [.str, .int .i64, .sl 121 (.st [.int .i64, .sl 3 (.int .i64), .sl 3 (.int .i64)])], .st [.str, .int .i64, .sl 121 (.st [.int .i64, .sl 3 (.int .i64), .sl 3 (.int .i64)])]] (.bool)) := ⟨⟨_, _, _, Tryd.underlying127⟩, fun _ h => (by cases h), Tryd.t127, rfl, rfl, fun _ h => by cases h⟩
theorem tn128 : TnOk Tryd.prog 128 (.fn [.st [.int .i64, .int .i64, .bool, .int .i64], .st [.int .i64, .int .i64, .bool, .int .i64]] (.bool)) := ⟨⟨_, _, _, Tryd.underlying128⟩, fun _ h => (by cases h), Tryd.t128, rfl, rfl, fun _ h => by cases h⟩
theorem tn129 : TnOk Tryd.prog 129 (.fn [.st [.sl 124 (.st [.int .i64, .int .i64]), .sl 25 (.sl 3 (.int .i64))], .st [.sl 124 (.st [.int .i64, .int .i64]), .sl 25 (.sl 3 (.int .i64))]] (.bool)) := ⟨⟨_, _, _, Tryd.underlying129⟩, fun _ h => (by cases h), Tryd.t129, rfl, rfl, fun _ h => by cases h⟩
theorem tn133 : TnOk Tryd.prog 133 (.sl 5 (.int .u8)) := ⟨⟨Tryd.underlying133, Tryd.t5, _, rfl, rfl, rfl, rfl, by decide, by decide, fun _ _ => rfl, fun k h => by cases h; exact Tryd.underlying5⟩, fun _ h => (by cases h), Tryd.t133, rfl, rfl, fun _ _ => rfl⟩
theorem tn140 : TnOk Tryd.prog 140 (.fn [.int .i64] (.bool)) := ⟨⟨_, _, _, Tryd.underlying140⟩, fun _ h => (by cases h), Tryd.t140, rfl, rfl, fun _ h => by cases h⟩
theorem tn150 : TnOk Tryd.prog 150 (.fn [.sl 182 (.st [.int .i64, .sl 3 (.int .i64), .sl 3 (.int .i64)]), .int .i64] (.int .i64)) := ⟨⟨_, _, _, Tryd.underlying150⟩, fun _ h => (by cases h), Tryd.t150, rfl, rfl, fun _ h => by cases h⟩
theorem tn151 : TnOk Tryd.prog 151 (.fn [.sl 186 (.st [.int .i64, .int .i64]), .int .i64] (.int .i64)) := ⟨⟨_, _, _, Tryd.underlying151⟩, fun _ h => (by cases h), Tryd.t151, rfl, rfl, fun _ h => by cases h⟩
theorem tn152 : TnOk Tryd.prog 152 (.fn [.sl 25 (.sl 3 (.int .i64)), .int .i64] (.int .i64)) := ⟨⟨_, _, _, Tryd.underlying152⟩, fun _ h => (by cases h), Tryd.t152, rfl, rfl, fun _ h => by cases h⟩
theorem tn153 : TnOk Tryd.prog 153 (.fn [.st [.int .i64, .sl 3 (.int .i64), .sl 3 (.int .i64)], .int .i64, .int .i64] (.bool)) := ⟨⟨_, _, _, Tryd.underlying153⟩, fun _ h => (by cases h), Tryd.t153, rfl, rfl, fun _ h => by cases h⟩
theorem tn154 : TnOk Tryd.prog 154 (.fn [.str] (.bool)) := ⟨⟨_, _, _, Tryd.underlying154⟩, fun _ h => (by cases h), Tryd.t154, rfl, rfl, fun _ h => by cases h⟩
theorem tn155 : TnOk Tryd.prog 155 (.fn [.sl 124 (.st [.int .i64, .int .i64])] (.bool)) := ⟨⟨_, _, _, Tryd.underlying155⟩, fun _ h => (by cases h), Tryd.t155, rfl, rfl, fun _ h => by cases h⟩
theorem tn156 : TnOk Tryd.prog 156 (.fn [.sl 182 (.st [.int .i64, .sl 3 (.int .i64), .sl 3 (.int .i64)])] (.sl 121 (.st [.int .i64, .sl 3 (.int .i64), .sl 3 (.int .i64)]))) := ⟨⟨_, _, _, Tryd.underlying156⟩, fun _ h => (by cases h), Tryd.t156, rfl, rfl, fun _ h => by cases h⟩
theorem tn157 : TnOk Tryd.prog 157 (.fn [.sl 186 (.st [.int .i64, .int .i64])] (.sl 124 (.st [.int .i64, .int .i64]))) := ⟨⟨_, _, _, Tryd.underlying157⟩, fun _ h => (by cases h), Tryd.t157, rfl, rfl, fun _ h => by cases h⟩
theorem tn158 : TnOk Tryd.prog 158 (.fn [.sl 25 (.sl 3 (.int .i64))] (.sl 25 (.sl 3 (.int .i64)))) := ⟨⟨_, _, _, Tryd.underlying158⟩, fun _ h => (by cases h), Tryd.t158, rfl, rfl, fun _ h => by cases h⟩
theorem tn159 : TnOk Tryd.prog 159 (.fn [.sl 99 (.st [.str, .int .i64, .sl 121 (.st [.int .i64, .sl 3 (.int .i64), .sl 3 (.int .i64)])]), .fn [.st [.str, .int .i64, .sl 121 (.st [.int .i64, .sl 3 (.int .i64), .sl 3 (.int .i64)])]] (.bool)] (.int .i64)) := ⟨⟨_, _, _, Tryd.underlying159⟩, fun _ h => (by cases h), Tryd.t159, rfl, rfl, fun _ h => by cases h⟩
theorem tn160 : TnOk Tryd.prog 160 (.fn [.st [.str, .int .i64, .sl 121 (.st [.int .i64, .sl 3 (.int .i64), .sl 3 (.int .i64)])]] (.bool)) := ⟨⟨_, _, _, Tryd.underlying160⟩, fun _ h => (by cases h), Tryd.t160, rfl, rfl, fun _ h => by cases h⟩
theorem tn161 : TnOk Tryd.prog 161 (.fn [.sl 38 (.st [.int .i64, .int .i64, .bool, .int .i64]), .fn [.st [.int .i64, .int .i64, .bool, .int .i64]] (.bool)] (.int .i64)) := ⟨⟨_, _, _, Tryd.underlying161⟩, fun _ h => (by cases h), Tryd.t161, rfl, rfl, fun _ h => by cases h⟩
theorem tn162 : TnOk Tryd.prog 162 (.fn [.sl 121 (.st [.int .i64, .sl 3 (.int .i64), .sl 3 (.int .i64)]), .sl 121 (.st [.int .i64, .sl 3 (.int .i64), .sl 3 (.int .i64)])] (.bool)) := ⟨⟨_, _, _, Tryd.underlying162⟩, fun _ h => (by cases h), Tryd.t162, rfl, rfl, fun _ h => by cases h⟩
theorem tn163 : TnOk Tryd.prog 163 (.fn [.sl 124 (.st [.int .i64, .int .i64]), .sl 124 (.st [.int .i64, .int .i64])] (.bool)) := ⟨⟨_, _, _, Tryd.underlying163⟩, fun _ h => (by cases h), Tryd.t163, rfl, rfl, fun _ h => by cases h⟩
theorem tn164 : TnOk Tryd.prog 164 (.fn [.sl 25 (.sl 3 (.int .i64)), .sl 25 (.sl 3 (.int .i64))] (.bool)) := ⟨⟨_, _, _, Tryd.underlying164⟩, fun _ h => (by cases h), Tryd.t164, rfl, rfl, fun _ h => by cases h⟩
theorem tn181 : TnOk Tryd.prog 181 (.fn [.st [.int .i64, .sl 3 (.int .i64), .sl 3 (.int .i64)], .int .i64] (.int .i64)) := ⟨⟨_, _, _, Tryd.underlying181⟩, fun _ h => (by cases h), Tryd.t181, rfl, rfl, fun _ h => by cases h⟩
theorem tn182 : TnOk Tryd.prog 182 (.st [.int .i64, .sl 3 (.int .i64), .sl 3 (.int .i64)]) := ⟨⟨_, Tryd.underlying182, Tryd.eqGuardType182, Tryd.stoodInHeld182, rfl, fun j τ h => by
    cases j with
    | zero => cases h; exact ⟨_, _, rfl, rfl, by decide, by decide, Tryd.underlying3, rfl, fun us h => by cases h⟩
    | succ j =>
     cases j with
     | zero => cases h; exact ⟨_, _, rfl, rfl, by decide, by decide, Tryd.underlying25, rfl, fun us h => by cases h⟩
     | succ j =>
      cases j with
      | zero => cases h; exact ⟨_, _, rfl, rfl, by decide, by decide, Tryd.underlying25, rfl, fun us h => by cases h⟩
      | succ j =>
       cases h⟩, (fun us hus fs hfs j τ h f hf => by
    cases hus
    rw [Tryd.underlying182] at hfs
    cases hfs
    cases j with
    | zero => cases h; cases hf; exact ⟨fun k e => by cases e; exact Tryd.underlying3, fun e => (by cases e), fun e => (by cases e)⟩
    | succ j =>
     cases j with
     | zero => cases h; cases hf; exact ⟨fun k e => (by cases e), fun e => (by cases e), fun e => (by cases e)⟩
     | succ j =>
      cases j with
      | zero => cases h; cases hf; exact ⟨fun k e => (by cases e), fun e => (by cases e), fun e => (by cases e)⟩
      | succ j =>
       cases h), Tryd.t182, rfl, rfl, fun _ _ => rfl⟩
theorem tn183 : TnOk Tryd.prog 183 (.fn [.sl 3 (.int .i64), .int .i64] (.bool)) := ⟨⟨_, _, _, Tryd.underlying183⟩, fun _ h => (by cases h), Tryd.t183, rfl, rfl, fun _ h => by cases h⟩
theorem tn184 : TnOk Tryd.prog 184 (.fn [.st [.int .i64, .sl 3 (.int .i64), .sl 3 (.int .i64)]] (.st [.int .i64, .sl 3 (.int .i64), .sl 3 (.int .i64)])) := ⟨⟨_, _, _, Tryd.underlying184⟩, fun _ h => (by cases h), Tryd.t184, rfl, rfl, fun _ h => by cases h⟩
theorem tn185 : TnOk Tryd.prog 185 (.fn [.st [.int .i64, .int .i64]] (.st [.int .i64, .int .i64])) := ⟨⟨_, _, _, Tryd.underlying185⟩, fun _ h => (by cases h), Tryd.t185, rfl, rfl, fun _ h => by cases h⟩
theorem tn186 : TnOk Tryd.prog 186 (.st [.int .i64, .int .i64]) := ⟨⟨_, Tryd.underlying186, Tryd.eqGuardType186, Tryd.stoodInHeld186, rfl, fun j τ h => by
    cases j with
    | zero => cases h; exact ⟨_, _, rfl, rfl, by decide, by decide, Tryd.underlying3, rfl, fun us h => by cases h⟩
    | succ j =>
     cases j with
     | zero => cases h; exact ⟨_, _, rfl, rfl, by decide, by decide, Tryd.underlying3, rfl, fun us h => by cases h⟩
     | succ j =>
      cases h⟩, (fun us hus fs hfs j τ h f hf => by
    cases hus
    rw [Tryd.underlying186] at hfs
    cases hfs
    cases j with
    | zero => cases h; cases hf; exact ⟨fun k e => by cases e; exact Tryd.underlying3, fun e => (by cases e), fun e => (by cases e)⟩
    | succ j =>
     cases j with
     | zero => cases h; cases hf; exact ⟨fun k e => by cases e; exact Tryd.underlying3, fun e => (by cases e), fun e => (by cases e)⟩
     | succ j =>
      cases h), Tryd.t186, rfl, rfl, fun _ _ => rfl⟩
theorem tn187 : TnOk Tryd.prog 187 (.fn [.st [.int .i64, .sl 3 (.int .i64), .sl 3 (.int .i64)], .st [.int .i64, .sl 3 (.int .i64), .sl 3 (.int .i64)]] (.bool)) := ⟨⟨_, _, _, Tryd.underlying187⟩, fun _ h => (by cases h), Tryd.t187, rfl, rfl, fun _ h => by cases h⟩
theorem tn188 : TnOk Tryd.prog 188 (.fn [.st [.int .i64, .int .i64], .st [.int .i64, .int .i64]] (.bool)) := ⟨⟨_, _, _, Tryd.underlying188⟩, fun _ h => (by cases h), Tryd.t188, rfl, rfl, fun _ h => by cases h⟩
def tys : List (Nat × Ty) := [(3, .int .i64), (4, .bool), (5, .int .u8), (9, .str), (22, .sl 104 (.st [.str, .int .i64, .sl 182 (.st [.int .i64, .sl 3 (.int .i64), .sl 3 (.int .i64)])])), (23, .sl 29 (.st [.int .i64, .int .i64, .bool, .int .i64])), (24, .sl 108 (.st [.sl 186 (.st [.int .i64, .int .i64]), .sl 25 (.sl 3 (.int .i64))])), (25, .sl 3 (.int .i64)), (26, .st [.int .i64, .sl 104 (.st [.str, .int .i64, .sl 182 (.st [.int .i64, .sl 3 (.int .i64), .sl 3 (.int .i64)])]), .sl 29 (.st [.int .i64, .int .i64, .bool, .int .i64]), .sl 108 (.st [.sl 186 (.st [.int .i64, .int .i64]), .sl 25 (.sl 3 (.int .i64))]), .sl 3 (.int .i64)]), (27, .st [.int .i64, .sl 104 (.st [.str, .int .i64, .sl 182 (.st [.int .i64, .sl 3 (.int .i64), .sl 3 (.int .i64)])]), .sl 29 (.st [.int .i64, .int .i64, .bool, .int .i64]), .sl 108 (.st [.sl 186 (.st [.int .i64, .int .i64]), .sl 25 (.sl 3 (.int .i64))]), .sl 3 (.int .i64)]), (28, .st [.int .i64, .int .i64, .bool, .int .i64]), (29, .st [.int .i64, .int .i64, .bool, .int .i64]), (30, .fn [.st [.int .i64, .sl 104 (.st [.str, .int .i64, .sl 182 (.st [.int .i64, .sl 3 (.int .i64), .sl 3 (.int .i64)])]), .sl 29 (.st [.int .i64, .int .i64, .bool, .int .i64]), .sl 108 (.st [.sl 186 (.st [.int .i64, .int .i64]), .sl 25 (.sl 3 (.int .i64))]), .sl 3 (.int .i64)], .int .i64] (.int .i64)), (31, .fn [.st [.int .i64, .sl 99 (.st [.str, .int .i64, .sl 121 (.st [.int .i64, .sl 3 (.int .i64), .sl 3 (.int .i64)])]), .sl 38 (.st [.int .i64, .int .i64, .bool, .int .i64]), .sl 112 (.st [.sl 124 (.st [.int .i64, .int .i64]), .sl 25 (.sl 3 (.int .i64))]), .sl 3 (.int .i64)], .st [.int .i64, .int .i64, .bool, .int .i64]] (.str)), (32, .sl 99 (.st [.str, .int .i64, .sl 121 (.st [.int .i64, .sl 3 (.int .i64), .sl 3 (.int .i64)])])), (33, .sl 38 (.st [.int .i64, .int .i64, .bool, .int .i64])), (34, .sl 112 (.st [.sl 124 (.st [.int .i64, .int .i64]), .sl 25 (.sl 3 (.int .i64))])), (35, .st [.int .i64, .sl 99 (.st [.str, .int .i64, .sl 121 (.st [.int .i64, .sl 3 (.int .i64), .sl 3 (.int .i64)])]), .sl 38 (.st [.int .i64, .int .i64, .bool, .int .i64]), .sl 112 (.st [.sl 124 (.st [.int .i64, .int .i64]), .sl 25 (.sl 3 (.int .i64))]), .sl 3 (.int .i64)]), (36, .st [.int .i64, .sl 99 (.st [.str, .int .i64, .sl 121 (.st [.int .i64, .sl 3 (.int .i64), .sl 3 (.int .i64)])]), .sl 38 (.st [.int .i64, .int .i64, .bool, .int .i64]), .sl 112 (.st [.sl 124 (.st [.int .i64, .int .i64]), .sl 25 (.sl 3 (.int .i64))]), .sl 3 (.int .i64)]), (37, .fn [.st [.int .i64, .sl 104 (.st [.str, .int .i64, .sl 182 (.st [.int .i64, .sl 3 (.int .i64), .sl 3 (.int .i64)])]), .sl 29 (.st [.int .i64, .int .i64, .bool, .int .i64]), .sl 108 (.st [.sl 186 (.st [.int .i64, .int .i64]), .sl 25 (.sl 3 (.int .i64))]), .sl 3 (.int .i64)]] (.st [.int .i64, .sl 99 (.st [.str, .int .i64, .sl 121 (.st [.int .i64, .sl 3 (.int .i64), .sl 3 (.int .i64)])]), .sl 38 (.st [.int .i64, .int .i64, .bool, .int .i64]), .sl 112 (.st [.sl 124 (.st [.int .i64, .int .i64]), .sl 25 (.sl 3 (.int .i64))]), .sl 3 (.int .i64)])), (38, .st [.int .i64, .int .i64, .bool, .int .i64]), (39, .fn [.st [.int .i64, .int .i64, .bool, .int .i64]] (.st [.int .i64, .int .i64, .bool, .int .i64])), (40, .fn [.st [.int .i64, .sl 99 (.st [.str, .int .i64, .sl 121 (.st [.int .i64, .sl 3 (.int .i64), .sl 3 (.int .i64)])]), .sl 38 (.st [.int .i64, .int .i64, .bool, .int .i64]), .sl 112 (.st [.sl 124 (.st [.int .i64, .int .i64]), .sl 25 (.sl 3 (.int .i64))]), .sl 3 (.int .i64)], .st [.int .i64, .sl 99 (.st [.str, .int .i64, .sl 121 (.st [.int .i64, .sl 3 (.int .i64), .sl 3 (.int .i64)])]), .sl 38 (.st [.int .i64, .int .i64, .bool, .int .i64]), .sl 112 (.st [.sl 124 (.st [.int .i64, .int .i64]), .sl 25 (.sl 3 (.int .i64))]), .sl 3 (.int .i64)]] (.bool)), (41, .fn [.st [.int .i64, .sl 104 (.st [.str, .int .i64, .sl 182 (.st [.int .i64, .sl 3 (.int .i64), .sl 3 (.int .i64)])]), .sl 29 (.st [.int .i64, .int .i64, .bool, .int .i64]), .sl 108 (.st [.sl 186 (.st [.int .i64, .int .i64]), .sl 25 (.sl 3 (.int .i64))]), .sl 3 (.int .i64)], .st [.int .i64, .int .i64, .bool, .int .i64]] (.bool)), (42, .sl 25 (.sl 3 (.int .i64))), (72, .fn [.sl 104 (.st [.str, .int .i64, .sl 182 (.st [.int .i64, .sl 3 (.int .i64), .sl 3 (.int .i64)])]), .int .i64] (.int .i64)), (73, .fn [.sl 29 (.st [.int .i64, .int .i64, .bool, .int .i64]), .int .i64] (.int .i64)), (74, .fn [.sl 108 (.st [.sl 186 (.st [.int .i64, .int .i64]), .sl 25 (.sl 3 (.int .i64))]), .int .i64] (.int .i64)), (75, .fn [.sl 3 (.int .i64), .int .i64] (.int .i64)), (76, .fn [.st [.int .i64, .sl 99 (.st [.str, .int .i64, .sl 121 (.st [.int .i64, .sl 3 (.int .i64), .sl 3 (.int .i64)])]), .sl 38 (.st [.int .i64, .int .i64, .bool, .int .i64]), .sl 112 (.st [.sl 124 (.st [.int .i64, .int .i64]), .sl 25 (.sl 3 (.int .i64))]), .sl 3 (.int .i64)]] (.st [.int .i64, .sl 99 (.st [.str, .int .i64, .sl 121 (.st [.int .i64, .sl 3 (.int .i64), .sl 3 (.int .i64)])]), .sl 38 (.st [.int .i64, .int .i64, .bool, .int .i64]), .sl 112 (.st [.sl 124 (.st [.int .i64, .int .i64]), .sl 25 (.sl 3 (.int .i64))]), .sl 3 (.int .i64)])), (77, .fn [.st [.int .i64, .sl 99 (.st [.str, .int .i64, .sl 121 (.st [.int .i64, .sl 3 (.int .i64), .sl 3 (.int .i64)])]), .sl 38 (.st [.int .i64, .int .i64, .bool, .int .i64]), .sl 112 (.st [.sl 124 (.st [.int .i64, .int .i64]), .sl 25 (.sl 3 (.int .i64))]), .sl 3 (.int .i64)]] (.bool)), (78, .fn [.sl 104 (.st [.str, .int .i64, .sl 182 (.st [.int .i64, .sl 3 (.int .i64), .sl 3 (.int .i64)])])] (.sl 99 (.st [.str, .int .i64, .sl 121 (.st [.int .i64, .sl 3 (.int .i64), .sl 3 (.int .i64)])]))), (79, .fn [.sl 29 (.st [.int .i64, .int .i64, .bool, .int .i64])] (.sl 38 (.st [.int .i64, .int .i64, .bool, .int .i64]))), (80, .fn [.sl 108 (.st [.sl 186 (.st [.int .i64, .int .i64]), .sl 25 (.sl 3 (.int .i64))])] (.sl 112 (.st [.sl 124 (.st [.int .i64, .int .i64]), .sl 25 (.sl 3 (.int .i64))]))), (81, .fn [.sl 3 (.int .i64)] (.sl 3 (.int .i64))), (82, .fn [] (.st [.int .i64, .sl 99 (.st [.str, .int .i64, .sl 121 (.st [.int .i64, .sl 3 (.int .i64), .sl 3 (.int .i64)])]), .sl 38 (.st [.int .i64, .int .i64, .bool, .int .i64]), .sl 112 (.st [.sl 124 (.st [.int .i64, .int .i64]), .sl 25 (.sl 3 (.int .i64))]), .sl 3 (.int .i64)])), (83, .fn [.st [.int .i64, .int .i64, .bool, .int .i64]] (.str)), (84, .fn [.sl 99 (.st [.str, .int .i64, .sl 121 (.st [.int .i64, .sl 3 (.int .i64), .sl 3 (.int .i64)])]), .sl 99 (.st [.str, .int .i64, .sl 121 (.st [.int .i64, .sl 3 (.int .i64), .sl 3 (.int .i64)])])] (.bool)), (85, .fn [.sl 38 (.st [.int .i64, .int .i64, .bool, .int .i64]), .sl 38 (.st [.int .i64, .int .i64, .bool, .int .i64])] (.bool)), (86, .fn [.sl 112 (.st [.sl 124 (.st [.int .i64, .int .i64]), .sl 25 (.sl 3 (.int .i64))]), .sl 112 (.st [.sl 124 (.st [.int .i64, .int .i64]), .sl 25 (.sl 3 (.int .i64))])] (.bool)), (87, .fn [.sl 3 (.int .i64), .sl 3 (.int .i64)] (.bool)), (90, .fn [.int .i64] (.str)), (97, .sl 121 (.st [.int .i64, .sl 3 (.int .i64), .sl 3 (.int .i64)])), (98, .st [.str, .int .i64, .sl 121 (.st [.int .i64, .sl 3 (.int .i64), .sl 3 (.int .i64)])]), (99, .st [.str, .int .i64, .sl 121 (.st [.int .i64, .sl 3 (.int .i64), .sl 3 (.int .i64)])]), (101, .fn [.st [.str, .int .i64, .sl 182 (.st [.int .i64, .sl 3 (.int .i64), .sl 3 (.int .i64)])], .int .i64] (.int .i64)), (102, .sl 182 (.st [.int .i64, .sl 3 (.int .i64), .sl 3 (.int .i64)])), (103, .st [.str, .int .i64, .sl 182 (.st [.int .i64, .sl 3 (.int .i64), .sl 3 (.int .i64)])]), (104, .st [.str, .int .i64, .sl 182 (.st [.int .i64, .sl 3 (.int .i64), .sl 3 (.int .i64)])]), (105, .fn [.st [.sl 186 (.st [.int .i64, .int .i64]), .sl 25 (.sl 3 (.int .i64))], .int .i64] (.int .i64)), (106, .sl 186 (.st [.int .i64, .int .i64])), (107, .st [.sl 186 (.st [.int .i64, .int .i64]), .sl 25 (.sl 3 (.int .i64))]), (108, .st [.sl 186 (.st [.int .i64, .int .i64]), .sl 25 (.sl 3 (.int .i64))]), (109, .fn [.st [.str, .int .i64, .sl 121 (.st [.int .i64, .sl 3 (.int .i64), .sl 3 (.int .i64)])]] (.st [.str, .int .i64, .sl 121 (.st [.int .i64, .sl 3 (.int .i64), .sl 3 (.int .i64)])])), (110, .sl 124 (.st [.int .i64, .int .i64])), (111, .st [.sl 124 (.st [.int .i64, .int .i64]), .sl 25 (.sl 3 (.int .i64))]), (112, .st [.sl 124 (.st [.int .i64, .int .i64]), .sl 25 (.sl 3 (.int .i64))]), (113, .fn [.int .i64, .int .i64, .int .i64] (.bool)), (114, .fn [.st [.str, .int .i64, .sl 121 (.st [.int .i64, .sl 3 (.int .i64), .sl 3 (.int .i64)])], .int .i64, .int .i64] (.bool)), (115, .fn [.st [.int .i64, .sl 99 (.st [.str, .int .i64, .sl 121 (.st [.int .i64, .sl 3 (.int .i64), .sl 3 (.int .i64)])]), .sl 38 (.st [.int .i64, .int .i64, .bool, .int .i64]), .sl 112 (.st [.sl 124 (.st [.int .i64, .int .i64]), .sl 25 (.sl 3 (.int .i64))]), .sl 3 (.int .i64)], .str] (.int .i64)), (116, .fn [.st [.sl 124 (.st [.int .i64, .int .i64]), .sl 25 (.sl 3 (.int .i64))]] (.bool)), (117, .fn [.st [.str, .int .i64, .sl 182 (.st [.int .i64, .sl 3 (.int .i64), .sl 3 (.int .i64)])]] (.st [.str, .int .i64, .sl 121 (.st [.int .i64, .sl 3 (.int .i64), .sl 3 (.int .i64)])])), (118, .fn [.st [.sl 186 (.st [.int .i64, .int .i64]), .sl 25 (.sl 3 (.int .i64))]] (.st [.sl 124 (.st [.int .i64, .int .i64]), .sl 25 (.sl 3 (.int .i64))])), (119, .fn [.sl 38 (.st [.int .i64, .int .i64, .bool, .int .i64])] (.sl 38 (.st [.int .i64, .int .i64, .bool, .int .i64]))), (120, .st [.int .i64, .sl 3 (.int .i64), .sl 3 (.int .i64)]), (121, .st [.int .i64, .sl 3 (.int .i64), .sl 3 (.int .i64)]), (122, .fn [.sl 124 (.st [.int .i64, .int .i64])] (.sl 124 (.st [.int .i64, .int .i64]))), (123, .st [.int .i64, .int .i64]), (124, .st [.int .i64, .int .i64]), (125, .fn [.sl 38 (.st [.int .i64, .int .i64, .bool, .int .i64]), .fn [.st [.int .i64, .int .i64, .bool, .int .i64]] (.bool)] (.bool)), (126, .fn [.st [.int .i64, .int .i64, .bool, .int .i64]] (.bool)), (127, .fn [.st [.str, .int .i64, .sl 121 (.st [.int .i64, .sl 3 (.int .i64), .sl 3 (.int .i64)])], .st [.str, .int .i64, .sl 121 (.st [.int .i64, .sl 3 (.int .i64), .sl 3 (.int .i64)])]] (.bool)), (128, .fn [.st [.int .i64, .int .i64, .bool, .int .i64], .st [.int .i64, .int .i64, .bool, .int .i64]] (.bool)), (129, .fn [.st [.sl 124 (.st [.int .i64, .int .i64]), .sl 25 (.sl 3 (.int .i64))], .st [.sl 124 (.st [.int .i64, .int .i64]), .sl 25 (.sl 3 (.int .i64))]] (.bool)), (133, .sl 5 (.int .u8)), (140, .fn [.int .i64] (.bool)), (150, .fn [.sl 182 (.st [.int .i64, .sl 3 (.int .i64), .sl 3 (.int .i64)]), .int .i64] (.int .i64)), (151, .fn [.sl 186 (.st [.int .i64, .int .i64]), .int .i64] (.int .i64)), (152, .fn [.sl 25 (.sl 3 (.int .i64)), .int .i64] (.int .i64)), (153, .fn [.st [.int .i64, .sl 3 (.int .i64), .sl 3 (.int .i64)], .int .i64, .int .i64] (.bool)), (154, .fn [.str] (.bool)), (155, .fn [.sl 124 (.st [.int .i64, .int .i64])] (.bool)), (156, .fn [.sl 182 (.st [.int .i64, .sl 3 (.int .i64), .sl 3 (.int .i64)])] (.sl 121 (.st [.int .i64, .sl 3 (.int .i64), .sl 3 (.int .i64)]))), (157, .fn [.sl 186 (.st [.int .i64, .int .i64])] (.sl 124 (.st [.int .i64, .int .i64]))), (158, .fn [.sl 25 (.sl 3 (.int .i64))] (.sl 25 (.sl 3 (.int .i64)))), (159, .fn [.sl 99 (.st [.str, .int .i64, .sl 121 (.st [.int .i64, .sl 3 (.int .i64), .sl 3 (.int .i64)])]), .fn [.st [.str, .int .i64, .sl 121 (.st [.int .i64, .sl 3 (.int .i64), .sl 3 (.int .i64)])]] (.bool)] (.int .i64)), (160, .fn [.st [.str, .int .i64, .sl 121 (.st [.int .i64, .sl 3 (.int .i64), .sl 3 (.int .i64)])]] (.bool)), (161, .fn [.sl 38 (.st [.int .i64, .int .i64, .bool, .int .i64]), .fn [.st [.int .i64, .int .i64, .bool, .int .i64]] (.bool)] (.int .i64)), (162, .fn [.sl 121 (.st [.int .i64, .sl 3 (.int .i64), .sl 3 (.int .i64)]), .sl 121 (.st [.int .i64, .sl 3 (.int .i64), .sl 3 (.int .i64)])] (.bool)), (163, .fn [.sl 124 (.st [.int .i64, .int .i64]), .sl 124 (.st [.int .i64, .int .i64])] (.bool)), (164, .fn [.sl 25 (.sl 3 (.int .i64)), .sl 25 (.sl 3 (.int .i64))] (.bool)), (181, .fn [.st [.int .i64, .sl 3 (.int .i64), .sl 3 (.int .i64)], .int .i64] (.int .i64)), (182, .st [.int .i64, .sl 3 (.int .i64), .sl 3 (.int .i64)]), (183, .fn [.sl 3 (.int .i64), .int .i64] (.bool)), (184, .fn [.st [.int .i64, .sl 3 (.int .i64), .sl 3 (.int .i64)]] (.st [.int .i64, .sl 3 (.int .i64), .sl 3 (.int .i64)])), (185, .fn [.st [.int .i64, .int .i64]] (.st [.int .i64, .int .i64])), (186, .st [.int .i64, .int .i64]), (187, .fn [.st [.int .i64, .sl 3 (.int .i64), .sl 3 (.int .i64)], .st [.int .i64, .sl 3 (.int .i64), .sl 3 (.int .i64)]] (.bool)), (188, .fn [.st [.int .i64, .int .i64], .st [.int .i64, .int .i64]] (.bool))]
theorem tysOk : LkAll (TnOk Tryd.prog) tys := ⟨tn3, tn4, tn5, tn9, tn22, tn23, tn24, tn25, tn26, tn27, tn28, tn29, tn30, tn31, tn32, tn33, tn34, tn35, tn36, tn37, tn38, tn39, tn40, tn41, tn42, tn72, tn73, tn74, tn75, tn76, tn77, tn78, tn79, tn80, tn81, tn82, tn83, tn84, tn85, tn86, tn87, tn90, tn97, tn98, tn99, tn101, tn102, tn103, tn104, tn105, tn106, tn107, tn108, tn109, tn110, tn111, tn112, tn113, tn114, tn115, tn116, tn117, tn118, tn119, tn120, tn121, tn122, tn123, tn124, tn125, tn126, tn127, tn128, tn129, tn133, tn140, tn150, tn151, tn152, tn153, tn154, tn155, tn156, tn157, tn158, tn159, tn160, tn161, tn162, tn163, tn164, tn181, tn182, tn183, tn184, tn185, tn186, tn187, tn188, trivial⟩
noncomputable def tabName : String := ((Tryd.prog.globals[1]?).map (·.name)).getD (show String from default)
noncomputable def base_ : Base := [(tabName, Lib.pow10Tab.map fun z => Value.int .u64 z)]
theorem base_tab (w : World) (P : Prot) (h : BaseOk Tryd.prog base_ w P) : Lib.TabIs Tryd.prog w tabName .u64 Lib.pow10Tab := varAt_tab (h _ (List.mem_singleton.2 rfl))
def laws_szIntS (x : ((List Int) × (Int × Unit))) (c : Unit) : (Option (Int × Unit)) :=
  (if (ltZ (subZ .i64 x.2.1 (lenI x.1)) 0) = true then (some ((-1), ())) else (some ((subZ .i64 x.2.1 (lenI x.1)), ())))
def H_laws_szIntS : Hd := ⟨[.sl 3 (.int .i64), .int .i64], [], none, .p, .int .i64, .p, []⟩
def T_laws_szIntS : FSig := ⟨H_laws_szIntS.ps, H_laws_szIntS.cs, H_laws_szIntS.io, H_laws_szIntS.im, H_laws_szIntS.R, H_laws_szIntS.m, laws_szIntS⟩
theorem E_laws_szIntS : fnOf tys [] Tryd.f23 H_laws_szIntS = T_laws_szIntS := by kernel_rfl
theorem K_laws_szIntS : SigB base_ Tryd.prog 23 T_laws_szIntS := (congrArg (SigB base_ Tryd.prog 23) E_laws_szIntS).mp (fnOf_ok rfl tysOk trivial Tryd.func23 (by decide) rfl (fun _ h => by cases h) (nilEq_of (by kernel_rfl)))
def laws_szMode (x : (D_Mode × (Int × Unit))) (c : Unit) : (Option (Int × Unit)) :=
  (Option.bind ((Option.bind (laws_szIntS (x.1.2.1, (x.2.1, ())) ()) fun v0 => (some v0.1)) : (Option Int)) fun v1 => (if (ltZ v1 0) = true then (some ((-1), ())) else (Option.bind ((Option.bind (laws_szIntS (x.1.2.2.1, (v1, ())) ()) fun v2 => (some v2.1)) : (Option Int)) fun v3 => (if (ltZ v3 0) = true then (some ((-1), ())) else (some (v3, ()))))))
def H_laws_szMode : Hd := ⟨[.st [.int .i64, .sl 3 (.int .i64), .sl 3 (.int .i64)], .int .i64], [], none, .p, .int .i64, .p, []⟩
def T_laws_szMode : FSig := ⟨H_laws_szMode.ps, H_laws_szMode.cs, H_laws_szMode.io, H_laws_szMode.im, H_laws_szMode.R, H_laws_szMode.m, laws_szMode⟩
theorem E_laws_szMode : fnOf tys [(23, T_laws_szIntS)] Tryd.f114 H_laws_szMode = T_laws_szMode := by kernel_rfl
theorem K_laws_szMode : SigB base_ Tryd.prog 114 T_laws_szMode := (congrArg (SigB base_ Tryd.prog 114) E_laws_szMode).mp (fnOf_ok rfl tysOk ⟨K_laws_szIntS, trivial⟩ Tryd.func114 (by decide) rfl (fun _ h => by cases h) (nilEq_of (by kernel_rfl)))
def laws_szModeS_L0 : (Int × ((List D_Mode) × (Int × Unit))) → Option (Out (Int × ((List D_Mode) × (Int × Unit))) ((Bool × (Int × ((List D_Mode) × (Int × Unit)))) ⊕ Empty) (Int × Unit)) :=
  (fun v0 => (if (ltZ v0.1 (lenI v0.2.1)) = true then (Option.bind (getI v0.2.1 v0.1) fun v1 => (Option.bind ((Option.bind (laws_szMode (v1, (v0.2.2.1, ())) ()) fun v2 => (some v2.1)) : (Option Int)) fun v3 => (if (ltZ v3 0) = true then (some (Out.ret ((-1), ()))) else (some (Out.norm ((addZ .i64 v0.1 1), (v0.2.1, (v3, ())))))))) else (some (Out.exit (Sum.inl ((ltZ v0.1 (lenI v0.2.1)), (v0.1, (v0.2.1, (v0.2.2.1, ())))))))))
def laws_szModeS (x : ((List D_Mode) × (Int × Unit))) (c : Unit) : (Option (Int × Unit)) :=
  (if (ltZ (subZ .i64 x.2.1 (lenI x.1)) 0) = true then (some ((-1), ())) else (Option.bind (loopN (A := (Int × ((List D_Mode) × (Int × Unit)))) big laws_szModeS_L0 (0, (x.1, ((subZ .i64 x.2.1 (lenI x.1)), ())))) fun v4 => (match v4 with | Out.norm v5 => none | Out.exit v6 => (match ((match v6 with | Sum.inl v9 => (Sum.inl (v9.2.2.2.1, ())) | Sum.inr v10 => (Empty.elim v10)) : ((Int × Unit) ⊕ Empty)) with | Sum.inl v7 => (some (v7.1, ())) | Sum.inr v8 => none) | Out.ret v11 => (some v11))))
def H_laws_szModeS : Hd := ⟨[.sl 182 (.st [.int .i64, .sl 3 (.int .i64), .sl 3 (.int .i64)]), .int .i64], [], none, .p, .int .i64, .p, []⟩
def T_laws_szModeS : FSig := ⟨H_laws_szModeS.ps, H_laws_szModeS.cs, H_laws_szModeS.io, H_laws_szModeS.im, H_laws_szModeS.R, H_laws_szModeS.m, laws_szModeS⟩
theorem E_laws_szModeS : fnOf tys [(114, T_laws_szMode)] Tryd.f88 H_laws_szModeS = T_laws_szModeS := by kernel_rfl
theorem K_laws_szModeS : SigB base_ Tryd.prog 88 T_laws_szModeS := (congrArg (SigB base_ Tryd.prog 88) E_laws_szModeS).mp (fnOf_ok rfl tysOk ⟨K_laws_szMode, trivial⟩ Tryd.func88 (by decide) rfl (fun _ h => by cases h) (nilEq_of (by kernel_rfl)))
def laws_szActivity (x : (D_Activity × (Int × Unit))) (c : Unit) : (Option (Int × Unit)) :=
  (if (ltZ (subZ .i64 x.2.1 (lenI x.1.1)) 0) = true then (some ((-1), ())) else (Option.bind ((Option.bind (laws_szModeS (x.1.2.2.1, ((subZ .i64 x.2.1 (lenI x.1.1)), ())) ()) fun v0 => (some v0.1)) : (Option Int)) fun v1 => (if (ltZ v1 0) = true then (some ((-1), ())) else (some (v1, ())))))
def H_laws_szActivity : Hd := ⟨[.st [.str, .int .i64, .sl 182 (.st [.int .i64, .sl 3 (.int .i64), .sl 3 (.int .i64)])], .int .i64], [], none, .p, .int .i64, .p, []⟩
def T_laws_szActivity : FSig := ⟨H_laws_szActivity.ps, H_laws_szActivity.cs, H_laws_szActivity.io, H_laws_szActivity.im, H_laws_szActivity.R, H_laws_szActivity.m, laws_szActivity⟩
theorem E_laws_szActivity : fnOf tys [(88, T_laws_szModeS)] Tryd.f50 H_laws_szActivity = T_laws_szActivity := by kernel_rfl
theorem K_laws_szActivity : SigB base_ Tryd.prog 50 T_laws_szActivity := (congrArg (SigB base_ Tryd.prog 50) E_laws_szActivity).mp (fnOf_ok rfl tysOk ⟨K_laws_szModeS, trivial⟩ Tryd.func50 (by decide) rfl (fun _ h => by cases h) (nilEq_of (by kernel_rfl)))
def laws_szActivityS_L0 : (Int × ((List D_Activity) × (Int × Unit))) → Option (Out (Int × ((List D_Activity) × (Int × Unit))) ((Bool × (Int × ((List D_Activity) × (Int × Unit)))) ⊕ Empty) (Int × Unit)) :=
  (fun v0 => (if (ltZ v0.1 (lenI v0.2.1)) = true then (Option.bind (getI v0.2.1 v0.1) fun v1 => (Option.bind ((Option.bind (laws_szActivity (v1, (v0.2.2.1, ())) ()) fun v2 => (some v2.1)) : (Option Int)) fun v3 => (if (ltZ v3 0) = true then (some (Out.ret ((-1), ()))) else (some (Out.norm ((addZ .i64 v0.1 1), (v0.2.1, (v3, ())))))))) else (some (Out.exit (Sum.inl ((ltZ v0.1 (lenI v0.2.1)), (v0.1, (v0.2.1, (v0.2.2.1, ())))))))))
def laws_szActivityS (x : ((List D_Activity) × (Int × Unit))) (c : Unit) : (Option (Int × Unit)) :=
  (if (ltZ (subZ .i64 x.2.1 (lenI x.1)) 0) = true then (some ((-1), ())) else (Option.bind (loopN (A := (Int × ((List D_Activity) × (Int × Unit)))) big laws_szActivityS_L0 (0, (x.1, ((subZ .i64 x.2.1 (lenI x.1)), ())))) fun v4 => (match v4 with | Out.norm v5 => none | Out.exit v6 => (match ((match v6 with | Sum.inl v9 => (Sum.inl (v9.2.2.2.1, ())) | Sum.inr v10 => (Empty.elim v10)) : ((Int × Unit) ⊕ Empty)) with | Sum.inl v7 => (some (v7.1, ())) | Sum.inr v8 => none) | Out.ret v11 => (some v11))))
def H_laws_szActivityS : Hd := ⟨[.sl 104 (.st [.str, .int .i64, .sl 182 (.st [.int .i64, .sl 3 (.int .i64), .sl 3 (.int .i64)])]), .int .i64], [], none, .p, .int .i64, .p, []⟩
def T_laws_szActivityS : FSig := ⟨H_laws_szActivityS.ps, H_laws_szActivityS.cs, H_laws_szActivityS.io, H_laws_szActivityS.im, H_laws_szActivityS.R, H_laws_szActivityS.m, laws_szActivityS⟩
theorem E_laws_szActivityS : fnOf tys [(50, T_laws_szActivity)] Tryd.f20 H_laws_szActivityS = T_laws_szActivityS := by kernel_rfl
theorem K_laws_szActivityS : SigB base_ Tryd.prog 20 T_laws_szActivityS := (congrArg (SigB base_ Tryd.prog 20) E_laws_szActivityS).mp (fnOf_ok rfl tysOk ⟨K_laws_szActivity, trivial⟩ Tryd.func20 (by decide) rfl (fun _ h => by cases h) (nilEq_of (by kernel_rfl)))
def laws_szLinkS (x : ((List D_Link) × (Int × Unit))) (c : Unit) : (Option (Int × Unit)) :=
  (if (ltZ (subZ .i64 x.2.1 (lenI x.1)) 0) = true then (some ((-1), ())) else (some ((subZ .i64 x.2.1 (lenI x.1)), ())))
def H_laws_szLinkS : Hd := ⟨[.sl 29 (.st [.int .i64, .int .i64, .bool, .int .i64]), .int .i64], [], none, .p, .int .i64, .p, []⟩
def T_laws_szLinkS : FSig := ⟨H_laws_szLinkS.ps, H_laws_szLinkS.cs, H_laws_szLinkS.io, H_laws_szLinkS.im, H_laws_szLinkS.R, H_laws_szLinkS.m, laws_szLinkS⟩
theorem E_laws_szLinkS : fnOf tys [] Tryd.f21 H_laws_szLinkS = T_laws_szLinkS := by kernel_rfl
theorem K_laws_szLinkS : SigB base_ Tryd.prog 21 T_laws_szLinkS := (congrArg (SigB base_ Tryd.prog 21) E_laws_szLinkS).mp (fnOf_ok rfl tysOk trivial Tryd.func21 (by decide) rfl (fun _ h => by cases h) (nilEq_of (by kernel_rfl)))
def laws_szStepS (x : ((List D_Step) × (Int × Unit))) (c : Unit) : (Option (Int × Unit)) :=
  (if (ltZ (subZ .i64 x.2.1 (lenI x.1)) 0) = true then (some ((-1), ())) else (some ((subZ .i64 x.2.1 (lenI x.1)), ())))
def H_laws_szStepS : Hd := ⟨[.sl 186 (.st [.int .i64, .int .i64]), .int .i64], [], none, .p, .int .i64, .p, []⟩
def T_laws_szStepS : FSig := ⟨H_laws_szStepS.ps, H_laws_szStepS.cs, H_laws_szStepS.io, H_laws_szStepS.im, H_laws_szStepS.R, H_laws_szStepS.m, laws_szStepS⟩
theorem E_laws_szStepS : fnOf tys [] Tryd.f89 H_laws_szStepS = T_laws_szStepS := by kernel_rfl
theorem K_laws_szStepS : SigB base_ Tryd.prog 89 T_laws_szStepS := (congrArg (SigB base_ Tryd.prog 89) E_laws_szStepS).mp (fnOf_ok rfl tysOk trivial Tryd.func89 (by decide) rfl (fun _ h => by cases h) (nilEq_of (by kernel_rfl)))
def laws_szIntSS_L0 : (Int × ((List (List Int)) × (Int × Unit))) → Option (Out (Int × ((List (List Int)) × (Int × Unit))) ((Bool × (Int × ((List (List Int)) × (Int × Unit)))) ⊕ Empty) (Int × Unit)) :=
  (fun v0 => (if (ltZ v0.1 (lenI v0.2.1)) = true then (Option.bind (getI v0.2.1 v0.1) fun v1 => (Option.bind ((Option.bind (laws_szIntS (v1, (v0.2.2.1, ())) ()) fun v2 => (some v2.1)) : (Option Int)) fun v3 => (if (ltZ v3 0) = true then (some (Out.ret ((-1), ()))) else (some (Out.norm ((addZ .i64 v0.1 1), (v0.2.1, (v3, ())))))))) else (some (Out.exit (Sum.inl ((ltZ v0.1 (lenI v0.2.1)), (v0.1, (v0.2.1, (v0.2.2.1, ())))))))))
def laws_szIntSS (x : ((List (List Int)) × (Int × Unit))) (c : Unit) : (Option (Int × Unit)) :=
  (if (ltZ (subZ .i64 x.2.1 (lenI x.1)) 0) = true then (some ((-1), ())) else (Option.bind (loopN (A := (Int × ((List (List Int)) × (Int × Unit)))) big laws_szIntSS_L0 (0, (x.1, ((subZ .i64 x.2.1 (lenI x.1)), ())))) fun v4 => (match v4 with | Out.norm v5 => none | Out.exit v6 => (match ((match v6 with | Sum.inl v9 => (Sum.inl (v9.2.2.2.1, ())) | Sum.inr v10 => (Empty.elim v10)) : ((Int × Unit) ⊕ Empty)) with | Sum.inl v7 => (some (v7.1, ())) | Sum.inr v8 => none) | Out.ret v11 => (some v11))))
def H_laws_szIntSS : Hd := ⟨[.sl 25 (.sl 3 (.int .i64)), .int .i64], [], none, .p, .int .i64, .p, []⟩
def T_laws_szIntSS : FSig := ⟨H_laws_szIntSS.ps, H_laws_szIntSS.cs, H_laws_szIntSS.io, H_laws_szIntSS.im, H_laws_szIntSS.R, H_laws_szIntSS.m, laws_szIntSS⟩
theorem E_laws_szIntSS : fnOf tys [(23, T_laws_szIntS)] Tryd.f90 H_laws_szIntSS = T_laws_szIntSS := by kernel_rfl
theorem K_laws_szIntSS : SigB base_ Tryd.prog 90 T_laws_szIntSS := (congrArg (SigB base_ Tryd.prog 90) E_laws_szIntSS).mp (fnOf_ok rfl tysOk ⟨K_laws_szIntS, trivial⟩ Tryd.func90 (by decide) rfl (fun _ h => by cases h) (nilEq_of (by kernel_rfl)))
def laws_szResource (x : (D_Resource × (Int × Unit))) (c : Unit) : (Option (Int × Unit)) :=
  (Option.bind ((Option.bind (laws_szStepS (x.1.1, (x.2.1, ())) ()) fun v0 => (some v0.1)) : (Option Int)) fun v1 => (if (ltZ v1 0) = true then (some ((-1), ())) else (Option.bind ((Option.bind (laws_szIntSS (x.1.2.1, (v1, ())) ()) fun v2 => (some v2.1)) : (Option Int)) fun v3 => (if (ltZ v3 0) = true then (some ((-1), ())) else (some (v3, ()))))))
def H_laws_szResource : Hd := ⟨[.st [.sl 186 (.st [.int .i64, .int .i64]), .sl 25 (.sl 3 (.int .i64))], .int .i64], [], none, .p, .int .i64, .p, []⟩
def T_laws_szResource : FSig := ⟨H_laws_szResource.ps, H_laws_szResource.cs, H_laws_szResource.io, H_laws_szResource.im, H_laws_szResource.R, H_laws_szResource.m, laws_szResource⟩
theorem E_laws_szResource : fnOf tys [(89, T_laws_szStepS), (90, T_laws_szIntSS)] Tryd.f51 H_laws_szResource = T_laws_szResource := by kernel_rfl
theorem K_laws_szResource : SigB base_ Tryd.prog 51 T_laws_szResource := (congrArg (SigB base_ Tryd.prog 51) E_laws_szResource).mp (fnOf_ok rfl tysOk ⟨K_laws_szStepS, K_laws_szIntSS, trivial⟩ Tryd.func51 (by decide) rfl (fun _ h => by cases h) (nilEq_of (by kernel_rfl)))
def laws_szResourceS_L0 : (Int × ((List D_Resource) × (Int × Unit))) → Option (Out (Int × ((List D_Resource) × (Int × Unit))) ((Bool × (Int × ((List D_Resource) × (Int × Unit)))) ⊕ Empty) (Int × Unit)) :=
  (fun v0 => (if (ltZ v0.1 (lenI v0.2.1)) = true then (Option.bind (getI v0.2.1 v0.1) fun v1 => (Option.bind ((Option.bind (laws_szResource (v1, (v0.2.2.1, ())) ()) fun v2 => (some v2.1)) : (Option Int)) fun v3 => (if (ltZ v3 0) = true then (some (Out.ret ((-1), ()))) else (some (Out.norm ((addZ .i64 v0.1 1), (v0.2.1, (v3, ())))))))) else (some (Out.exit (Sum.inl ((ltZ v0.1 (lenI v0.2.1)), (v0.1, (v0.2.1, (v0.2.2.1, ())))))))))
def laws_szResourceS (x : ((List D_Resource) × (Int × Unit))) (c : Unit) : (Option (Int × Unit)) :=
  (if (ltZ (subZ .i64 x.2.1 (lenI x.1)) 0) = true then (some ((-1), ())) else (Option.bind (loopN (A := (Int × ((List D_Resource) × (Int × Unit)))) big laws_szResourceS_L0 (0, (x.1, ((subZ .i64 x.2.1 (lenI x.1)), ())))) fun v4 => (match v4 with | Out.norm v5 => none | Out.exit v6 => (match ((match v6 with | Sum.inl v9 => (Sum.inl (v9.2.2.2.1, ())) | Sum.inr v10 => (Empty.elim v10)) : ((Int × Unit) ⊕ Empty)) with | Sum.inl v7 => (some (v7.1, ())) | Sum.inr v8 => none) | Out.ret v11 => (some v11))))
def H_laws_szResourceS : Hd := ⟨[.sl 108 (.st [.sl 186 (.st [.int .i64, .int .i64]), .sl 25 (.sl 3 (.int .i64))]), .int .i64], [], none, .p, .int .i64, .p, []⟩
def T_laws_szResourceS : FSig := ⟨H_laws_szResourceS.ps, H_laws_szResourceS.cs, H_laws_szResourceS.io, H_laws_szResourceS.im, H_laws_szResourceS.R, H_laws_szResourceS.m, laws_szResourceS⟩
theorem E_laws_szResourceS : fnOf tys [(51, T_laws_szResource)] Tryd.f22 H_laws_szResourceS = T_laws_szResourceS := by kernel_rfl
theorem K_laws_szResourceS : SigB base_ Tryd.prog 22 T_laws_szResourceS := (congrArg (SigB base_ Tryd.prog 22) E_laws_szResourceS).mp (fnOf_ok rfl tysOk ⟨K_laws_szResource, trivial⟩ Tryd.func22 (by decide) rfl (fun _ h => by cases h) (nilEq_of (by kernel_rfl)))
def laws_szProject (x : (D_Project × (Int × Unit))) (c : Unit) : (Option (Int × Unit)) :=
  (Option.bind ((Option.bind (laws_szActivityS (x.1.2.1, (x.2.1, ())) ()) fun v0 => (some v0.1)) : (Option Int)) fun v1 => (if (ltZ v1 0) = true then (some ((-1), ())) else (Option.bind ((Option.bind (laws_szLinkS (x.1.2.2.1, (v1, ())) ()) fun v2 => (some v2.1)) : (Option Int)) fun v3 => (if (ltZ v3 0) = true then (some ((-1), ())) else (Option.bind ((Option.bind (laws_szResourceS (x.1.2.2.2.1, (v3, ())) ()) fun v4 => (some v4.1)) : (Option Int)) fun v5 => (if (ltZ v5 0) = true then (some ((-1), ())) else (Option.bind ((Option.bind (laws_szIntS (x.1.2.2.2.2.1, (v5, ())) ()) fun v6 => (some v6.1)) : (Option Int)) fun v7 => (if (ltZ v7 0) = true then (some ((-1), ())) else (some (v7, ()))))))))))
def H_laws_szProject : Hd := ⟨[.st [.int .i64, .sl 104 (.st [.str, .int .i64, .sl 182 (.st [.int .i64, .sl 3 (.int .i64), .sl 3 (.int .i64)])]), .sl 29 (.st [.int .i64, .int .i64, .bool, .int .i64]), .sl 108 (.st [.sl 186 (.st [.int .i64, .int .i64]), .sl 25 (.sl 3 (.int .i64))]), .sl 3 (.int .i64)], .int .i64], [], none, .p, .int .i64, .p, []⟩
def T_laws_szProject : FSig := ⟨H_laws_szProject.ps, H_laws_szProject.cs, H_laws_szProject.io, H_laws_szProject.im, H_laws_szProject.R, H_laws_szProject.m, laws_szProject⟩
theorem E_laws_szProject : fnOf tys [(20, T_laws_szActivityS), (21, T_laws_szLinkS), (22, T_laws_szResourceS), (23, T_laws_szIntS)] Tryd.f6 H_laws_szProject = T_laws_szProject := by kernel_rfl
theorem K_laws_szProject : SigB base_ Tryd.prog 6 T_laws_szProject := (congrArg (SigB base_ Tryd.prog 6) E_laws_szProject).mp (fnOf_ok rfl tysOk ⟨K_laws_szActivityS, K_laws_szLinkS, K_laws_szResourceS, K_laws_szIntS, trivial⟩ Tryd.func6 (by decide) rfl (fun _ h => by cases h) (nilEq_of (by kernel_rfl)))
def spec_l04Copy_L0 : (Int × (Int × ((List D_Mode) × (D_Activity × (D_Activity × Unit))))) → Option (Out (Int × (Int × ((List D_Mode) × (D_Activity × (D_Activity × Unit))))) ((Bool × (Int × (Int × ((List D_Mode) × (D_Activity × (D_Activity × Unit)))))) ⊕ Empty) (D_Activity × Unit)) :=
  (fun v0 => (if (ltZ v0.1 v0.2.1) = true then (Option.bind (getI v0.2.2.1 v0.1) fun v1 => (Option.bind (addI [] v1.2.1) fun v2 => (Option.bind (addI [] v1.2.2.1) fun v3 => (Option.bind (addI v0.2.2.2.1.2.2.1 ((v1.1, (v2, (v3, ()))) :: [])) fun v4 => (some (Out.norm ((addZ .i64 v0.1 1), (v0.2.1, (v0.2.2.1, ((v0.2.2.2.1.1, (v0.2.2.2.1.2.1, (v4, v0.2.2.2.1.2.2.2))), (v0.2.2.2.2.1, ()))))))))))) else (some (Out.exit (Sum.inl ((ltZ v0.1 v0.2.1), (v0.1, (v0.2.1, (v0.2.2.1, (v0.2.2.2.1, (v0.2.2.2.2.1, ())))))))))))
def spec_l04Copy (x : (D_Activity × Unit)) (c : Unit) : (Option (D_Activity × Unit)) :=
  (Option.bind (loopN (A := (Int × (Int × ((List D_Mode) × (D_Activity × (D_Activity × Unit)))))) big spec_l04Copy_L0 (0, ((lenI x.1.2.2.1), (x.1.2.2.1, ((x.1.1, (x.1.2.1, ([], ()))), (([], (0, ([], ()))), ())))))) fun v5 => (match v5 with | Out.norm v6 => none | Out.exit v7 => (match ((match v7 with | Sum.inl v10 => (Sum.inl (v10.2.2.2.2.1, (v10.2.2.2.2.2.1, ()))) | Sum.inr v11 => (Empty.elim v11)) : ((D_Activity × (D_Activity × Unit)) ⊕ Empty)) with | Sum.inl v8 => (some (v8.1, ())) | Sum.inr v9 => none) | Out.ret v12 => (some v12)))
def H_spec_l04Copy : Hd := ⟨[.st [.str, .int .i64, .sl 121 (.st [.int .i64, .sl 3 (.int .i64), .sl 3 (.int .i64)])]], [], none, .p, .st [.str, .int .i64, .sl 121 (.st [.int .i64, .sl 3 (.int .i64), .sl 3 (.int .i64)])], (Ty.all (.st [.str, .int .i64, .sl 121 (.st [.int .i64, .sl 3 (.int .i64), .sl 3 (.int .i64)])])), []⟩
def T_spec_l04Copy : FSig := ⟨H_spec_l04Copy.ps, H_spec_l04Copy.cs, H_spec_l04Copy.io, H_spec_l04Copy.im, H_spec_l04Copy.R, H_spec_l04Copy.m, spec_l04Copy⟩
theorem E_spec_l04Copy : fnOf tys [] Tryd.f52 H_spec_l04Copy = T_spec_l04Copy := by kernel_rfl
theorem K_spec_l04Copy : SigB base_ Tryd.prog 52 T_spec_l04Copy := (congrArg (SigB base_ Tryd.prog 52) E_spec_l04Copy).mp (fnOf_ok rfl tysOk trivial Tryd.func52 (by decide) rfl (fun _ h => by cases h) (nilEq_of (by kernel_rfl)))
def spec_l05Copy_L0 : (Int × (Int × ((List D_Activity) × (D_Project × (D_Project × (D_Project × Unit)))))) → Option (Out (Int × (Int × ((List D_Activity) × (D_Project × (D_Project × (D_Project × Unit)))))) ((Bool × (Int × (Int × ((List D_Activity) × (D_Project × (D_Project × (D_Project × Unit))))))) ⊕ Empty) (D_Project × Unit)) :=
  (fun v2 => (if (ltZ v2.1 v2.2.1) = true then (Option.bind (getI v2.2.2.1 v2.1) fun v3 => (Option.bind ((Option.bind (spec_l04Copy (v3, ()) ()) fun v4 => (some v4.1)) : (Option D_Activity)) fun v5 => (Option.bind (addI v2.2.2.2.2.1.2.1 (v5 :: [])) fun v6 => (some (Out.norm ((addZ .i64 v2.1 1), (v2.2.1, (v2.2.2.1, (v2.2.2.2.1, ((v2.2.2.2.2.1.1, (v6, v2.2.2.2.2.1.2.2)), (v2.2.2.2.2.2.1, ()))))))))))) else (some (Out.exit (Sum.inl ((ltZ v2.1 v2.2.1), (v2.1, (v2.2.1, (v2.2.2.1, (v2.2.2.2.1, (v2.2.2.2.2.1, (v2.2.2.2.2.2.1, ()))))))))))))
def spec_l05Copy_L1 : (Int × (Int × ((List (List Int)) × (D_Resource × (Int × (Int × ((List D_Resource) × (D_Project × (D_Project × Unit))))))))) → Option (Out (Int × (Int × ((List (List Int)) × (D_Resource × (Int × (Int × ((List D_Resource) × (D_Project × (D_Project × Unit))))))))) ((Bool × (Int × (Int × ((List (List Int)) × (D_Resource × (Int × (Int × ((List D_Resource) × (D_Project × (D_Project × Unit)))))))))) ⊕ Empty) (D_Project × Unit)) :=
  (fun v14 => (if (ltZ v14.1 v14.2.1) = true then (Option.bind (getI v14.2.2.1 v14.1) fun v15 => (Option.bind (addI [] v15) fun v16 => (Option.bind (addI v14.2.2.2.1.2.1 (v16 :: [])) fun v17 => (some (Out.norm ((addZ .i64 v14.1 1), (v14.2.1, (v14.2.2.1, ((v14.2.2.2.1.1, (v17, v14.2.2.2.1.2.2)), (v14.2.2.2.2.1, (v14.2.2.2.2.2.1, (v14.2.2.2.2.2.2.1, (v14.2.2.2.2.2.2.2.1, (v14.2.2.2.2.2.2.2.2.1, ())))))))))))))) else (some (Out.exit (Sum.inl ((ltZ v14.1 v14.2.1), (v14.1, (v14.2.1, (v14.2.2.1, (v14.2.2.2.1, (v14.2.2.2.2.1, (v14.2.2.2.2.2.1, (v14.2.2.2.2.2.2.1, (v14.2.2.2.2.2.2.2.1, (v14.2.2.2.2.2.2.2.2.1, ())))))))))))))))
def spec_l05Copy_L2 : (Int × (Int × ((List D_Resource) × (D_Project × (D_Project × Unit))))) → Option (Out (Int × (Int × ((List D_Resource) × (D_Project × (D_Project × Unit))))) ((Bool × (Int × (Int × ((List D_Resource) × (D_Project × (D_Project × Unit)))))) ⊕ Empty) (D_Project × Unit)) :=
  (fun v11 => (if (ltZ v11.1 v11.2.1) = true then (Option.bind (getI v11.2.2.1 v11.1) fun v12 => (Option.bind (addI [] v12.1) fun v13 => (Option.bind (loopN (A := (Int × (Int × ((List (List Int)) × (D_Resource × (Int × (Int × ((List D_Resource) × (D_Project × (D_Project × Unit)))))))))) big spec_l05Copy_L1 (0, ((lenI v12.2.1), (v12.2.1, ((v13, ([], ())), (v11.1, (v11.2.1, (v11.2.2.1, (v11.2.2.2.1, (v11.2.2.2.2.1, ())))))))))) fun v18 => (match v18 with | Out.norm v19 => none | Out.exit v20 => (match ((match v20 with | Sum.inl v26 => (Sum.inl (v26.2.2.2.2.1, (v26.2.2.2.2.2.1, (v26.2.2.2.2.2.2.1, (v26.2.2.2.2.2.2.2.1, (v26.2.2.2.2.2.2.2.2.1, (v26.2.2.2.2.2.2.2.2.2.1, ()))))))) | Sum.inr v27 => (Empty.elim v27)) : ((D_Resource × (Int × (Int × ((List D_Resource) × (D_Project × (D_Project × Unit)))))) ⊕ Empty)) with | Sum.inl v21 => (Option.bind (addI v21.2.2.2.2.1.2.2.2.1 (v21.1 :: [])) fun v22 => (some (Out.norm ((addZ .i64 v21.2.1 1), (v21.2.2.1, (v21.2.2.2.1, ((v21.2.2.2.2.1.1, (v21.2.2.2.2.1.2.1, (v21.2.2.2.2.1.2.2.1, (v22, v21.2.2.2.2.1.2.2.2.2)))), (v21.2.2.2.2.2.1, ())))))))) | Sum.inr v23 => (match ((Empty.elim (Empty.elim v23)) : ((Int × (Int × ((List D_Resource) × (D_Project × (D_Project × Unit))))) ⊕ Empty)) with | Sum.inl v24 => (some (Out.norm ((addZ .i64 v24.1 1), (v24.2.1, (v24.2.2.1, (v24.2.2.2.1, (v24.2.2.2.2.1, ()))))))) | Sum.inr v25 => (some (Out.exit (Sum.inr (Empty.elim v25)))))) | Out.ret v28 => (some (Out.ret v28)))))) else (some (Out.exit (Sum.inl ((ltZ v11.1 v11.2.1), (v11.1, (v11.2.1, (v11.2.2.1, (v11.2.2.2.1, (v11.2.2.2.2.1, ())))))))))))
def spec_l05Copy (x : (D_Project × Unit)) (c : Unit) : (Option (D_Project × Unit)) :=
  (Option.bind (addI [] x.1.2.2.1) fun v0 => (Option.bind (addI [] x.1.2.2.2.2.1) fun v1 => (Option.bind (loopN (A := (Int × (Int × ((List D_Activity) × (D_Project × (D_Project × (D_Project × Unit))))))) big spec_l05Copy_L0 (0, ((lenI x.1.2.1), (x.1.2.1, (x.1, ((x.1.1, ([], (v0, ([], (v1, ()))))), ((0, ([], ([], ([], ([], ()))))), ()))))))) fun v7 => (match v7 with | Out.norm v8 => none | Out.exit v9 => (match ((match v9 with | Sum.inl v38 => (Sum.inl (v38.2.2.2.2.1, (v38.2.2.2.2.2.1, (v38.2.2.2.2.2.2.1, ())))) | Sum.inr v39 => (Empty.elim v39)) : ((D_Project × (D_Project × (D_Project × Unit))) ⊕ Empty)) with | Sum.inl v10 => (Option.bind (loopN (A := (Int × (Int × ((List D_Resource) × (D_Project × (D_Project × Unit)))))) big spec_l05Copy_L2 (0, ((lenI v10.1.2.2.2.1), (v10.1.2.2.2.1, (v10.2.1, (v10.2.2.1, ())))))) fun v29 => (match v29 with | Out.norm v30 => none | Out.exit v31 => (match ((match v31 with | Sum.inl v34 => (Sum.inl (v34.2.2.2.2.1, (v34.2.2.2.2.2.1, ()))) | Sum.inr v35 => (Empty.elim v35)) : ((D_Project × (D_Project × Unit)) ⊕ Empty)) with | Sum.inl v32 => (some (v32.1, ())) | Sum.inr v33 => none) | Out.ret v36 => (some v36))) | Sum.inr v37 => none) | Out.ret v40 => (some v40)))))
def H_spec_l05Copy : Hd := ⟨[.st [.int .i64, .sl 99 (.st [.str, .int .i64, .sl 121 (.st [.int .i64, .sl 3 (.int .i64), .sl 3 (.int .i64)])]), .sl 38 (.st [.int .i64, .int .i64, .bool, .int .i64]), .sl 112 (.st [.sl 124 (.st [.int .i64, .int .i64]), .sl 25 (.sl 3 (.int .i64))]), .sl 3 (.int .i64)]], [], none, .p, .st [.int .i64, .sl 99 (.st [.str, .int .i64, .sl 121 (.st [.int .i64, .sl 3 (.int .i64), .sl 3 (.int .i64)])]), .sl 38 (.st [.int .i64, .int .i64, .bool, .int .i64]), .sl 112 (.st [.sl 124 (.st [.int .i64, .int .i64]), .sl 25 (.sl 3 (.int .i64))]), .sl 3 (.int .i64)], (Ty.all (.st [.int .i64, .sl 99 (.st [.str, .int .i64, .sl 121 (.st [.int .i64, .sl 3 (.int .i64), .sl 3 (.int .i64)])]), .sl 38 (.st [.int .i64, .int .i64, .bool, .int .i64]), .sl 112 (.st [.sl 124 (.st [.int .i64, .int .i64]), .sl 25 (.sl 3 (.int .i64))]), .sl 3 (.int .i64)])), []⟩
def T_spec_l05Copy : FSig := ⟨H_spec_l05Copy.ps, H_spec_l05Copy.cs, H_spec_l05Copy.io, H_spec_l05Copy.im, H_spec_l05Copy.R, H_spec_l05Copy.m, spec_l05Copy⟩
theorem E_spec_l05Copy : fnOf tys [(52, T_spec_l04Copy)] Tryd.f24 H_spec_l05Copy = T_spec_l05Copy := by kernel_rfl
theorem K_spec_l05Copy : SigB base_ Tryd.prog 24 T_spec_l05Copy := (congrArg (SigB base_ Tryd.prog 24) E_spec_l05Copy).mp (fnOf_ok rfl tysOk ⟨K_spec_l04Copy, trivial⟩ Tryd.func24 (by decide) rfl (fun _ h => by cases h) (nilEq_of (by kernel_rfl)))
def spec_l01In (x : (Int × D_Step)) (c : Unit) : (Option (Bool × Unit)) :=
  (Option.bind ((if (leZ x.2.1 x.1) = true then (some ((leZ x.1 x.2.2.1), ())) else (some (false, ()))) : (Option (Bool × Unit))) fun v0 => (some (v0.1, ())))
def H_spec_l01In : Hd := ⟨[.int .i64, .int .i64, .int .i64], [], none, .p, .bool, .p, []⟩
def T_spec_l01In : FSig := ⟨H_spec_l01In.ps, H_spec_l01In.cs, H_spec_l01In.io, H_spec_l01In.im, H_spec_l01In.R, H_spec_l01In.m, spec_l01In⟩
theorem E_spec_l01In : fnOf tys [] Tryd.f53 H_spec_l01In = T_spec_l01In := by kernel_rfl
theorem K_spec_l01In : SigB base_ Tryd.prog 53 T_spec_l01In := (congrArg (SigB base_ Tryd.prog 53) E_spec_l01In).mp (fnOf_ok rfl tysOk trivial Tryd.func53 (by decide) rfl (fun _ h => by cases h) (nilEq_of (by kernel_rfl)))
def spec_l04Nums_L0 : (Int × (Int × ((List Int) × ((List Int) × (Int × Unit))))) → Option (Out (Int × (Int × ((List Int) × ((List Int) × (Int × Unit))))) ((Bool × (Int × (Int × ((List Int) × ((List Int) × (Int × Unit)))))) ⊕ Empty) (Bool × Unit)) :=
  (fun v0 => (if (ltZ v0.1 v0.2.1) = true then (Option.bind (getI v0.2.2.1 v0.1) fun v1 => (Option.bind ((Option.bind (spec_l01In (v1, (0, (20, ()))) ()) fun v2 => (some v2.1)) : (Option Bool)) fun v3 => (if (notB v3) = true then (some (Out.ret (false, ()))) else (some (Out.norm ((addZ .i64 v0.1 1), (v0.2.1, (v0.2.2.1, (v0.2.2.2.1, (v0.2.2.2.2.1, ())))))))))) else (some (Out.exit (Sum.inl ((ltZ v0.1 v0.2.1), (v0.1, (v0.2.1, (v0.2.2.1, (v0.2.2.2.1, (v0.2.2.2.2.1, ())))))))))))
def spec_l04Nums (x : ((List Int) × (Int × Unit))) (c : Unit) : (Option (Bool × Unit)) :=
  (Option.bind (loopN (A := (Int × (Int × ((List Int) × ((List Int) × (Int × Unit)))))) big spec_l04Nums_L0 (0, ((lenI x.1), (x.1, (x.1, (x.2.1, ())))))) fun v4 => (match v4 with | Out.norm v5 => none | Out.exit v6 => (match ((match v6 with | Sum.inl v9 => (Sum.inl (v9.2.2.2.2.1, (v9.2.2.2.2.2.1, ()))) | Sum.inr v10 => (Empty.elim v10)) : (((List Int) × (Int × Unit)) ⊕ Empty)) with | Sum.inl v7 => (some ((eqZ (lenI v7.1) v7.2.1), ())) | Sum.inr v8 => none) | Out.ret v11 => (some v11)))
def H_spec_l04Nums : Hd := ⟨[.sl 3 (.int .i64), .int .i64], [], none, .p, .bool, .p, []⟩
def T_spec_l04Nums : FSig := ⟨H_spec_l04Nums.ps, H_spec_l04Nums.cs, H_spec_l04Nums.io, H_spec_l04Nums.im, H_spec_l04Nums.R, H_spec_l04Nums.m, spec_l04Nums⟩
theorem E_spec_l04Nums : fnOf tys [(53, T_spec_l01In)] Tryd.f115 H_spec_l04Nums = T_spec_l04Nums := by kernel_rfl
theorem K_spec_l04Nums : SigB base_ Tryd.prog 115 T_spec_l04Nums := (congrArg (SigB base_ Tryd.prog 115) E_spec_l04Nums).mp (fnOf_ok rfl tysOk ⟨K_spec_l01In, trivial⟩ Tryd.func115 (by decide) rfl (fun _ h => by cases h) (nilEq_of (by kernel_rfl)))
def spec_ModeOk (x : (D_Mode × D_Step)) (c : Unit) : (Option (Bool × Unit)) :=
  (Option.bind ((Option.bind (spec_l01In (x.1.1, (1, (12, ()))) ()) fun v0 => (some v0.1)) : (Option Bool)) fun v1 => (Option.bind ((if v1 = true then (Option.bind ((Option.bind (spec_l04Nums (x.1.2.1, (x.2.1, ())) ()) fun v2 => (some v2.1)) : (Option Bool)) fun v3 => (Option.bind ((if v3 = true then (Option.bind ((Option.bind (spec_l04Nums (x.1.2.2.1, (x.2.2.1, ())) ()) fun v4 => (some v4.1)) : (Option Bool)) fun v5 => (some (v5, ()))) else (some (false, ()))) : (Option (Bool × Unit))) fun v6 => (some (v6.1, ())))) else (some (false, ()))) : (Option (Bool × Unit))) fun v7 => (some (v7.1, ()))))
def H_spec_ModeOk : Hd := ⟨[.st [.int .i64, .sl 3 (.int .i64), .sl 3 (.int .i64)], .int .i64, .int .i64], [], none, .p, .bool, .p, []⟩
def T_spec_ModeOk : FSig := ⟨H_spec_ModeOk.ps, H_spec_ModeOk.cs, H_spec_ModeOk.io, H_spec_ModeOk.im, H_spec_ModeOk.R, H_spec_ModeOk.m, spec_ModeOk⟩
theorem E_spec_ModeOk : fnOf tys [(53, T_spec_l01In), (115, T_spec_l04Nums)] Tryd.f91 H_spec_ModeOk = T_spec_ModeOk := by kernel_rfl
theorem K_spec_ModeOk : SigB base_ Tryd.prog 91 T_spec_ModeOk := (congrArg (SigB base_ Tryd.prog 91) E_spec_ModeOk).mp (fnOf_ok rfl tysOk ⟨K_spec_l01In, K_spec_l04Nums, trivial⟩ Tryd.func91 (by decide) rfl (fun _ h => by cases h) (nilEq_of (by kernel_rfl)))
def spec_IsName_L0 : (Int × ((List UInt8) × Unit)) → Option (Out (Int × ((List UInt8) × Unit)) ((Bool × (Int × ((List UInt8) × Unit))) ⊕ Empty) (Bool × Unit)) :=
  (fun v0 => (if (ltZ v0.1 (lenI v0.2.1)) = true then (Option.bind (byteAt v0.2.1 v0.1) fun v1 => (Option.bind ((if (leZ 97 v1) = true then (Option.bind (byteAt v0.2.1 v0.1) fun v2 => (some ((leZ v2 122), (v0.1, (v0.2.1, ()))))) else (some (false, (v0.1, (v0.2.1, ()))))) : (Option (Bool × (Int × ((List UInt8) × Unit))))) fun v3 => (Option.bind ((if (notB v3.1) = true then (Option.bind ((if (eqZ v3.2.1 0) = true then (some (true, (v3.2.1, (v3.2.2.1, ())))) else (Option.bind (byteAt v3.2.2.1 v3.2.1) fun v4 => (Option.bind ((if (ltZ v4 48) = true then (some (true, (v3.2.1, (v3.2.2.1, ())))) else (Option.bind (byteAt v3.2.2.1 v3.2.1) fun v5 => (some ((ltZ 57 v5), (v3.2.1, (v3.2.2.1, ())))))) : (Option (Bool × (Int × ((List UInt8) × Unit))))) fun v6 => (some (v6.1, (v6.2.1, (v6.2.2.1, ()))))))) : (Option (Bool × (Int × ((List UInt8) × Unit))))) fun v7 => (some (v7.1, (v7.2.1, (v7.2.2.1, ()))))) else (some (false, (v3.2.1, (v3.2.2.1, ()))))) : (Option (Bool × (Int × ((List UInt8) × Unit))))) fun v8 => (if v8.1 = true then (some (Out.ret (false, ()))) else (some (Out.norm ((addZ .i64 v8.2.1 1), (v8.2.2.1, ())))))))) else (some (Out.exit (Sum.inl ((ltZ v0.1 (lenI v0.2.1)), (v0.1, (v0.2.1, ()))))))))
def spec_IsName (x : ((List UInt8) × Unit)) (c : Unit) : (Option (Bool × Unit)) :=
  (Option.bind (loopN (A := (Int × ((List UInt8) × Unit))) big spec_IsName_L0 (0, (x.1, ()))) fun v9 => (match v9 with | Out.norm v10 => none | Out.exit v11 => (match ((match v11 with | Sum.inl v16 => (Sum.inl (v16.2.2.1, ())) | Sum.inr v17 => (Empty.elim v17)) : (((List UInt8) × Unit) ⊕ Empty)) with | Sum.inl v12 => (Option.bind ((Option.bind (spec_l01In ((lenI v12.1), (1, (8, ()))) ()) fun v13 => (some v13.1)) : (Option Bool)) fun v14 => (some (v14, ()))) | Sum.inr v15 => none) | Out.ret v18 => (some v18)))
def H_spec_IsName : Hd := ⟨[.str], [], none, .p, .bool, .p, []⟩
def T_spec_IsName : FSig := ⟨H_spec_IsName.ps, H_spec_IsName.cs, H_spec_IsName.io, H_spec_IsName.im, H_spec_IsName.R, H_spec_IsName.m, spec_IsName⟩
theorem E_spec_IsName : fnOf tys [(53, T_spec_l01In)] Tryd.f92 H_spec_IsName = T_spec_IsName := by kernel_rfl
theorem K_spec_IsName : SigB base_ Tryd.prog 92 T_spec_IsName := (congrArg (SigB base_ Tryd.prog 92) E_spec_IsName).mp (fnOf_ok rfl tysOk ⟨K_spec_l01In, trivial⟩ Tryd.func92 (by decide) rfl (fun _ h => by cases h) (nilEq_of (by kernel_rfl)))
def spec_ActivityOk_L0 : (Int × (Int × ((List D_Mode) × (Int × (Int × (D_Activity × Unit)))))) → Option (Out (Int × (Int × ((List D_Mode) × (Int × (Int × (D_Activity × Unit)))))) ((Bool × (Int × (Int × ((List D_Mode) × (Int × (Int × (D_Activity × Unit))))))) ⊕ Empty) (Bool × Unit)) :=
  (fun v0 => (if (ltZ v0.1 v0.2.1) = true then (Option.bind (getI v0.2.2.1 v0.1) fun v1 => (Option.bind ((Option.bind (spec_ModeOk (v1, (v0.2.2.2.1, (v0.2.2.2.2.1, ()))) ()) fun v2 => (some v2.1)) : (Option Bool)) fun v3 => (if (notB v3) = true then (some (Out.ret (false, ()))) else (some (Out.norm ((addZ .i64 v0.1 1), (v0.2.1, (v0.2.2.1, (v0.2.2.2.1, (v0.2.2.2.2.1, (v0.2.2.2.2.2.1, ()))))))))))) else (some (Out.exit (Sum.inl ((ltZ v0.1 v0.2.1), (v0.1, (v0.2.1, (v0.2.2.1, (v0.2.2.2.1, (v0.2.2.2.2.1, (v0.2.2.2.2.2.1, ()))))))))))))
def spec_ActivityOk (x : (D_Activity × D_Step)) (c : Unit) : (Option (Bool × Unit)) :=
  (Option.bind (loopN (A := (Int × (Int × ((List D_Mode) × (Int × (Int × (D_Activity × Unit))))))) big spec_ActivityOk_L0 (0, ((lenI x.1.2.2.1), (x.1.2.2.1, (x.2.1, (x.2.2.1, (x.1, ()))))))) fun v4 => (match v4 with | Out.norm v5 => none | Out.exit v6 => (match ((match v6 with | Sum.inl v17 => (Sum.inl (v17.2.2.2.2.2.2.1, ())) | Sum.inr v18 => (Empty.elim v18)) : ((D_Activity × Unit) ⊕ Empty)) with | Sum.inl v7 => (Option.bind ((Option.bind (spec_IsName (v7.1.1, ()) ()) fun v8 => (some v8.1)) : (Option Bool)) fun v9 => (Option.bind ((if v9 = true then (Option.bind ((Option.bind (spec_l01In (v7.1.2.1, (0, (3, ()))) ()) fun v10 => (some v10.1)) : (Option Bool)) fun v11 => (Option.bind ((if v11 = true then (Option.bind ((Option.bind (spec_l01In ((lenI v7.1.2.2.1), (1, (3, ()))) ()) fun v12 => (some v12.1)) : (Option Bool)) fun v13 => (some (v13, ()))) else (some (false, ()))) : (Option (Bool × Unit))) fun v14 => (some (v14.1, ())))) else (some (false, ()))) : (Option (Bool × Unit))) fun v15 => (some (v15.1, ())))) | Sum.inr v16 => none) | Out.ret v19 => (some v19)))
def H_spec_ActivityOk : Hd := ⟨[.st [.str, .int .i64, .sl 121 (.st [.int .i64, .sl 3 (.int .i64), .sl 3 (.int .i64)])], .int .i64, .int .i64], [], none, .p, .bool, .p, []⟩
def T_spec_ActivityOk : FSig := ⟨H_spec_ActivityOk.ps, H_spec_ActivityOk.cs, H_spec_ActivityOk.io, H_spec_ActivityOk.im, H_spec_ActivityOk.R, H_spec_ActivityOk.m, spec_ActivityOk⟩
theorem E_spec_ActivityOk : fnOf tys [(53, T_spec_l01In), (91, T_spec_ModeOk), (92, T_spec_IsName)] Tryd.f54 H_spec_ActivityOk = T_spec_ActivityOk := by kernel_rfl
theorem K_spec_ActivityOk : SigB base_ Tryd.prog 54 T_spec_ActivityOk := (congrArg (SigB base_ Tryd.prog 54) E_spec_ActivityOk).mp (fnOf_ok rfl tysOk ⟨K_spec_l01In, K_spec_ModeOk, K_spec_IsName, trivial⟩ Tryd.func54 (by decide) rfl (fun _ h => by cases h) (nilEq_of (by kernel_rfl)))
def spec_ActivityIndex_L0 : (Int × (Int × ((List D_Activity) × ((List UInt8) × Unit)))) → Option (Out (Int × (Int × ((List D_Activity) × ((List UInt8) × Unit)))) ((Bool × (Int × (Int × ((List D_Activity) × ((List UInt8) × Unit))))) ⊕ Empty) (Int × Unit)) :=
  (fun v0 => (if (ltZ v0.1 v0.2.1) = true then (Option.bind (getI v0.2.2.1 v0.1) fun v1 => (if (eqS v1.1 v0.2.2.2.1) = true then (some (Out.ret (v0.1, ()))) else (some (Out.norm ((addZ .i64 v0.1 1), (v0.2.1, (v0.2.2.1, (v0.2.2.2.1, ())))))))) else (some (Out.exit (Sum.inl ((ltZ v0.1 v0.2.1), (v0.1, (v0.2.1, (v0.2.2.1, (v0.2.2.2.1, ()))))))))))
def spec_ActivityIndex (x : (D_Project × ((List UInt8) × Unit))) (c : Unit) : (Option (Int × Unit)) :=
  (Option.bind (loopN (A := (Int × (Int × ((List D_Activity) × ((List UInt8) × Unit))))) big spec_ActivityIndex_L0 (0, ((lenI x.1.2.1), (x.1.2.1, (x.2.1, ()))))) fun v2 => (match v2 with | Out.norm v3 => none | Out.exit v4 => (match ((match v4 with | Sum.inl v7 => (Sum.inl ()) | Sum.inr v8 => (Empty.elim v8)) : (Unit ⊕ Empty)) with | Sum.inl v5 => (some ((-1), ())) | Sum.inr v6 => none) | Out.ret v9 => (some v9)))
def H_spec_ActivityIndex : Hd := ⟨[.st [.int .i64, .sl 99 (.st [.str, .int .i64, .sl 121 (.st [.int .i64, .sl 3 (.int .i64), .sl 3 (.int .i64)])]), .sl 38 (.st [.int .i64, .int .i64, .bool, .int .i64]), .sl 112 (.st [.sl 124 (.st [.int .i64, .int .i64]), .sl 25 (.sl 3 (.int .i64))]), .sl 3 (.int .i64)], .str], [], none, .p, .int .i64, .p, []⟩
def T_spec_ActivityIndex : FSig := ⟨H_spec_ActivityIndex.ps, H_spec_ActivityIndex.cs, H_spec_ActivityIndex.io, H_spec_ActivityIndex.im, H_spec_ActivityIndex.R, H_spec_ActivityIndex.m, spec_ActivityIndex⟩
theorem E_spec_ActivityIndex : fnOf tys [] Tryd.f55 H_spec_ActivityIndex = T_spec_ActivityIndex := by kernel_rfl
theorem K_spec_ActivityIndex : SigB base_ Tryd.prog 55 T_spec_ActivityIndex := (congrArg (SigB base_ Tryd.prog 55) E_spec_ActivityIndex).mp (fnOf_ok rfl tysOk trivial Tryd.func55 (by decide) rfl (fun _ h => by cases h) (nilEq_of (by kernel_rfl)))
def spec_StepsOk_L0 : (Int × (Int × ((List D_Step) × ((List D_Step) × Unit)))) → Option (Out (Int × (Int × ((List D_Step) × ((List D_Step) × Unit)))) ((Bool × (Int × (Int × ((List D_Step) × ((List D_Step) × Unit))))) ⊕ Empty) (Bool × Unit)) :=
  (fun v0 => (if (ltZ v0.1 v0.2.1) = true then (Option.bind (getI v0.2.2.1 v0.1) fun v1 => (Option.bind ((Option.bind (spec_l01In (v1.1, (0, (60, ()))) ()) fun v2 => (some v2.1)) : (Option Bool)) fun v3 => (Option.bind ((if (notB v3) = true then (some (true, (v0.1, (v0.2.1, (v0.2.2.1, (v0.2.2.2.1, ())))))) else (Option.bind ((Option.bind (spec_l01In (v1.2.1, (0, (20, ()))) ()) fun v4 => (some v4.1)) : (Option Bool)) fun v5 => (Option.bind ((if (notB v5) = true then (some (true, (v0.1, (v0.2.1, (v0.2.2.1, (v0.2.2.2.1, ())))))) else (Option.bind ((if (ltZ 0 v0.1) = true then (Option.bind (getI v0.2.2.2.1 (subZ .i64 v0.1 1)) fun v6 => (some ((leZ v1.1 v6.1), (v0.1, (v0.2.1, (v0.2.2.1, (v0.2.2.2.1, ()))))))) else (some (false, (v0.1, (v0.2.1, (v0.2.2.1, (v0.2.2.2.1, ()))))))) : (Option (Bool × (Int × (Int × ((List D_Step) × ((List D_Step) × Unit))))))) fun v7 => (some (v7.1, (v7.2.1, (v7.2.2.1, (v7.2.2.2.1, (v7.2.2.2.2.1, ())))))))) : (Option (Bool × (Int × (Int × ((List D_Step) × ((List D_Step) × Unit))))))) fun v8 => (some (v8.1, (v8.2.1, (v8.2.2.1, (v8.2.2.2.1, (v8.2.2.2.2.1, ()))))))))) : (Option (Bool × (Int × (Int × ((List D_Step) × ((List D_Step) × Unit))))))) fun v9 => (if v9.1 = true then (some (Out.ret (false, ()))) else (some (Out.norm ((addZ .i64 v9.2.1 1), (v9.2.2.1, (v9.2.2.2.1, (v9.2.2.2.2.1, ())))))))))) else (some (Out.exit (Sum.inl ((ltZ v0.1 v0.2.1), (v0.1, (v0.2.1, (v0.2.2.1, (v0.2.2.2.1, ()))))))))))
def spec_StepsOk (x : ((List D_Step) × Unit)) (c : Unit) : (Option (Bool × Unit)) :=
  (Option.bind (loopN (A := (Int × (Int × ((List D_Step) × ((List D_Step) × Unit))))) big spec_StepsOk_L0 (0, ((lenI x.1), (x.1, (x.1, ()))))) fun v10 => (match v10 with | Out.norm v11 => none | Out.exit v12 => (match ((match v12 with | Sum.inl v19 => (Sum.inl (v19.2.2.2.2.1, ())) | Sum.inr v20 => (Empty.elim v20)) : (((List D_Step) × Unit) ⊕ Empty)) with | Sum.inl v13 => (Option.bind ((Option.bind (spec_l01In ((lenI v13.1), (1, (8, ()))) ()) fun v14 => (some v14.1)) : (Option Bool)) fun v15 => (Option.bind ((if v15 = true then (Option.bind (getI v13.1 0) fun v16 => (some ((eqZ v16.1 0), ()))) else (some (false, ()))) : (Option (Bool × Unit))) fun v17 => (some (v17.1, ())))) | Sum.inr v18 => none) | Out.ret v21 => (some v21)))
def H_spec_StepsOk : Hd := ⟨[.sl 124 (.st [.int .i64, .int .i64])], [], none, .p, .bool, .p, []⟩
def T_spec_StepsOk : FSig := ⟨H_spec_StepsOk.ps, H_spec_StepsOk.cs, H_spec_StepsOk.io, H_spec_StepsOk.im, H_spec_StepsOk.R, H_spec_StepsOk.m, spec_StepsOk⟩
theorem E_spec_StepsOk : fnOf tys [(53, T_spec_l01In)] Tryd.f93 H_spec_StepsOk = T_spec_StepsOk := by kernel_rfl
theorem K_spec_StepsOk : SigB base_ Tryd.prog 93 T_spec_StepsOk := (congrArg (SigB base_ Tryd.prog 93) E_spec_StepsOk).mp (fnOf_ok rfl tysOk ⟨K_spec_l01In, trivial⟩ Tryd.func93 (by decide) rfl (fun _ h => by cases h) (nilEq_of (by kernel_rfl)))
def spec_ResourceOk_L0 : (Int × (Int × ((List Int) × (Int × (Int × ((List (List Int)) × (D_Resource × Unit))))))) → Option (Out (Int × (Int × ((List Int) × (Int × (Int × ((List (List Int)) × (D_Resource × Unit))))))) ((Bool × (Int × (Int × ((List Int) × (Int × (Int × ((List (List Int)) × (D_Resource × Unit)))))))) ⊕ Empty) (Bool × Unit)) :=
  (fun v2 => (if (ltZ v2.1 v2.2.1) = true then (Option.bind (getI v2.2.2.1 v2.1) fun v3 => (Option.bind ((Option.bind (spec_l01In (v3, (0, (12, ()))) ()) fun v4 => (some v4.1)) : (Option Bool)) fun v5 => (if (notB v5) = true then (some (Out.ret (false, ()))) else (some (Out.norm ((addZ .i64 v2.1 1), (v2.2.1, (v2.2.2.1, (v2.2.2.2.1, (v2.2.2.2.2.1, (v2.2.2.2.2.2.1, (v2.2.2.2.2.2.2.1, ())))))))))))) else (some (Out.exit (Sum.inl ((ltZ v2.1 v2.2.1), (v2.1, (v2.2.1, (v2.2.2.1, (v2.2.2.2.1, (v2.2.2.2.2.1, (v2.2.2.2.2.2.1, (v2.2.2.2.2.2.2.1, ())))))))))))))
def spec_ResourceOk_L1 : (Int × (Int × ((List (List Int)) × (D_Resource × Unit)))) → Option (Out (Int × (Int × ((List (List Int)) × (D_Resource × Unit)))) ((Bool × (Int × (Int × ((List (List Int)) × (D_Resource × Unit))))) ⊕ Empty) (Bool × Unit)) :=
  (fun v0 => (if (ltZ v0.1 v0.2.1) = true then (Option.bind (getI v0.2.2.1 v0.1) fun v1 => (if (notB (eqZ (lenI v1) 4)) = true then (some (Out.ret (false, ()))) else (Option.bind (loopN (A := (Int × (Int × ((List Int) × (Int × (Int × ((List (List Int)) × (D_Resource × Unit)))))))) big spec_ResourceOk_L0 (0, ((lenI v1), (v1, (v0.1, (v0.2.1, (v0.2.2.1, (v0.2.2.2.1, ())))))))) fun v6 => (match v6 with | Out.norm v7 => none | Out.exit v8 => (match ((match v8 with | Sum.inl v13 => (Sum.inl (v13.2.2.2.2.1, (v13.2.2.2.2.2.1, (v13.2.2.2.2.2.2.1, (v13.2.2.2.2.2.2.2.1, ()))))) | Sum.inr v14 => (Empty.elim v14)) : ((Int × (Int × ((List (List Int)) × (D_Resource × Unit)))) ⊕ Empty)) with | Sum.inl v9 => (some (Out.norm ((addZ .i64 v9.1 1), (v9.2.1, (v9.2.2.1, (v9.2.2.2.1, ())))))) | Sum.inr v10 => (match ((Empty.elim v10) : ((Int × (Int × ((List (List Int)) × (D_Resource × Unit)))) ⊕ Empty)) with | Sum.inl v11 => (some (Out.norm ((addZ .i64 v11.1 1), (v11.2.1, (v11.2.2.1, (v11.2.2.2.1, ())))))) | Sum.inr v12 => (some (Out.exit (Sum.inr (Empty.elim v12)))))) | Out.ret v15 => (some (Out.ret v15)))))) else (some (Out.exit (Sum.inl ((ltZ v0.1 v0.2.1), (v0.1, (v0.2.1, (v0.2.2.1, (v0.2.2.2.1, ()))))))))))
def spec_ResourceOk (x : (D_Resource × Unit)) (c : Unit) : (Option (Bool × Unit)) :=
  (Option.bind (loopN (A := (Int × (Int × ((List (List Int)) × (D_Resource × Unit))))) big spec_ResourceOk_L1 (0, ((lenI x.1.2.1), (x.1.2.1, (x.1, ()))))) fun v16 => (match v16 with | Out.norm v17 => none | Out.exit v18 => (match ((match v18 with | Sum.inl v25 => (Sum.inl (v25.2.2.2.2.1, ())) | Sum.inr v26 => (Empty.elim v26)) : ((D_Resource × Unit) ⊕ Empty)) with | Sum.inl v19 => (Option.bind ((Option.bind (spec_StepsOk (v19.1.1, ()) ()) fun v20 => (some v20.1)) : (Option Bool)) fun v21 => (Option.bind ((if v21 = true then (Option.bind ((if (eqZ (lenI v19.1.2.1) 0) = true then (some (true, ())) else (some ((eqZ (lenI v19.1.2.1) 4), ()))) : (Option (Bool × Unit))) fun v22 => (some (v22.1, ()))) else (some (false, ()))) : (Option (Bool × Unit))) fun v23 => (some (v23.1, ())))) | Sum.inr v24 => none) | Out.ret v27 => (some v27)))
def H_spec_ResourceOk : Hd := ⟨[.st [.sl 124 (.st [.int .i64, .int .i64]), .sl 25 (.sl 3 (.int .i64))]], [], none, .p, .bool, .p, []⟩
def T_spec_ResourceOk : FSig := ⟨H_spec_ResourceOk.ps, H_spec_ResourceOk.cs, H_spec_ResourceOk.io, H_spec_ResourceOk.im, H_spec_ResourceOk.R, H_spec_ResourceOk.m, spec_ResourceOk⟩
theorem E_spec_ResourceOk : fnOf tys [(53, T_spec_l01In), (93, T_spec_StepsOk)] Tryd.f56 H_spec_ResourceOk = T_spec_ResourceOk := by kernel_rfl
theorem K_spec_ResourceOk : SigB base_ Tryd.prog 56 T_spec_ResourceOk := (congrArg (SigB base_ Tryd.prog 56) E_spec_ResourceOk).mp (fnOf_ok rfl tysOk ⟨K_spec_l01In, K_spec_StepsOk, trivial⟩ Tryd.func56 (by decide) rfl (fun _ h => by cases h) (nilEq_of (by kernel_rfl)))
def spec_ProjectOk_L0 : (Int × (Int × ((List D_Activity) × (D_Project × (Int × Unit))))) → Option (Out (Int × (Int × ((List D_Activity) × (D_Project × (Int × Unit))))) ((Bool × (Int × (Int × ((List D_Activity) × (D_Project × (Int × Unit)))))) ⊕ Empty) (Bool × Unit)) :=
  (fun v8 => (if (ltZ v8.1 v8.2.1) = true then (Option.bind (getI v8.2.2.1 v8.1) fun v9 => (Option.bind ((Option.bind (spec_ActivityOk (v9, ((lenI v8.2.2.2.1.2.2.2.1), ((lenI v8.2.2.2.1.2.2.2.2.1), ()))) ()) fun v10 => (some v10.1)) : (Option Bool)) fun v11 => (Option.bind ((if (notB v11) = true then (some (true, (v8.1, (v8.2.1, (v8.2.2.1, (v8.2.2.2.1, (v8.2.2.2.2.1, ()))))))) else (Option.bind ((Option.bind (spec_ActivityIndex (v8.2.2.2.1, (v9.1, ())) ()) fun v12 => (some v12.1)) : (Option Int)) fun v13 => (some ((notB (eqZ v13 v8.1)), (v8.1, (v8.2.1, (v8.2.2.1, (v8.2.2.2.1, (v8.2.2.2.2.1, ()))))))))) : (Option (Bool × (Int × (Int × ((List D_Activity) × (D_Project × (Int × Unit)))))))) fun v14 => (if v14.1 = true then (some (Out.ret (false, ()))) else (some (Out.norm ((addZ .i64 v14.2.1 1), (v14.2.2.1, (v14.2.2.2.1, (v14.2.2.2.2.1, (v14.2.2.2.2.2.1, ()))))))))))) else (some (Out.exit (Sum.inl ((ltZ v8.1 v8.2.1), (v8.1, (v8.2.1, (v8.2.2.1, (v8.2.2.2.1, (v8.2.2.2.2.1, ())))))))))))
def spec_ProjectOk_L1 : (Int × (Int × ((List D_Resource) × (D_Project × (Int × Unit))))) → Option (Out (Int × (Int × ((List D_Resource) × (D_Project × (Int × Unit))))) ((Bool × (Int × (Int × ((List D_Resource) × (D_Project × (Int × Unit)))))) ⊕ Empty) (Bool × Unit)) :=
  (fun v19 => (if (ltZ v19.1 v19.2.1) = true then (Option.bind (getI v19.2.2.1 v19.1) fun v20 => (Option.bind ((Option.bind (spec_ResourceOk (v20, ()) ()) fun v21 => (some v21.1)) : (Option Bool)) fun v22 => (if (notB v22) = true then (some (Out.ret (false, ()))) else (some (Out.norm ((addZ .i64 v19.1 1), (v19.2.1, (v19.2.2.1, (v19.2.2.2.1, (v19.2.2.2.2.1, ())))))))))) else (some (Out.exit (Sum.inl ((ltZ v19.1 v19.2.1), (v19.1, (v19.2.1, (v19.2.2.1, (v19.2.2.2.1, (v19.2.2.2.2.1, ())))))))))))
def spec_ProjectOk_L2 : (Int × (Int × ((List Int) × (D_Project × (Int × Unit))))) → Option (Out (Int × (Int × ((List Int) × (D_Project × (Int × Unit))))) ((Bool × (Int × (Int × ((List Int) × (D_Project × (Int × Unit)))))) ⊕ Empty) (Bool × Unit)) :=
  (fun v27 => (if (ltZ v27.1 v27.2.1) = true then (Option.bind (getI v27.2.2.1 v27.1) fun v28 => (Option.bind ((Option.bind (spec_l01In (v28, (0, (100, ()))) ()) fun v29 => (some v29.1)) : (Option Bool)) fun v30 => (if (notB v30) = true then (some (Out.ret (false, ()))) else (some (Out.norm ((addZ .i64 v27.1 1), (v27.2.1, (v27.2.2.1, (v27.2.2.2.1, (v27.2.2.2.2.1, ())))))))))) else (some (Out.exit (Sum.inl ((ltZ v27.1 v27.2.1), (v27.1, (v27.2.1, (v27.2.2.1, (v27.2.2.2.1, (v27.2.2.2.2.1, ())))))))))))
def spec_ProjectOk_L3 : (Int × (Int × ((List D_Link) × (Int × Unit)))) → Option (Out (Int × (Int × ((List D_Link) × (Int × Unit)))) ((Bool × (Int × (Int × ((List D_Link) × (Int × Unit))))) ⊕ Empty) (Bool × Unit)) :=
  (fun v35 => (if (ltZ v35.1 v35.2.1) = true then (Option.bind (getI v35.2.2.1 v35.1) fun v36 => (Option.bind ((Option.bind (spec_l01In (v36.1, (0, ((subZ .i64 v35.2.2.2.1 1), ()))) ()) fun v37 => (some v37.1)) : (Option Bool)) fun v38 => (Option.bind ((if (notB v38) = true then (some (true, (v35.1, (v35.2.1, (v35.2.2.1, (v35.2.2.2.1, ())))))) else (Option.bind ((Option.bind (spec_l01In (v36.2.1, (0, ((subZ .i64 v35.2.2.2.1 1), ()))) ()) fun v39 => (some v39.1)) : (Option Bool)) fun v40 => (Option.bind ((if (notB v40) = true then (some (true, (v35.1, (v35.2.1, (v35.2.2.1, (v35.2.2.2.1, ())))))) else (Option.bind ((if (eqZ v36.1 v36.2.1) = true then (some (true, (v35.1, (v35.2.1, (v35.2.2.1, (v35.2.2.2.1, ())))))) else (Option.bind ((Option.bind (spec_l01In (v36.2.2.2.1, ((-60), (60, ()))) ()) fun v41 => (some v41.1)) : (Option Bool)) fun v42 => (some ((notB v42), (v35.1, (v35.2.1, (v35.2.2.1, (v35.2.2.2.1, ())))))))) : (Option (Bool × (Int × (Int × ((List D_Link) × (Int × Unit))))))) fun v43 => (some (v43.1, (v43.2.1, (v43.2.2.1, (v43.2.2.2.1, (v43.2.2.2.2.1, ())))))))) : (Option (Bool × (Int × (Int × ((List D_Link) × (Int × Unit))))))) fun v44 => (some (v44.1, (v44.2.1, (v44.2.2.1, (v44.2.2.2.1, (v44.2.2.2.2.1, ()))))))))) : (Option (Bool × (Int × (Int × ((List D_Link) × (Int × Unit))))))) fun v45 => (if v45.1 = true then (some (Out.ret (false, ()))) else (some (Out.norm ((addZ .i64 v45.2.1 1), (v45.2.2.1, (v45.2.2.2.1, (v45.2.2.2.2.1, ())))))))))) else (some (Out.exit (Sum.inl ((ltZ v35.1 v35.2.1), (v35.1, (v35.2.1, (v35.2.2.1, (v35.2.2.2.1, ()))))))))))
def spec_ProjectOk (x : (D_Project × Unit)) (c : Unit) : (Option (Bool × Unit)) :=
  (Option.bind ((Option.bind (spec_l01In (x.1.1, (1, (60, ()))) ()) fun v0 => (some v0.1)) : (Option Bool)) fun v1 => (Option.bind ((if (notB v1) = true then (some (true, (x.1, ((lenI x.1.2.1), ())))) else (Option.bind ((Option.bind (spec_l01In ((lenI x.1.2.1), (1, (6, ()))) ()) fun v2 => (some v2.1)) : (Option Bool)) fun v3 => (Option.bind ((if (notB v3) = true then (some (true, (x.1, ((lenI x.1.2.1), ())))) else (Option.bind ((if (ltZ 3 (lenI x.1.2.2.2.1)) = true then (some (true, (x.1, ((lenI x.1.2.1), ())))) else (Option.bind ((if (ltZ 2 (lenI x.1.2.2.2.2.1)) = true then (some (true, (x.1, ((lenI x.1.2.1), ())))) else (some ((ltZ 12 (lenI x.1.2.2.1)), (x.1, ((lenI x.1.2.1), ()))))) : (Option (Bool × (D_Project × (Int × Unit))))) fun v4 => (some (v4.1, (v4.2.1, (v4.2.2.1, ())))))) : (Option (Bool × (D_Project × (Int × Unit))))) fun v5 => (some (v5.1, (v5.2.1, (v5.2.2.1, ())))))) : (Option (Bool × (D_Project × (Int × Unit))))) fun v6 => (some (v6.1, (v6.2.1, (v6.2.2.1, ()))))))) : (Option (Bool × (D_Project × (Int × Unit))))) fun v7 => (if v7.1 = true then (some (false, ())) else (Option.bind (loopN (A := (Int × (Int × ((List D_Activity) × (D_Project × (Int × Unit)))))) big spec_ProjectOk_L0 (0, ((lenI v7.2.1.2.1), (v7.2.1.2.1, (v7.2.1, (v7.2.2.1, ())))))) fun v15 => (match v15 with | Out.norm v16 => none | Out.exit v17 => (match ((match v17 with | Sum.inl v63 => (Sum.inl (v63.2.2.2.2.1, (v63.2.2.2.2.2.1, ()))) | Sum.inr v64 => (Empty.elim v64)) : ((D_Project × (Int × Unit)) ⊕ Empty)) with | Sum.inl v18 => (Option.bind (loopN (A := (Int × (Int × ((List D_Resource) × (D_Project × (Int × Unit)))))) big spec_ProjectOk_L1 (0, ((lenI v18.1.2.2.2.1), (v18.1.2.2.2.1, (v18.1, (v18.2.1, ())))))) fun v23 => (match v23 with | Out.norm v24 => none | Out.exit v25 => (match ((match v25 with | Sum.inl v59 => (Sum.inl (v59.2.2.2.2.1, (v59.2.2.2.2.2.1, ()))) | Sum.inr v60 => (Empty.elim v60)) : ((D_Project × (Int × Unit)) ⊕ Empty)) with | Sum.inl v26 => (Option.bind (loopN (A := (Int × (Int × ((List Int) × (D_Project × (Int × Unit)))))) big spec_ProjectOk_L2 (0, ((lenI v26.1.2.2.2.2.1), (v26.1.2.2.2.2.1, (v26.1, (v26.2.1, ())))))) fun v31 => (match v31 with | Out.norm v32 => none | Out.exit v33 => (match ((match v33 with | Sum.inl v55 => (Sum.inl (v55.2.2.2.2.1, (v55.2.2.2.2.2.1, ()))) | Sum.inr v56 => (Empty.elim v56)) : ((D_Project × (Int × Unit)) ⊕ Empty)) with | Sum.inl v34 => (Option.bind (loopN (A := (Int × (Int × ((List D_Link) × (Int × Unit))))) big spec_ProjectOk_L3 (0, ((lenI v34.1.2.2.1), (v34.1.2.2.1, (v34.2.1, ()))))) fun v46 => (match v46 with | Out.norm v47 => none | Out.exit v48 => (match ((match v48 with | Sum.inl v51 => (Sum.inl ()) | Sum.inr v52 => (Empty.elim v52)) : (Unit ⊕ Empty)) with | Sum.inl v49 => (some (true, ())) | Sum.inr v50 => none) | Out.ret v53 => (some v53))) | Sum.inr v54 => none) | Out.ret v57 => (some v57))) | Sum.inr v58 => none) | Out.ret v61 => (some v61))) | Sum.inr v62 => none) | Out.ret v65 => (some v65))))))
def H_spec_ProjectOk : Hd := ⟨[.st [.int .i64, .sl 99 (.st [.str, .int .i64, .sl 121 (.st [.int .i64, .sl 3 (.int .i64), .sl 3 (.int .i64)])]), .sl 38 (.st [.int .i64, .int .i64, .bool, .int .i64]), .sl 112 (.st [.sl 124 (.st [.int .i64, .int .i64]), .sl 25 (.sl 3 (.int .i64))]), .sl 3 (.int .i64)]], [], none, .p, .bool, .p, []⟩
def T_spec_ProjectOk : FSig := ⟨H_spec_ProjectOk.ps, H_spec_ProjectOk.cs, H_spec_ProjectOk.io, H_spec_ProjectOk.im, H_spec_ProjectOk.R, H_spec_ProjectOk.m, spec_ProjectOk⟩
theorem E_spec_ProjectOk : fnOf tys [(53, T_spec_l01In), (54, T_spec_ActivityOk), (55, T_spec_ActivityIndex), (56, T_spec_ResourceOk)] Tryd.f25 H_spec_ProjectOk = T_spec_ProjectOk := by kernel_rfl
theorem K_spec_ProjectOk : SigB base_ Tryd.prog 25 T_spec_ProjectOk := (congrArg (SigB base_ Tryd.prog 25) E_spec_ProjectOk).mp (fnOf_ok rfl tysOk ⟨K_spec_l01In, K_spec_ActivityOk, K_spec_ActivityIndex, K_spec_ResourceOk, trivial⟩ Tryd.func25 (by decide) rfl (fun _ h => by cases h) (nilEq_of (by kernel_rfl)))
def H_spec_FormatInt : Hd := ⟨[.int .i64], [], none, .p, .str, .p, []⟩
def spec_FormatInt_r0 : (Int × Unit) → Unit → Option ((List UInt8) × Unit) := fun _ _ => none
def T_spec_FormatInt_r0 : FSig := ⟨H_spec_FormatInt.ps, H_spec_FormatInt.cs, H_spec_FormatInt.io, H_spec_FormatInt.im, H_spec_FormatInt.R, H_spec_FormatInt.m, spec_FormatInt_r0⟩
theorem K_spec_FormatInt_r0 : SigB base_ Tryd.prog 40 T_spec_FormatInt_r0 := ⟨⟨Tryd.f40, Tryd.func40, by decide, rfl⟩, fun _ _ _ _ _ _ _ _ _ _ _ _ _ _ h => by cases h⟩
def spec_FormatInt_r1_L0 : (Int × ((List UInt8) × Unit)) → Option (Out (Int × ((List UInt8) × Unit)) ((Bool × (Int × ((List UInt8) × Unit))) ⊕ Empty) ((List UInt8) × Unit)) :=
  (fun v5 => (if (ltZ 9 v5.1) = true then (Option.bind (remZ v5.1 10) fun v6 => (Option.bind (addI (ofBytes ((wrapI .u8 (addZ .i64 48 v6)) :: [])) v5.2.1) fun v7 => (Option.bind (quoZ .i64 v5.1 10) fun v8 => (some (Out.norm (v8, (v7, ()))))))) else (some (Out.exit (Sum.inl ((ltZ 9 v5.1), (v5.1, (v5.2.1, ()))))))))
def spec_FormatInt_r1 (x : (Int × Unit)) (c : Unit) : (Option ((List UInt8) × Unit)) :=
  (Option.bind ((Option.bind (spec_l01In (x.1, ((-100000), (100000, ()))) ()) fun v0 => (some v0.1)) : (Option Bool)) fun v1 => (if (notB v1) = true then (some ([], ())) else (if (ltZ x.1 0) = true then (Option.bind ((Option.bind (spec_FormatInt_r0 ((subZ .i64 0 x.1), ()) ()) fun v2 => (some v2.1)) : (Option (List UInt8))) fun v3 => (Option.bind (addI ([45] : List UInt8) v3) fun v4 => (some (v4, ())))) else (Option.bind (loopN (A := (Int × ((List UInt8) × Unit))) big spec_FormatInt_r1_L0 (x.1, ([], ()))) fun v9 => (match v9 with | Out.norm v10 => none | Out.exit v11 => (match ((match v11 with | Sum.inl v15 => (Sum.inl (v15.2.1, (v15.2.2.1, ()))) | Sum.inr v16 => (Empty.elim v16)) : ((Int × ((List UInt8) × Unit)) ⊕ Empty)) with | Sum.inl v12 => (Option.bind (addI (ofBytes ((wrapI .u8 (addZ .i64 48 v12.1)) :: [])) v12.2.1) fun v13 => (some (v13, ()))) | Sum.inr v14 => none) | Out.ret v17 => (some v17))))))
def T_spec_FormatInt_r1 : FSig := ⟨H_spec_FormatInt.ps, H_spec_FormatInt.cs, H_spec_FormatInt.io, H_spec_FormatInt.im, H_spec_FormatInt.R, H_spec_FormatInt.m, spec_FormatInt_r1⟩
theorem E_spec_FormatInt_r1 : fnOf tys [(40, T_spec_FormatInt_r0), (53, T_spec_l01In)] Tryd.f40 H_spec_FormatInt = T_spec_FormatInt_r1 := by kernel_rfl
theorem K_spec_FormatInt_r1 : SigB base_ Tryd.prog 40 T_spec_FormatInt_r1 := (congrArg (SigB base_ Tryd.prog 40) E_spec_FormatInt_r1).mp (fnOf_ok rfl tysOk ⟨K_spec_FormatInt_r0, K_spec_l01In, trivial⟩ Tryd.func40 (by decide) rfl (fun _ h => by cases h) (nilEq_of (by kernel_rfl)))
def spec_FormatInt_L0 : (Int × ((List UInt8) × Unit)) → Option (Out (Int × ((List UInt8) × Unit)) ((Bool × (Int × ((List UInt8) × Unit))) ⊕ Empty) ((List UInt8) × Unit)) :=
  (fun v5 => (if (ltZ 9 v5.1) = true then (Option.bind (remZ v5.1 10) fun v6 => (Option.bind (addI (ofBytes ((wrapI .u8 (addZ .i64 48 v6)) :: [])) v5.2.1) fun v7 => (Option.bind (quoZ .i64 v5.1 10) fun v8 => (some (Out.norm (v8, (v7, ()))))))) else (some (Out.exit (Sum.inl ((ltZ 9 v5.1), (v5.1, (v5.2.1, ()))))))))
def spec_FormatInt (x : (Int × Unit)) (c : Unit) : (Option ((List UInt8) × Unit)) :=
  (Option.bind ((Option.bind (spec_l01In (x.1, ((-100000), (100000, ()))) ()) fun v0 => (some v0.1)) : (Option Bool)) fun v1 => (if (notB v1) = true then (some ([], ())) else (if (ltZ x.1 0) = true then (Option.bind ((Option.bind (spec_FormatInt_r1 ((subZ .i64 0 x.1), ()) ()) fun v2 => (some v2.1)) : (Option (List UInt8))) fun v3 => (Option.bind (addI ([45] : List UInt8) v3) fun v4 => (some (v4, ())))) else (Option.bind (loopN (A := (Int × ((List UInt8) × Unit))) big spec_FormatInt_L0 (x.1, ([], ()))) fun v9 => (match v9 with | Out.norm v10 => none | Out.exit v11 => (match ((match v11 with | Sum.inl v15 => (Sum.inl (v15.2.1, (v15.2.2.1, ()))) | Sum.inr v16 => (Empty.elim v16)) : ((Int × ((List UInt8) × Unit)) ⊕ Empty)) with | Sum.inl v12 => (Option.bind (addI (ofBytes ((wrapI .u8 (addZ .i64 48 v12.1)) :: [])) v12.2.1) fun v13 => (some (v13, ()))) | Sum.inr v14 => none) | Out.ret v17 => (some v17))))))
def T_spec_FormatInt : FSig := ⟨H_spec_FormatInt.ps, H_spec_FormatInt.cs, H_spec_FormatInt.io, H_spec_FormatInt.im, H_spec_FormatInt.R, H_spec_FormatInt.m, spec_FormatInt⟩
theorem E_spec_FormatInt : fnOf tys [(40, T_spec_FormatInt_r1), (53, T_spec_l01In)] Tryd.f40 H_spec_FormatInt = T_spec_FormatInt := by kernel_rfl
theorem K_spec_FormatInt : SigB base_ Tryd.prog 40 T_spec_FormatInt := (congrArg (SigB base_ Tryd.prog 40) E_spec_FormatInt).mp (fnOf_ok rfl tysOk ⟨K_spec_FormatInt_r1, K_spec_l01In, trivial⟩ Tryd.func40 (by decide) rfl (fun _ h => by cases h) (nilEq_of (by kernel_rfl)))
def spec_l06Link (x : (D_Project × (D_Link × Unit))) (c : Unit) : (Option ((List UInt8) × Unit)) :=
  (Option.bind ((if x.2.1.2.2.1 = true then (some (Out.norm (([101, 110, 100, 32] : List UInt8), (x.1, (x.2.1, ()))))) else (some (Out.norm (([115, 116, 97, 114, 116, 32] : List UInt8), (x.1, (x.2.1, ())))))) : (Option (Out ((List UInt8) × (D_Project × (D_Link × Unit))) Empty ((List UInt8) × Unit)))) fun v0 => (match ((match v0 with | Out.norm v13 => (Out.norm v13) | Out.exit v14 => (Out.exit v14) | Out.ret v15 => (Out.ret v15)) : (Out ((List UInt8) × (D_Project × (D_Link × Unit))) Empty ((List UInt8) × Unit))) with | Out.norm v1 => (Option.bind (getI v1.2.1.2.1 v1.2.2.1.1) fun v2 => (Option.bind (addI v1.1 v2.1) fun v3 => (Option.bind (addI v3 ([32] : List UInt8)) fun v4 => (Option.bind (getI v1.2.1.2.1 v1.2.2.1.2.1) fun v5 => (Option.bind (addI v4 v5.1) fun v6 => (Option.bind (addI v6 ([32] : List UInt8)) fun v7 => (Option.bind ((Option.bind (spec_FormatInt (v1.2.2.1.2.2.2.1, ()) ()) fun v8 => (some v8.1)) : (Option (List UInt8))) fun v9 => (Option.bind (addI v7 v9) fun v10 => (some (v10, ())))))))))) | Out.exit v11 => none | Out.ret v12 => (some v12)))
def H_spec_l06Link : Hd := ⟨[.st [.int .i64, .sl 99 (.st [.str, .int .i64, .sl 121 (.st [.int .i64, .sl 3 (.int .i64), .sl 3 (.int .i64)])]), .sl 38 (.st [.int .i64, .int .i64, .bool, .int .i64]), .sl 112 (.st [.sl 124 (.st [.int .i64, .int .i64]), .sl 25 (.sl 3 (.int .i64))]), .sl 3 (.int .i64)], .st [.int .i64, .int .i64, .bool, .int .i64]], [], none, .p, .str, .p, []⟩
def T_spec_l06Link : FSig := ⟨H_spec_l06Link.ps, H_spec_l06Link.cs, H_spec_l06Link.io, H_spec_l06Link.im, H_spec_l06Link.R, H_spec_l06Link.m, spec_l06Link⟩
theorem E_spec_l06Link : fnOf tys [(40, T_spec_FormatInt)] Tryd.f26 H_spec_l06Link = T_spec_l06Link := by kernel_rfl
theorem K_spec_l06Link : SigB base_ Tryd.prog 26 T_spec_l06Link := (congrArg (SigB base_ Tryd.prog 26) E_spec_l06Link).mp (fnOf_ok rfl tysOk ⟨K_spec_FormatInt, trivial⟩ Tryd.func26 (by decide) rfl (fun _ h => by cases h) (nilEq_of (by kernel_rfl)))
def spec_FormatLink (x : (D_Project × (D_Link × Unit))) (c : Unit) : (Option ((List UInt8) × Unit)) :=
  (Option.bind ((Option.bind (spec_l05Copy (x.1, ()) ()) fun v0 => (some v0.1)) : (Option D_Project)) fun v1 => (Option.bind (addI v1.2.2.1 (x.2.1 :: [])) fun v2 => (Option.bind ((Option.bind (spec_ProjectOk ((v1.1, (v1.2.1, (v2, v1.2.2.2))), ()) ()) fun v3 => (some v3.1)) : (Option Bool)) fun v4 => (if (notB v4) = true then (some ([], ())) else (Option.bind ((Option.bind (spec_l06Link (x.1, (x.2.1, ())) ()) fun v5 => (some v5.1)) : (Option (List UInt8))) fun v6 => (some (v6, ())))))))
def H_spec_FormatLink : Hd := ⟨[.st [.int .i64, .sl 99 (.st [.str, .int .i64, .sl 121 (.st [.int .i64, .sl 3 (.int .i64), .sl 3 (.int .i64)])]), .sl 38 (.st [.int .i64, .int .i64, .bool, .int .i64]), .sl 112 (.st [.sl 124 (.st [.int .i64, .int .i64]), .sl 25 (.sl 3 (.int .i64))]), .sl 3 (.int .i64)], .st [.int .i64, .int .i64, .bool, .int .i64]], [], none, .p, .str, .p, []⟩
def T_spec_FormatLink : FSig := ⟨H_spec_FormatLink.ps, H_spec_FormatLink.cs, H_spec_FormatLink.io, H_spec_FormatLink.im, H_spec_FormatLink.R, H_spec_FormatLink.m, spec_FormatLink⟩
theorem E_spec_FormatLink : fnOf tys [(24, T_spec_l05Copy), (25, T_spec_ProjectOk), (26, T_spec_l06Link)] Tryd.f7 H_spec_FormatLink = T_spec_FormatLink := by kernel_rfl
theorem K_spec_FormatLink : SigB base_ Tryd.prog 7 T_spec_FormatLink := (congrArg (SigB base_ Tryd.prog 7) E_spec_FormatLink).mp (fnOf_ok rfl tysOk ⟨K_spec_l05Copy, K_spec_ProjectOk, K_spec_l06Link, trivial⟩ Tryd.func7 (by decide) rfl (fun _ h => by cases h) (nilEq_of (by kernel_rfl)))
def laws_toIntS_L0 : D_Mode → Option (Out D_Mode ((Bool × D_Mode) ⊕ Empty) ((List Int) × Unit)) :=
  (fun v1 => (if (ltZ v1.1 (lenI v1.2.1)) = true then (Option.bind (getI v1.2.1 v1.1) fun v2 => (Option.bind ((Option.bind (getI v1.2.2.1 v1.1) fun v3 => (some ())) : (Option Unit)) fun v4 => (Option.bind ((Option.bind ((Option.bind (getI v1.2.2.1 v1.1) fun v5 => (some v5)) : (Option Int)) fun v6 => (some v2)) : (Option Int)) fun v7 => (some (Out.norm ((addZ .i64 v1.1 1), (v1.2.1, ((setI v1.2.2.1 v1.1 (fun v8 => v7)), ())))))))) else (some (Out.exit (Sum.inl ((ltZ v1.1 (lenI v1.2.1)), (v1.1, (v1.2.1, (v1.2.2.1, ())))))))))
def laws_toIntS (x : ((List Int) × Unit)) (c : Unit) : (Option ((List Int) × Unit)) :=
  (Option.bind ((if (eqZ (lenI x.1) (lenI x.1)) = true then (zerosI (lenI x.1) 0) else none) : (Option (List Int))) fun v0 => (Option.bind (loopN (A := D_Mode) big laws_toIntS_L0 (0, (x.1, (v0, ())))) fun v9 => (match v9 with | Out.norm v10 => none | Out.exit v11 => (match ((match v11 with | Sum.inl v14 => (Sum.inl (v14.2.2.2.1, ())) | Sum.inr v15 => (Empty.elim v15)) : (((List Int) × Unit) ⊕ Empty)) with | Sum.inl v12 => (some (v12.1, ())) | Sum.inr v13 => none) | Out.ret v16 => (some v16))))
def H_laws_toIntS : Hd := ⟨[.sl 3 (.int .i64)], [], none, .p, .sl 3 (.int .i64), (Ty.all (.sl 3 (.int .i64))), []⟩
def T_laws_toIntS : FSig := ⟨H_laws_toIntS.ps, H_laws_toIntS.cs, H_laws_toIntS.io, H_laws_toIntS.im, H_laws_toIntS.R, H_laws_toIntS.m, laws_toIntS⟩
theorem E_laws_toIntS : fnOf tys [] Tryd.f30 H_laws_toIntS = T_laws_toIntS := by kernel_rfl
theorem K_laws_toIntS : SigB base_ Tryd.prog 30 T_laws_toIntS := (congrArg (SigB base_ Tryd.prog 30) E_laws_toIntS).mp (fnOf_ok rfl tysOk trivial Tryd.func30 (by decide) rfl (fun _ h => by cases h) (nilEq_of (by kernel_rfl)))
def laws_toMode (x : (D_Mode × Unit)) (c : Unit) : (Option (D_Mode × Unit)) :=
  (Option.bind ((Option.bind (laws_toIntS (x.1.2.1, ()) ()) fun v0 => (some v0.1)) : (Option (List Int))) fun v1 => (Option.bind ((Option.bind (laws_toIntS (x.1.2.2.1, ()) ()) fun v2 => (some v2.1)) : (Option (List Int))) fun v3 => (some ((x.1.1, (v1, (v3, ()))), ()))))
def H_laws_toMode : Hd := ⟨[.st [.int .i64, .sl 3 (.int .i64), .sl 3 (.int .i64)]], [], none, .p, .st [.int .i64, .sl 3 (.int .i64), .sl 3 (.int .i64)], (Ty.all (.st [.int .i64, .sl 3 (.int .i64), .sl 3 (.int .i64)])), []⟩
def T_laws_toMode : FSig := ⟨H_laws_toMode.ps, H_laws_toMode.cs, H_laws_toMode.io, H_laws_toMode.im, H_laws_toMode.R, H_laws_toMode.m, laws_toMode⟩
theorem E_laws_toMode : fnOf tys [(30, T_laws_toIntS)] Tryd.f116 H_laws_toMode = T_laws_toMode := by kernel_rfl
theorem K_laws_toMode : SigB base_ Tryd.prog 116 T_laws_toMode := (congrArg (SigB base_ Tryd.prog 116) E_laws_toMode).mp (fnOf_ok rfl tysOk ⟨K_laws_toIntS, trivial⟩ Tryd.func116 (by decide) rfl (fun _ h => by cases h) (nilEq_of (by kernel_rfl)))
def laws_toModeS_L0 : (Int × ((List D_Mode) × ((List D_Mode) × Unit))) → Option (Out (Int × ((List D_Mode) × ((List D_Mode) × Unit))) ((Bool × (Int × ((List D_Mode) × ((List D_Mode) × Unit)))) ⊕ Empty) ((List D_Mode) × Unit)) :=
  (fun v1 => (if (ltZ v1.1 (lenI v1.2.1)) = true then (Option.bind (getI v1.2.1 v1.1) fun v2 => (Option.bind ((Option.bind (laws_toMode (v2, ()) ()) fun v3 => (some v3.1)) : (Option D_Mode)) fun v4 => (Option.bind ((Option.bind (getI v1.2.2.1 v1.1) fun v5 => (some ())) : (Option Unit)) fun v6 => (Option.bind ((Option.bind ((Option.bind (getI v1.2.2.1 v1.1) fun v7 => (some v7)) : (Option D_Mode)) fun v8 => (some v4)) : (Option D_Mode)) fun v9 => (some (Out.norm ((addZ .i64 v1.1 1), (v1.2.1, ((setI v1.2.2.1 v1.1 (fun v10 => v9)), ()))))))))) else (some (Out.exit (Sum.inl ((ltZ v1.1 (lenI v1.2.1)), (v1.1, (v1.2.1, (v1.2.2.1, ())))))))))
def laws_toModeS (x : ((List D_Mode) × Unit)) (c : Unit) : (Option ((List D_Mode) × Unit)) :=
  (Option.bind ((if (eqZ (lenI x.1) (lenI x.1)) = true then (zerosI (lenI x.1) (0, ([], ([], ())))) else none) : (Option (List D_Mode))) fun v0 => (Option.bind (loopN (A := (Int × ((List D_Mode) × ((List D_Mode) × Unit)))) big laws_toModeS_L0 (0, (x.1, (v0, ())))) fun v11 => (match v11 with | Out.norm v12 => none | Out.exit v13 => (match ((match v13 with | Sum.inl v16 => (Sum.inl (v16.2.2.2.1, ())) | Sum.inr v17 => (Empty.elim v17)) : (((List D_Mode) × Unit) ⊕ Empty)) with | Sum.inl v14 => (some (v14.1, ())) | Sum.inr v15 => none) | Out.ret v18 => (some v18))))
def H_laws_toModeS : Hd := ⟨[.sl 182 (.st [.int .i64, .sl 3 (.int .i64), .sl 3 (.int .i64)])], [], none, .p, .sl 121 (.st [.int .i64, .sl 3 (.int .i64), .sl 3 (.int .i64)]), (Ty.all (.sl 121 (.st [.int .i64, .sl 3 (.int .i64), .sl 3 (.int .i64)]))), []⟩
def T_laws_toModeS : FSig := ⟨H_laws_toModeS.ps, H_laws_toModeS.cs, H_laws_toModeS.io, H_laws_toModeS.im, H_laws_toModeS.R, H_laws_toModeS.m, laws_toModeS⟩
theorem E_laws_toModeS : fnOf tys [(116, T_laws_toMode)] Tryd.f94 H_laws_toModeS = T_laws_toModeS := by kernel_rfl
theorem K_laws_toModeS : SigB base_ Tryd.prog 94 T_laws_toModeS := (congrArg (SigB base_ Tryd.prog 94) E_laws_toModeS).mp (fnOf_ok rfl tysOk ⟨K_laws_toMode, trivial⟩ Tryd.func94 (by decide) rfl (fun _ h => by cases h) (nilEq_of (by kernel_rfl)))
def laws_toActivity (x : (D_Activity × Unit)) (c : Unit) : (Option (D_Activity × Unit)) :=
  (Option.bind ((Option.bind (laws_toModeS (x.1.2.2.1, ()) ()) fun v0 => (some v0.1)) : (Option (List D_Mode))) fun v1 => (some ((x.1.1, (x.1.2.1, (v1, ()))), ())))
def H_laws_toActivity : Hd := ⟨[.st [.str, .int .i64, .sl 182 (.st [.int .i64, .sl 3 (.int .i64), .sl 3 (.int .i64)])]], [], none, .p, .st [.str, .int .i64, .sl 121 (.st [.int .i64, .sl 3 (.int .i64), .sl 3 (.int .i64)])], (Ty.all (.st [.str, .int .i64, .sl 121 (.st [.int .i64, .sl 3 (.int .i64), .sl 3 (.int .i64)])])), []⟩
def T_laws_toActivity : FSig := ⟨H_laws_toActivity.ps, H_laws_toActivity.cs, H_laws_toActivity.io, H_laws_toActivity.im, H_laws_toActivity.R, H_laws_toActivity.m, laws_toActivity⟩
theorem E_laws_toActivity : fnOf tys [(94, T_laws_toModeS)] Tryd.f57 H_laws_toActivity = T_laws_toActivity := by kernel_rfl
theorem K_laws_toActivity : SigB base_ Tryd.prog 57 T_laws_toActivity := (congrArg (SigB base_ Tryd.prog 57) E_laws_toActivity).mp (fnOf_ok rfl tysOk ⟨K_laws_toModeS, trivial⟩ Tryd.func57 (by decide) rfl (fun _ h => by cases h) (nilEq_of (by kernel_rfl)))
def laws_toActivityS_L0 : (Int × ((List D_Activity) × ((List D_Activity) × Unit))) → Option (Out (Int × ((List D_Activity) × ((List D_Activity) × Unit))) ((Bool × (Int × ((List D_Activity) × ((List D_Activity) × Unit)))) ⊕ Empty) ((List D_Activity) × Unit)) :=
  (fun v1 => (if (ltZ v1.1 (lenI v1.2.1)) = true then (Option.bind (getI v1.2.1 v1.1) fun v2 => (Option.bind ((Option.bind (laws_toActivity (v2, ()) ()) fun v3 => (some v3.1)) : (Option D_Activity)) fun v4 => (Option.bind ((Option.bind (getI v1.2.2.1 v1.1) fun v5 => (some ())) : (Option Unit)) fun v6 => (Option.bind ((Option.bind ((Option.bind (getI v1.2.2.1 v1.1) fun v7 => (some v7)) : (Option D_Activity)) fun v8 => (some v4)) : (Option D_Activity)) fun v9 => (some (Out.norm ((addZ .i64 v1.1 1), (v1.2.1, ((setI v1.2.2.1 v1.1 (fun v10 => v9)), ()))))))))) else (some (Out.exit (Sum.inl ((ltZ v1.1 (lenI v1.2.1)), (v1.1, (v1.2.1, (v1.2.2.1, ())))))))))
def laws_toActivityS (x : ((List D_Activity) × Unit)) (c : Unit) : (Option ((List D_Activity) × Unit)) :=
  (Option.bind ((if (eqZ (lenI x.1) (lenI x.1)) = true then (zerosI (lenI x.1) ([], (0, ([], ())))) else none) : (Option (List D_Activity))) fun v0 => (Option.bind (loopN (A := (Int × ((List D_Activity) × ((List D_Activity) × Unit)))) big laws_toActivityS_L0 (0, (x.1, (v0, ())))) fun v11 => (match v11 with | Out.norm v12 => none | Out.exit v13 => (match ((match v13 with | Sum.inl v16 => (Sum.inl (v16.2.2.2.1, ())) | Sum.inr v17 => (Empty.elim v17)) : (((List D_Activity) × Unit) ⊕ Empty)) with | Sum.inl v14 => (some (v14.1, ())) | Sum.inr v15 => none) | Out.ret v18 => (some v18))))
def H_laws_toActivityS : Hd := ⟨[.sl 104 (.st [.str, .int .i64, .sl 182 (.st [.int .i64, .sl 3 (.int .i64), .sl 3 (.int .i64)])])], [], none, .p, .sl 99 (.st [.str, .int .i64, .sl 121 (.st [.int .i64, .sl 3 (.int .i64), .sl 3 (.int .i64)])]), (Ty.all (.sl 99 (.st [.str, .int .i64, .sl 121 (.st [.int .i64, .sl 3 (.int .i64), .sl 3 (.int .i64)])]))), []⟩
def T_laws_toActivityS : FSig := ⟨H_laws_toActivityS.ps, H_laws_toActivityS.cs, H_laws_toActivityS.io, H_laws_toActivityS.im, H_laws_toActivityS.R, H_laws_toActivityS.m, laws_toActivityS⟩
theorem E_laws_toActivityS : fnOf tys [(57, T_laws_toActivity)] Tryd.f27 H_laws_toActivityS = T_laws_toActivityS := by kernel_rfl
theorem K_laws_toActivityS : SigB base_ Tryd.prog 27 T_laws_toActivityS := (congrArg (SigB base_ Tryd.prog 27) E_laws_toActivityS).mp (fnOf_ok rfl tysOk ⟨K_laws_toActivity, trivial⟩ Tryd.func27 (by decide) rfl (fun _ h => by cases h) (nilEq_of (by kernel_rfl)))
def laws_toLink (x : (D_Link × Unit)) (c : Unit) : (Option (D_Link × Unit)) :=
  (some ((x.1.1, (x.1.2.1, (x.1.2.2.1, (x.1.2.2.2.1, ())))), ()))
def H_laws_toLink : Hd := ⟨[.st [.int .i64, .int .i64, .bool, .int .i64]], [], none, .p, .st [.int .i64, .int .i64, .bool, .int .i64], .p, []⟩
def T_laws_toLink : FSig := ⟨H_laws_toLink.ps, H_laws_toLink.cs, H_laws_toLink.io, H_laws_toLink.im, H_laws_toLink.R, H_laws_toLink.m, laws_toLink⟩
theorem E_laws_toLink : fnOf tys [] Tryd.f9 H_laws_toLink = T_laws_toLink := by kernel_rfl
theorem K_laws_toLink : SigB base_ Tryd.prog 9 T_laws_toLink := (congrArg (SigB base_ Tryd.prog 9) E_laws_toLink).mp (fnOf_ok rfl tysOk trivial Tryd.func9 (by decide) rfl (fun _ h => by cases h) (nilEq_of (by kernel_rfl)))
def laws_toLinkS_L0 : (Int × ((List D_Link) × ((List D_Link) × Unit))) → Option (Out (Int × ((List D_Link) × ((List D_Link) × Unit))) ((Bool × (Int × ((List D_Link) × ((List D_Link) × Unit)))) ⊕ Empty) ((List D_Link) × Unit)) :=
  (fun v1 => (if (ltZ v1.1 (lenI v1.2.1)) = true then (Option.bind (getI v1.2.1 v1.1) fun v2 => (Option.bind ((Option.bind (laws_toLink (v2, ()) ()) fun v3 => (some v3.1)) : (Option D_Link)) fun v4 => (Option.bind ((Option.bind (getI v1.2.2.1 v1.1) fun v5 => (some ())) : (Option Unit)) fun v6 => (Option.bind ((Option.bind ((Option.bind (getI v1.2.2.1 v1.1) fun v7 => (some v7)) : (Option D_Link)) fun v8 => (some v4)) : (Option D_Link)) fun v9 => (some (Out.norm ((addZ .i64 v1.1 1), (v1.2.1, ((setI v1.2.2.1 v1.1 (fun v10 => v9)), ()))))))))) else (some (Out.exit (Sum.inl ((ltZ v1.1 (lenI v1.2.1)), (v1.1, (v1.2.1, (v1.2.2.1, ())))))))))
def laws_toLinkS (x : ((List D_Link) × Unit)) (c : Unit) : (Option ((List D_Link) × Unit)) :=
  (Option.bind ((if (eqZ (lenI x.1) (lenI x.1)) = true then (zerosI (lenI x.1) (0, (0, (false, (0, ()))))) else none) : (Option (List D_Link))) fun v0 => (Option.bind (loopN (A := (Int × ((List D_Link) × ((List D_Link) × Unit)))) big laws_toLinkS_L0 (0, (x.1, (v0, ())))) fun v11 => (match v11 with | Out.norm v12 => none | Out.exit v13 => (match ((match v13 with | Sum.inl v16 => (Sum.inl (v16.2.2.2.1, ())) | Sum.inr v17 => (Empty.elim v17)) : (((List D_Link) × Unit) ⊕ Empty)) with | Sum.inl v14 => (some (v14.1, ())) | Sum.inr v15 => none) | Out.ret v18 => (some v18))))
def H_laws_toLinkS : Hd := ⟨[.sl 29 (.st [.int .i64, .int .i64, .bool, .int .i64])], [], none, .p, .sl 38 (.st [.int .i64, .int .i64, .bool, .int .i64]), (Ty.all (.sl 38 (.st [.int .i64, .int .i64, .bool, .int .i64]))), []⟩
def T_laws_toLinkS : FSig := ⟨H_laws_toLinkS.ps, H_laws_toLinkS.cs, H_laws_toLinkS.io, H_laws_toLinkS.im, H_laws_toLinkS.R, H_laws_toLinkS.m, laws_toLinkS⟩
theorem E_laws_toLinkS : fnOf tys [(9, T_laws_toLink)] Tryd.f28 H_laws_toLinkS = T_laws_toLinkS := by kernel_rfl
theorem K_laws_toLinkS : SigB base_ Tryd.prog 28 T_laws_toLinkS := (congrArg (SigB base_ Tryd.prog 28) E_laws_toLinkS).mp (fnOf_ok rfl tysOk ⟨K_laws_toLink, trivial⟩ Tryd.func28 (by decide) rfl (fun _ h => by cases h) (nilEq_of (by kernel_rfl)))
def laws_toStep (x : (D_Step × Unit)) (c : Unit) : (Option (D_Step × Unit)) :=
  (some ((x.1.1, (x.1.2.1, ())), ()))
def H_laws_toStep : Hd := ⟨[.st [.int .i64, .int .i64]], [], none, .p, .st [.int .i64, .int .i64], .p, []⟩
def T_laws_toStep : FSig := ⟨H_laws_toStep.ps, H_laws_toStep.cs, H_laws_toStep.io, H_laws_toStep.im, H_laws_toStep.R, H_laws_toStep.m, laws_toStep⟩
theorem E_laws_toStep : fnOf tys [] Tryd.f117 H_laws_toStep = T_laws_toStep := by kernel_rfl
theorem K_laws_toStep : SigB base_ Tryd.prog 117 T_laws_toStep := (congrArg (SigB base_ Tryd.prog 117) E_laws_toStep).mp (fnOf_ok rfl tysOk trivial Tryd.func117 (by decide) rfl (fun _ h => by cases h) (nilEq_of (by kernel_rfl)))
def laws_toStepS_L0 : (Int × ((List D_Step) × ((List D_Step) × Unit))) → Option (Out (Int × ((List D_Step) × ((List D_Step) × Unit))) ((Bool × (Int × ((List D_Step) × ((List D_Step) × Unit)))) ⊕ Empty) ((List D_Step) × Unit)) :=
  (fun v1 => (if (ltZ v1.1 (lenI v1.2.1)) = true then (Option.bind (getI v1.2.1 v1.1) fun v2 => (Option.bind ((Option.bind (laws_toStep (v2, ()) ()) fun v3 => (some v3.1)) : (Option D_Step)) fun v4 => (Option.bind ((Option.bind (getI v1.2.2.1 v1.1) fun v5 => (some ())) : (Option Unit)) fun v6 => (Option.bind ((Option.bind ((Option.bind (getI v1.2.2.1 v1.1) fun v7 => (some v7)) : (Option D_Step)) fun v8 => (some v4)) : (Option D_Step)) fun v9 => (some (Out.norm ((addZ .i64 v1.1 1), (v1.2.1, ((setI v1.2.2.1 v1.1 (fun v10 => v9)), ()))))))))) else (some (Out.exit (Sum.inl ((ltZ v1.1 (lenI v1.2.1)), (v1.1, (v1.2.1, (v1.2.2.1, ())))))))))
def laws_toStepS (x : ((List D_Step) × Unit)) (c : Unit) : (Option ((List D_Step) × Unit)) :=
  (Option.bind ((if (eqZ (lenI x.1) (lenI x.1)) = true then (zerosI (lenI x.1) (0, (0, ()))) else none) : (Option (List D_Step))) fun v0 => (Option.bind (loopN (A := (Int × ((List D_Step) × ((List D_Step) × Unit)))) big laws_toStepS_L0 (0, (x.1, (v0, ())))) fun v11 => (match v11 with | Out.norm v12 => none | Out.exit v13 => (match ((match v13 with | Sum.inl v16 => (Sum.inl (v16.2.2.2.1, ())) | Sum.inr v17 => (Empty.elim v17)) : (((List D_Step) × Unit) ⊕ Empty)) with | Sum.inl v14 => (some (v14.1, ())) | Sum.inr v15 => none) | Out.ret v18 => (some v18))))
def H_laws_toStepS : Hd := ⟨[.sl 186 (.st [.int .i64, .int .i64])], [], none, .p, .sl 124 (.st [.int .i64, .int .i64]), (Ty.all (.sl 124 (.st [.int .i64, .int .i64]))), []⟩
def T_laws_toStepS : FSig := ⟨H_laws_toStepS.ps, H_laws_toStepS.cs, H_laws_toStepS.io, H_laws_toStepS.im, H_laws_toStepS.R, H_laws_toStepS.m, laws_toStepS⟩
theorem E_laws_toStepS : fnOf tys [(117, T_laws_toStep)] Tryd.f95 H_laws_toStepS = T_laws_toStepS := by kernel_rfl
theorem K_laws_toStepS : SigB base_ Tryd.prog 95 T_laws_toStepS := (congrArg (SigB base_ Tryd.prog 95) E_laws_toStepS).mp (fnOf_ok rfl tysOk ⟨K_laws_toStep, trivial⟩ Tryd.func95 (by decide) rfl (fun _ h => by cases h) (nilEq_of (by kernel_rfl)))
def laws_toIntSS_L0 : (Int × ((List (List Int)) × ((List (List Int)) × Unit))) → Option (Out (Int × ((List (List Int)) × ((List (List Int)) × Unit))) ((Bool × (Int × ((List (List Int)) × ((List (List Int)) × Unit)))) ⊕ Empty) ((List (List Int)) × Unit)) :=
  (fun v1 => (if (ltZ v1.1 (lenI v1.2.1)) = true then (Option.bind (getI v1.2.1 v1.1) fun v2 => (Option.bind ((Option.bind (laws_toIntS (v2, ()) ()) fun v3 => (some v3.1)) : (Option (List Int))) fun v4 => (Option.bind ((Option.bind (getI v1.2.2.1 v1.1) fun v5 => (some ())) : (Option Unit)) fun v6 => (Option.bind ((Option.bind ((Option.bind (getI v1.2.2.1 v1.1) fun v7 => (some v7)) : (Option (List Int))) fun v8 => (some v4)) : (Option (List Int))) fun v9 => (some (Out.norm ((addZ .i64 v1.1 1), (v1.2.1, ((setI v1.2.2.1 v1.1 (fun v10 => v9)), ()))))))))) else (some (Out.exit (Sum.inl ((ltZ v1.1 (lenI v1.2.1)), (v1.1, (v1.2.1, (v1.2.2.1, ())))))))))
def laws_toIntSS (x : ((List (List Int)) × Unit)) (c : Unit) : (Option ((List (List Int)) × Unit)) :=
  (Option.bind ((if (eqZ (lenI x.1) (lenI x.1)) = true then (zerosI (lenI x.1) []) else none) : (Option (List (List Int)))) fun v0 => (Option.bind (loopN (A := (Int × ((List (List Int)) × ((List (List Int)) × Unit)))) big laws_toIntSS_L0 (0, (x.1, (v0, ())))) fun v11 => (match v11 with | Out.norm v12 => none | Out.exit v13 => (match ((match v13 with | Sum.inl v16 => (Sum.inl (v16.2.2.2.1, ())) | Sum.inr v17 => (Empty.elim v17)) : (((List (List Int)) × Unit) ⊕ Empty)) with | Sum.inl v14 => (some (v14.1, ())) | Sum.inr v15 => none) | Out.ret v18 => (some v18))))
def H_laws_toIntSS : Hd := ⟨[.sl 25 (.sl 3 (.int .i64))], [], none, .p, .sl 25 (.sl 3 (.int .i64)), (Ty.all (.sl 25 (.sl 3 (.int .i64)))), []⟩
def T_laws_toIntSS : FSig := ⟨H_laws_toIntSS.ps, H_laws_toIntSS.cs, H_laws_toIntSS.io, H_laws_toIntSS.im, H_laws_toIntSS.R, H_laws_toIntSS.m, laws_toIntSS⟩
theorem E_laws_toIntSS : fnOf tys [(30, T_laws_toIntS)] Tryd.f96 H_laws_toIntSS = T_laws_toIntSS := by kernel_rfl
theorem K_laws_toIntSS : SigB base_ Tryd.prog 96 T_laws_toIntSS := (congrArg (SigB base_ Tryd.prog 96) E_laws_toIntSS).mp (fnOf_ok rfl tysOk ⟨K_laws_toIntS, trivial⟩ Tryd.func96 (by decide) rfl (fun _ h => by cases h) (nilEq_of (by kernel_rfl)))
def laws_toResource (x : (D_Resource × Unit)) (c : Unit) : (Option (D_Resource × Unit)) :=
  (Option.bind ((Option.bind (laws_toStepS (x.1.1, ()) ()) fun v0 => (some v0.1)) : (Option (List D_Step))) fun v1 => (Option.bind ((Option.bind (laws_toIntSS (x.1.2.1, ()) ()) fun v2 => (some v2.1)) : (Option (List (List Int)))) fun v3 => (some ((v1, (v3, ())), ()))))
def H_laws_toResource : Hd := ⟨[.st [.sl 186 (.st [.int .i64, .int .i64]), .sl 25 (.sl 3 (.int .i64))]], [], none, .p, .st [.sl 124 (.st [.int .i64, .int .i64]), .sl 25 (.sl 3 (.int .i64))], (Ty.all (.st [.sl 124 (.st [.int .i64, .int .i64]), .sl 25 (.sl 3 (.int .i64))])), []⟩
def T_laws_toResource : FSig := ⟨H_laws_toResource.ps, H_laws_toResource.cs, H_laws_toResource.io, H_laws_toResource.im, H_laws_toResource.R, H_laws_toResource.m, laws_toResource⟩
theorem E_laws_toResource : fnOf tys [(95, T_laws_toStepS), (96, T_laws_toIntSS)] Tryd.f58 H_laws_toResource = T_laws_toResource := by kernel_rfl
theorem K_laws_toResource : SigB base_ Tryd.prog 58 T_laws_toResource := (congrArg (SigB base_ Tryd.prog 58) E_laws_toResource).mp (fnOf_ok rfl tysOk ⟨K_laws_toStepS, K_laws_toIntSS, trivial⟩ Tryd.func58 (by decide) rfl (fun _ h => by cases h) (nilEq_of (by kernel_rfl)))
def laws_toResourceS_L0 : (Int × ((List D_Resource) × ((List D_Resource) × Unit))) → Option (Out (Int × ((List D_Resource) × ((List D_Resource) × Unit))) ((Bool × (Int × ((List D_Resource) × ((List D_Resource) × Unit)))) ⊕ Empty) ((List D_Resource) × Unit)) :=
  (fun v1 => (if (ltZ v1.1 (lenI v1.2.1)) = true then (Option.bind (getI v1.2.1 v1.1) fun v2 => (Option.bind ((Option.bind (laws_toResource (v2, ()) ()) fun v3 => (some v3.1)) : (Option D_Resource)) fun v4 => (Option.bind ((Option.bind (getI v1.2.2.1 v1.1) fun v5 => (some ())) : (Option Unit)) fun v6 => (Option.bind ((Option.bind ((Option.bind (getI v1.2.2.1 v1.1) fun v7 => (some v7)) : (Option D_Resource)) fun v8 => (some v4)) : (Option D_Resource)) fun v9 => (some (Out.norm ((addZ .i64 v1.1 1), (v1.2.1, ((setI v1.2.2.1 v1.1 (fun v10 => v9)), ()))))))))) else (some (Out.exit (Sum.inl ((ltZ v1.1 (lenI v1.2.1)), (v1.1, (v1.2.1, (v1.2.2.1, ())))))))))
def laws_toResourceS (x : ((List D_Resource) × Unit)) (c : Unit) : (Option ((List D_Resource) × Unit)) :=
  (Option.bind ((if (eqZ (lenI x.1) (lenI x.1)) = true then (zerosI (lenI x.1) ([], ([], ()))) else none) : (Option (List D_Resource))) fun v0 => (Option.bind (loopN (A := (Int × ((List D_Resource) × ((List D_Resource) × Unit)))) big laws_toResourceS_L0 (0, (x.1, (v0, ())))) fun v11 => (match v11 with | Out.norm v12 => none | Out.exit v13 => (match ((match v13 with | Sum.inl v16 => (Sum.inl (v16.2.2.2.1, ())) | Sum.inr v17 => (Empty.elim v17)) : (((List D_Resource) × Unit) ⊕ Empty)) with | Sum.inl v14 => (some (v14.1, ())) | Sum.inr v15 => none) | Out.ret v18 => (some v18))))
def H_laws_toResourceS : Hd := ⟨[.sl 108 (.st [.sl 186 (.st [.int .i64, .int .i64]), .sl 25 (.sl 3 (.int .i64))])], [], none, .p, .sl 112 (.st [.sl 124 (.st [.int .i64, .int .i64]), .sl 25 (.sl 3 (.int .i64))]), (Ty.all (.sl 112 (.st [.sl 124 (.st [.int .i64, .int .i64]), .sl 25 (.sl 3 (.int .i64))]))), []⟩
def T_laws_toResourceS : FSig := ⟨H_laws_toResourceS.ps, H_laws_toResourceS.cs, H_laws_toResourceS.io, H_laws_toResourceS.im, H_laws_toResourceS.R, H_laws_toResourceS.m, laws_toResourceS⟩
theorem E_laws_toResourceS : fnOf tys [(58, T_laws_toResource)] Tryd.f29 H_laws_toResourceS = T_laws_toResourceS := by kernel_rfl
theorem K_laws_toResourceS : SigB base_ Tryd.prog 29 T_laws_toResourceS := (congrArg (SigB base_ Tryd.prog 29) E_laws_toResourceS).mp (fnOf_ok rfl tysOk ⟨K_laws_toResource, trivial⟩ Tryd.func29 (by decide) rfl (fun _ h => by cases h) (nilEq_of (by kernel_rfl)))
def laws_toProject (x : (D_Project × Unit)) (c : Unit) : (Option (D_Project × Unit)) :=
  (Option.bind ((Option.bind (laws_toActivityS (x.1.2.1, ()) ()) fun v0 => (some v0.1)) : (Option (List D_Activity))) fun v1 => (Option.bind ((Option.bind (laws_toLinkS (x.1.2.2.1, ()) ()) fun v2 => (some v2.1)) : (Option (List D_Link))) fun v3 => (Option.bind ((Option.bind (laws_toResourceS (x.1.2.2.2.1, ()) ()) fun v4 => (some v4.1)) : (Option (List D_Resource))) fun v5 => (Option.bind ((Option.bind (laws_toIntS (x.1.2.2.2.2.1, ()) ()) fun v6 => (some v6.1)) : (Option (List Int))) fun v7 => (some ((x.1.1, (v1, (v3, (v5, (v7, ()))))), ()))))))
def H_laws_toProject : Hd := ⟨[.st [.int .i64, .sl 104 (.st [.str, .int .i64, .sl 182 (.st [.int .i64, .sl 3 (.int .i64), .sl 3 (.int .i64)])]), .sl 29 (.st [.int .i64, .int .i64, .bool, .int .i64]), .sl 108 (.st [.sl 186 (.st [.int .i64, .int .i64]), .sl 25 (.sl 3 (.int .i64))]), .sl 3 (.int .i64)]], [], none, .p, .st [.int .i64, .sl 99 (.st [.str, .int .i64, .sl 121 (.st [.int .i64, .sl 3 (.int .i64), .sl 3 (.int .i64)])]), .sl 38 (.st [.int .i64, .int .i64, .bool, .int .i64]), .sl 112 (.st [.sl 124 (.st [.int .i64, .int .i64]), .sl 25 (.sl 3 (.int .i64))]), .sl 3 (.int .i64)], (Ty.all (.st [.int .i64, .sl 99 (.st [.str, .int .i64, .sl 121 (.st [.int .i64, .sl 3 (.int .i64), .sl 3 (.int .i64)])]), .sl 38 (.st [.int .i64, .int .i64, .bool, .int .i64]), .sl 112 (.st [.sl 124 (.st [.int .i64, .int .i64]), .sl 25 (.sl 3 (.int .i64))]), .sl 3 (.int .i64)])), []⟩
def T_laws_toProject : FSig := ⟨H_laws_toProject.ps, H_laws_toProject.cs, H_laws_toProject.io, H_laws_toProject.im, H_laws_toProject.R, H_laws_toProject.m, laws_toProject⟩
theorem E_laws_toProject : fnOf tys [(27, T_laws_toActivityS), (28, T_laws_toLinkS), (29, T_laws_toResourceS), (30, T_laws_toIntS)] Tryd.f8 H_laws_toProject = T_laws_toProject := by kernel_rfl
theorem K_laws_toProject : SigB base_ Tryd.prog 8 T_laws_toProject := (congrArg (SigB base_ Tryd.prog 8) E_laws_toProject).mp (fnOf_ok rfl tysOk ⟨K_laws_toActivityS, K_laws_toLinkS, K_laws_toResourceS, K_laws_toIntS, trivial⟩ Tryd.func8 (by decide) rfl (fun _ h => by cases h) (nilEq_of (by kernel_rfl)))
def slices_Clone_impl_Link_impl_Link (x : ((List D_Link) × Unit)) (c : Unit) : (Option ((List D_Link) × Unit)) :=
  (Option.bind (addI [] x.1) fun v0 => (some (v0, ())))
def H_slices_Clone_impl_Link_impl_Link : Hd := ⟨[.sl 38 (.st [.int .i64, .int .i64, .bool, .int .i64])], [], none, .p, .sl 38 (.st [.int .i64, .int .i64, .bool, .int .i64]), (Ty.all (.sl 38 (.st [.int .i64, .int .i64, .bool, .int .i64]))), []⟩
def T_slices_Clone_impl_Link_impl_Link : FSig := ⟨H_slices_Clone_impl_Link_impl_Link.ps, H_slices_Clone_impl_Link_impl_Link.cs, H_slices_Clone_impl_Link_impl_Link.io, H_slices_Clone_impl_Link_impl_Link.im, H_slices_Clone_impl_Link_impl_Link.R, H_slices_Clone_impl_Link_impl_Link.m, slices_Clone_impl_Link_impl_Link⟩
theorem E_slices_Clone_impl_Link_impl_Link : fnOf tys [] Tryd.f59 H_slices_Clone_impl_Link_impl_Link = T_slices_Clone_impl_Link_impl_Link := by kernel_rfl
theorem K_slices_Clone_impl_Link_impl_Link : SigB base_ Tryd.prog 59 T_slices_Clone_impl_Link_impl_Link := (congrArg (SigB base_ Tryd.prog 59) E_slices_Clone_impl_Link_impl_Link).mp (fnOf_ok rfl tysOk trivial Tryd.func59 (by decide) rfl (fun _ h => by cases h) (nilEq_of (by kernel_rfl)))
def slices_Clone_int_int (x : ((List Int) × Unit)) (c : Unit) : (Option ((List Int) × Unit)) :=
  (Option.bind (addI [] x.1) fun v0 => (some (v0, ())))
def H_slices_Clone_int_int : Hd := ⟨[.sl 3 (.int .i64)], [], none, .p, .sl 3 (.int .i64), (Ty.all (.sl 3 (.int .i64))), []⟩
def T_slices_Clone_int_int : FSig := ⟨H_slices_Clone_int_int.ps, H_slices_Clone_int_int.cs, H_slices_Clone_int_int.io, H_slices_Clone_int_int.im, H_slices_Clone_int_int.R, H_slices_Clone_int_int.m, slices_Clone_int_int⟩
theorem E_slices_Clone_int_int : fnOf tys [] Tryd.f60 H_slices_Clone_int_int = T_slices_Clone_int_int := by kernel_rfl
theorem K_slices_Clone_int_int : SigB base_ Tryd.prog 60 T_slices_Clone_int_int := (congrArg (SigB base_ Tryd.prog 60) E_slices_Clone_int_int).mp (fnOf_ok rfl tysOk trivial Tryd.func60 (by decide) rfl (fun _ h => by cases h) (nilEq_of (by kernel_rfl)))
def slices_Clone_impl_Step_impl_Step (x : ((List D_Step) × Unit)) (c : Unit) : (Option ((List D_Step) × Unit)) :=
  (Option.bind (addI [] x.1) fun v0 => (some (v0, ())))
def H_slices_Clone_impl_Step_impl_Step : Hd := ⟨[.sl 124 (.st [.int .i64, .int .i64])], [], none, .p, .sl 124 (.st [.int .i64, .int .i64]), (Ty.all (.sl 124 (.st [.int .i64, .int .i64]))), []⟩
def T_slices_Clone_impl_Step_impl_Step : FSig := ⟨H_slices_Clone_impl_Step_impl_Step.ps, H_slices_Clone_impl_Step_impl_Step.cs, H_slices_Clone_impl_Step_impl_Step.io, H_slices_Clone_impl_Step_impl_Step.im, H_slices_Clone_impl_Step_impl_Step.R, H_slices_Clone_impl_Step_impl_Step.m, slices_Clone_impl_Step_impl_Step⟩
theorem E_slices_Clone_impl_Step_impl_Step : fnOf tys [] Tryd.f61 H_slices_Clone_impl_Step_impl_Step = T_slices_Clone_impl_Step_impl_Step := by kernel_rfl
theorem K_slices_Clone_impl_Step_impl_Step : SigB base_ Tryd.prog 61 T_slices_Clone_impl_Step_impl_Step := (congrArg (SigB base_ Tryd.prog 61) E_slices_Clone_impl_Step_impl_Step).mp (fnOf_ok rfl tysOk trivial Tryd.func61 (by decide) rfl (fun _ h => by cases h) (nilEq_of (by kernel_rfl)))
def impl_Project_copied_L0 : (Int × (Int × ((List D_Mode) × (D_Activity × (Int × (Int × ((List D_Activity) × (D_Project × (D_Project × (D_Project × Unit)))))))))) → Option (Out (Int × (Int × ((List D_Mode) × (D_Activity × (Int × (Int × ((List D_Activity) × (D_Project × (D_Project × (D_Project × Unit)))))))))) ((Bool × (Int × (Int × ((List D_Mode) × (D_Activity × (Int × (Int × ((List D_Activity) × (D_Project × (D_Project × (D_Project × Unit))))))))))) ⊕ Empty) (D_Project × Unit)) :=
  (fun v6 => (if (ltZ v6.1 v6.2.1) = true then (Option.bind (getI v6.2.2.1 v6.1) fun v7 => (Option.bind ((Option.bind (slices_Clone_int_int (v7.2.1, ()) ()) fun v8 => (some v8.1)) : (Option (List Int))) fun v9 => (Option.bind ((Option.bind (slices_Clone_int_int (v7.2.2.1, ()) ()) fun v10 => (some v10.1)) : (Option (List Int))) fun v11 => (Option.bind (addI v6.2.2.2.1.2.2.1 ((v7.1, (v9, (v11, ()))) :: [])) fun v12 => (some (Out.norm ((addZ .i64 v6.1 1), (v6.2.1, (v6.2.2.1, ((v6.2.2.2.1.1, (v6.2.2.2.1.2.1, (v12, v6.2.2.2.1.2.2.2))), (v6.2.2.2.2.1, (v6.2.2.2.2.2.1, (v6.2.2.2.2.2.2.1, (v6.2.2.2.2.2.2.2.1, (v6.2.2.2.2.2.2.2.2.1, (v6.2.2.2.2.2.2.2.2.2.1, ())))))))))))))))) else (some (Out.exit (Sum.inl ((ltZ v6.1 v6.2.1), (v6.1, (v6.2.1, (v6.2.2.1, (v6.2.2.2.1, (v6.2.2.2.2.1, (v6.2.2.2.2.2.1, (v6.2.2.2.2.2.2.1, (v6.2.2.2.2.2.2.2.1, (v6.2.2.2.2.2.2.2.2.1, (v6.2.2.2.2.2.2.2.2.2.1, ()))))))))))))))))
def impl_Project_copied_L1 : (Int × (Int × ((List D_Activity) × (D_Project × (D_Project × (D_Project × Unit)))))) → Option (Out (Int × (Int × ((List D_Activity) × (D_Project × (D_Project × (D_Project × Unit)))))) ((Bool × (Int × (Int × ((List D_Activity) × (D_Project × (D_Project × (D_Project × Unit))))))) ⊕ Empty) (D_Project × Unit)) :=
  (fun v4 => (if (ltZ v4.1 v4.2.1) = true then (Option.bind (getI v4.2.2.1 v4.1) fun v5 => (Option.bind (loopN (A := (Int × (Int × ((List D_Mode) × (D_Activity × (Int × (Int × ((List D_Activity) × (D_Project × (D_Project × (D_Project × Unit))))))))))) big impl_Project_copied_L0 (0, ((lenI v5.2.2.1), (v5.2.2.1, ((v5.1, (v5.2.1, ([], ()))), (v4.1, (v4.2.1, (v4.2.2.1, (v4.2.2.2.1, (v4.2.2.2.2.1, (v4.2.2.2.2.2.1, ()))))))))))) fun v13 => (match v13 with | Out.norm v14 => none | Out.exit v15 => (match ((match v15 with | Sum.inl v21 => (Sum.inl (v21.2.2.2.2.1, (v21.2.2.2.2.2.1, (v21.2.2.2.2.2.2.1, (v21.2.2.2.2.2.2.2.1, (v21.2.2.2.2.2.2.2.2.1, (v21.2.2.2.2.2.2.2.2.2.1, (v21.2.2.2.2.2.2.2.2.2.2.1, ())))))))) | Sum.inr v22 => (Empty.elim v22)) : ((D_Activity × (Int × (Int × ((List D_Activity) × (D_Project × (D_Project × (D_Project × Unit))))))) ⊕ Empty)) with | Sum.inl v16 => (Option.bind (addI v16.2.2.2.2.2.1.2.1 (v16.1 :: [])) fun v17 => (some (Out.norm ((addZ .i64 v16.2.1 1), (v16.2.2.1, (v16.2.2.2.1, (v16.2.2.2.2.1, ((v16.2.2.2.2.2.1.1, (v17, v16.2.2.2.2.2.1.2.2)), (v16.2.2.2.2.2.2.1, ()))))))))) | Sum.inr v18 => (match ((Empty.elim (Empty.elim v18)) : ((Int × (Int × ((List D_Activity) × (D_Project × (D_Project × (D_Project × Unit)))))) ⊕ Empty)) with | Sum.inl v19 => (some (Out.norm ((addZ .i64 v19.1 1), (v19.2.1, (v19.2.2.1, (v19.2.2.2.1, (v19.2.2.2.2.1, (v19.2.2.2.2.2.1, ())))))))) | Sum.inr v20 => (some (Out.exit (Sum.inr (Empty.elim v20)))))) | Out.ret v23 => (some (Out.ret v23))))) else (some (Out.exit (Sum.inl ((ltZ v4.1 v4.2.1), (v4.1, (v4.2.1, (v4.2.2.1, (v4.2.2.2.1, (v4.2.2.2.2.1, (v4.2.2.2.2.2.1, ()))))))))))))
def impl_Project_copied_L2 : (Int × (Int × ((List (List Int)) × (D_Resource × (Int × (Int × ((List D_Resource) × (D_Project × (D_Project × Unit))))))))) → Option (Out (Int × (Int × ((List (List Int)) × (D_Resource × (Int × (Int × ((List D_Resource) × (D_Project × (D_Project × Unit))))))))) ((Bool × (Int × (Int × ((List (List Int)) × (D_Resource × (Int × (Int × ((List D_Resource) × (D_Project × (D_Project × Unit)))))))))) ⊕ Empty) (D_Project × Unit)) :=
  (fun v32 => (if (ltZ v32.1 v32.2.1) = true then (Option.bind (getI v32.2.2.1 v32.1) fun v33 => (Option.bind ((Option.bind (slices_Clone_int_int (v33, ()) ()) fun v34 => (some v34.1)) : (Option (List Int))) fun v35 => (Option.bind (addI v32.2.2.2.1.2.1 (v35 :: [])) fun v36 => (some (Out.norm ((addZ .i64 v32.1 1), (v32.2.1, (v32.2.2.1, ((v32.2.2.2.1.1, (v36, v32.2.2.2.1.2.2)), (v32.2.2.2.2.1, (v32.2.2.2.2.2.1, (v32.2.2.2.2.2.2.1, (v32.2.2.2.2.2.2.2.1, (v32.2.2.2.2.2.2.2.2.1, ())))))))))))))) else (some (Out.exit (Sum.inl ((ltZ v32.1 v32.2.1), (v32.1, (v32.2.1, (v32.2.2.1, (v32.2.2.2.1, (v32.2.2.2.2.1, (v32.2.2.2.2.2.1, (v32.2.2.2.2.2.2.1, (v32.2.2.2.2.2.2.2.1, (v32.2.2.2.2.2.2.2.2.1, ())))))))))))))))
def impl_Project_copied_L3 : (Int × (Int × ((List D_Resource) × (D_Project × (D_Project × Unit))))) → Option (Out (Int × (Int × ((List D_Resource) × (D_Project × (D_Project × Unit))))) ((Bool × (Int × (Int × ((List D_Resource) × (D_Project × (D_Project × Unit)))))) ⊕ Empty) (D_Project × Unit)) :=
  (fun v28 => (if (ltZ v28.1 v28.2.1) = true then (Option.bind (getI v28.2.2.1 v28.1) fun v29 => (Option.bind ((Option.bind (slices_Clone_impl_Step_impl_Step (v29.1, ()) ()) fun v30 => (some v30.1)) : (Option (List D_Step))) fun v31 => (Option.bind (loopN (A := (Int × (Int × ((List (List Int)) × (D_Resource × (Int × (Int × ((List D_Resource) × (D_Project × (D_Project × Unit)))))))))) big impl_Project_copied_L2 (0, ((lenI v29.2.1), (v29.2.1, ((v31, ([], ())), (v28.1, (v28.2.1, (v28.2.2.1, (v28.2.2.2.1, (v28.2.2.2.2.1, ())))))))))) fun v37 => (match v37 with | Out.norm v38 => none | Out.exit v39 => (match ((match v39 with | Sum.inl v45 => (Sum.inl (v45.2.2.2.2.1, (v45.2.2.2.2.2.1, (v45.2.2.2.2.2.2.1, (v45.2.2.2.2.2.2.2.1, (v45.2.2.2.2.2.2.2.2.1, (v45.2.2.2.2.2.2.2.2.2.1, ()))))))) | Sum.inr v46 => (Empty.elim v46)) : ((D_Resource × (Int × (Int × ((List D_Resource) × (D_Project × (D_Project × Unit)))))) ⊕ Empty)) with | Sum.inl v40 => (Option.bind (addI v40.2.2.2.2.1.2.2.2.1 (v40.1 :: [])) fun v41 => (some (Out.norm ((addZ .i64 v40.2.1 1), (v40.2.2.1, (v40.2.2.2.1, ((v40.2.2.2.2.1.1, (v40.2.2.2.2.1.2.1, (v40.2.2.2.2.1.2.2.1, (v41, v40.2.2.2.2.1.2.2.2.2)))), (v40.2.2.2.2.2.1, ())))))))) | Sum.inr v42 => (match ((Empty.elim (Empty.elim v42)) : ((Int × (Int × ((List D_Resource) × (D_Project × (D_Project × Unit))))) ⊕ Empty)) with | Sum.inl v43 => (some (Out.norm ((addZ .i64 v43.1 1), (v43.2.1, (v43.2.2.1, (v43.2.2.2.1, (v43.2.2.2.2.1, ()))))))) | Sum.inr v44 => (some (Out.exit (Sum.inr (Empty.elim v44)))))) | Out.ret v47 => (some (Out.ret v47)))))) else (some (Out.exit (Sum.inl ((ltZ v28.1 v28.2.1), (v28.1, (v28.2.1, (v28.2.2.1, (v28.2.2.2.1, (v28.2.2.2.2.1, ())))))))))))
def impl_Project_copied (x : (D_Project × Unit)) (c : Unit) : (Option (D_Project × Unit)) :=
  (Option.bind ((Option.bind (slices_Clone_impl_Link_impl_Link (x.1.2.2.1, ()) ()) fun v0 => (some v0.1)) : (Option (List D_Link))) fun v1 => (Option.bind ((Option.bind (slices_Clone_int_int (x.1.2.2.2.2.1, ()) ()) fun v2 => (some v2.1)) : (Option (List Int))) fun v3 => (Option.bind (loopN (A := (Int × (Int × ((List D_Activity) × (D_Project × (D_Project × (D_Project × Unit))))))) big impl_Project_copied_L1 (0, ((lenI x.1.2.1), (x.1.2.1, (x.1, ((x.1.1, ([], (v1, ([], (v3, ()))))), ((0, ([], ([], ([], ([], ()))))), ()))))))) fun v24 => (match v24 with | Out.norm v25 => none | Out.exit v26 => (match ((match v26 with | Sum.inl v57 => (Sum.inl (v57.2.2.2.2.1, (v57.2.2.2.2.2.1, (v57.2.2.2.2.2.2.1, ())))) | Sum.inr v58 => (Empty.elim v58)) : ((D_Project × (D_Project × (D_Project × Unit))) ⊕ Empty)) with | Sum.inl v27 => (Option.bind (loopN (A := (Int × (Int × ((List D_Resource) × (D_Project × (D_Project × Unit)))))) big impl_Project_copied_L3 (0, ((lenI v27.1.2.2.2.1), (v27.1.2.2.2.1, (v27.2.1, (v27.2.2.1, ())))))) fun v48 => (match v48 with | Out.norm v49 => none | Out.exit v50 => (match ((match v50 with | Sum.inl v53 => (Sum.inl (v53.2.2.2.2.1, (v53.2.2.2.2.2.1, ()))) | Sum.inr v54 => (Empty.elim v54)) : ((D_Project × (D_Project × Unit)) ⊕ Empty)) with | Sum.inl v51 => (some (v51.1, ())) | Sum.inr v52 => none) | Out.ret v55 => (some v55))) | Sum.inr v56 => none) | Out.ret v59 => (some v59)))))
def H_impl_Project_copied : Hd := ⟨[.st [.int .i64, .sl 99 (.st [.str, .int .i64, .sl 121 (.st [.int .i64, .sl 3 (.int .i64), .sl 3 (.int .i64)])]), .sl 38 (.st [.int .i64, .int .i64, .bool, .int .i64]), .sl 112 (.st [.sl 124 (.st [.int .i64, .int .i64]), .sl 25 (.sl 3 (.int .i64))]), .sl 3 (.int .i64)]], [], none, .p, .st [.int .i64, .sl 99 (.st [.str, .int .i64, .sl 121 (.st [.int .i64, .sl 3 (.int .i64), .sl 3 (.int .i64)])]), .sl 38 (.st [.int .i64, .int .i64, .bool, .int .i64]), .sl 112 (.st [.sl 124 (.st [.int .i64, .int .i64]), .sl 25 (.sl 3 (.int .i64))]), .sl 3 (.int .i64)], (Ty.all (.st [.int .i64, .sl 99 (.st [.str, .int .i64, .sl 121 (.st [.int .i64, .sl 3 (.int .i64), .sl 3 (.int .i64)])]), .sl 38 (.st [.int .i64, .int .i64, .bool, .int .i64]), .sl 112 (.st [.sl 124 (.st [.int .i64, .int .i64]), .sl 25 (.sl 3 (.int .i64))]), .sl 3 (.int .i64)])), []⟩
def T_impl_Project_copied : FSig := ⟨H_impl_Project_copied.ps, H_impl_Project_copied.cs, H_impl_Project_copied.io, H_impl_Project_copied.im, H_impl_Project_copied.R, H_impl_Project_copied.m, impl_Project_copied⟩
theorem E_impl_Project_copied : fnOf tys [(59, T_slices_Clone_impl_Link_impl_Link), (60, T_slices_Clone_int_int), (61, T_slices_Clone_impl_Step_impl_Step)] Tryd.f31 H_impl_Project_copied = T_impl_Project_copied := by kernel_rfl
theorem K_impl_Project_copied : SigB base_ Tryd.prog 31 T_impl_Project_copied := (congrArg (SigB base_ Tryd.prog 31) E_impl_Project_copied).mp (fnOf_ok rfl tysOk ⟨K_slices_Clone_impl_Link_impl_Link, K_slices_Clone_int_int, K_slices_Clone_impl_Step_impl_Step, trivial⟩ Tryd.func31 (by decide) rfl (fun _ h => by cases h) (nilEq_of (by kernel_rfl)))
def impl_within (x : (Int × D_Step)) (c : Unit) : (Option (Bool × Unit)) :=
  (Option.bind ((if (leZ x.2.1 x.1) = true then (some ((leZ x.1 x.2.2.1), ())) else (some (false, ()))) : (Option (Bool × Unit))) fun v0 => (some (v0.1, ())))
def H_impl_within : Hd := ⟨[.int .i64, .int .i64, .int .i64], [], none, .p, .bool, .p, []⟩
def T_impl_within : FSig := ⟨H_impl_within.ps, H_impl_within.cs, H_impl_within.io, H_impl_within.im, H_impl_within.R, H_impl_within.m, impl_within⟩
theorem E_impl_within : fnOf tys [] Tryd.f62 H_impl_within = T_impl_within := by kernel_rfl
theorem K_impl_within : SigB base_ Tryd.prog 62 T_impl_within := (congrArg (SigB base_ Tryd.prog 62) E_impl_within).mp (fnOf_ok rfl tysOk trivial Tryd.func62 (by decide) rfl (fun _ h => by cases h) (nilEq_of (by kernel_rfl)))
def impl_isAmount (x : (Int × Unit)) (c : Unit) : (Option (Bool × Unit)) :=
  (Option.bind ((Option.bind (impl_within (x.1, (0, (20, ()))) ()) fun v0 => (some v0.1)) : (Option Bool)) fun v1 => (some (v1, ())))
def H_impl_isAmount : Hd := ⟨[.int .i64], [], none, .p, .bool, .p, []⟩
def T_impl_isAmount : FSig := ⟨H_impl_isAmount.ps, H_impl_isAmount.cs, H_impl_isAmount.io, H_impl_isAmount.im, H_impl_isAmount.R, H_impl_isAmount.m, impl_isAmount⟩
theorem E_impl_isAmount : fnOf tys [(62, T_impl_within)] Tryd.f119 H_impl_isAmount = T_impl_isAmount := by kernel_rfl
theorem K_impl_isAmount : SigB base_ Tryd.prog 119 T_impl_isAmount := (congrArg (SigB base_ Tryd.prog 119) E_impl_isAmount).mp (fnOf_ok rfl tysOk ⟨K_impl_within, trivial⟩ Tryd.func119 (by decide) rfl (fun _ h => by cases h) (nilEq_of (by kernel_rfl)))
def impl_areAmounts_L0 : (Int × (Int × ((List Int) × ((List Int) × (Int × Unit))))) → Option (Out (Int × (Int × ((List Int) × ((List Int) × (Int × Unit))))) ((Bool × (Int × (Int × ((List Int) × ((List Int) × (Int × Unit)))))) ⊕ Empty) (Bool × Unit)) :=
  (fun v0 => (if (ltZ v0.1 v0.2.1) = true then (Option.bind (getI v0.2.2.1 v0.1) fun v1 => (Option.bind ((Option.bind (impl_isAmount (v1, ()) ()) fun v2 => (some v2.1)) : (Option Bool)) fun v3 => (if (notB v3) = true then (some (Out.ret (false, ()))) else (some (Out.norm ((addZ .i64 v0.1 1), (v0.2.1, (v0.2.2.1, (v0.2.2.2.1, (v0.2.2.2.2.1, ())))))))))) else (some (Out.exit (Sum.inl ((ltZ v0.1 v0.2.1), (v0.1, (v0.2.1, (v0.2.2.1, (v0.2.2.2.1, (v0.2.2.2.2.1, ())))))))))))
def impl_areAmounts (x : ((List Int) × (Int × Unit))) (c : Unit) : (Option (Bool × Unit)) :=
  (Option.bind (loopN (A := (Int × (Int × ((List Int) × ((List Int) × (Int × Unit)))))) big impl_areAmounts_L0 (0, ((lenI x.1), (x.1, (x.1, (x.2.1, ())))))) fun v4 => (match v4 with | Out.norm v5 => none | Out.exit v6 => (match ((match v6 with | Sum.inl v9 => (Sum.inl (v9.2.2.2.2.1, (v9.2.2.2.2.2.1, ()))) | Sum.inr v10 => (Empty.elim v10)) : (((List Int) × (Int × Unit)) ⊕ Empty)) with | Sum.inl v7 => (some ((eqZ (lenI v7.1) v7.2.1), ())) | Sum.inr v8 => none) | Out.ret v11 => (some v11)))
def H_impl_areAmounts : Hd := ⟨[.sl 3 (.int .i64), .int .i64], [], none, .p, .bool, .p, []⟩
def T_impl_areAmounts : FSig := ⟨H_impl_areAmounts.ps, H_impl_areAmounts.cs, H_impl_areAmounts.io, H_impl_areAmounts.im, H_impl_areAmounts.R, H_impl_areAmounts.m, impl_areAmounts⟩
theorem E_impl_areAmounts : fnOf tys [(119, T_impl_isAmount)] Tryd.f118 H_impl_areAmounts = T_impl_areAmounts := by kernel_rfl
theorem K_impl_areAmounts : SigB base_ Tryd.prog 118 T_impl_areAmounts := (congrArg (SigB base_ Tryd.prog 118) E_impl_areAmounts).mp (fnOf_ok rfl tysOk ⟨K_impl_isAmount, trivial⟩ Tryd.func118 (by decide) rfl (fun _ h => by cases h) (nilEq_of (by kernel_rfl)))
def impl_ModeOk (x : (D_Mode × D_Step)) (c : Unit) : (Option (Bool × Unit)) :=
  (Option.bind ((Option.bind (impl_within (x.1.1, (1, (12, ()))) ()) fun v0 => (some v0.1)) : (Option Bool)) fun v1 => (Option.bind ((if v1 = true then (Option.bind ((Option.bind (impl_areAmounts (x.1.2.1, (x.2.1, ())) ()) fun v2 => (some v2.1)) : (Option Bool)) fun v3 => (Option.bind ((if v3 = true then (Option.bind ((Option.bind (impl_areAmounts (x.1.2.2.1, (x.2.2.1, ())) ()) fun v4 => (some v4.1)) : (Option Bool)) fun v5 => (some (v5, ()))) else (some (false, ()))) : (Option (Bool × Unit))) fun v6 => (some (v6.1, ())))) else (some (false, ()))) : (Option (Bool × Unit))) fun v7 => (some (v7.1, ()))))
def H_impl_ModeOk : Hd := ⟨[.st [.int .i64, .sl 3 (.int .i64), .sl 3 (.int .i64)], .int .i64, .int .i64], [], none, .p, .bool, .p, []⟩
def T_impl_ModeOk : FSig := ⟨H_impl_ModeOk.ps, H_impl_ModeOk.cs, H_impl_ModeOk.io, H_impl_ModeOk.im, H_impl_ModeOk.R, H_impl_ModeOk.m, impl_ModeOk⟩
theorem E_impl_ModeOk : fnOf tys [(62, T_impl_within), (118, T_impl_areAmounts)] Tryd.f97 H_impl_ModeOk = T_impl_ModeOk := by kernel_rfl
theorem K_impl_ModeOk : SigB base_ Tryd.prog 97 T_impl_ModeOk := (congrArg (SigB base_ Tryd.prog 97) E_impl_ModeOk).mp (fnOf_ok rfl tysOk ⟨K_impl_within, K_impl_areAmounts, trivial⟩ Tryd.func97 (by decide) rfl (fun _ h => by cases h) (nilEq_of (by kernel_rfl)))
def impl_IsName_L0 : (Int × (Int × ((List UInt8) × Unit))) → Option (Out (Int × (Int × ((List UInt8) × Unit))) ((Bool × (Int × (Int × ((List UInt8) × Unit)))) ⊕ Empty) (Bool × Unit)) :=
  (fun v0 => (if (ltZ v0.1 v0.2.1) = true then (Option.bind (byteAt v0.2.2.1 v0.1) fun v1 => (Option.bind ((if (leZ 97 v1) = true then (Option.bind (byteAt v0.2.2.1 v0.1) fun v2 => (some ((leZ v2 122), (v0.1, (v0.1, (v0.2.1, (v0.2.2.1, ()))))))) else (some (false, (v0.1, (v0.1, (v0.2.1, (v0.2.2.1, ()))))))) : (Option (Bool × (Int × (Int × (Int × ((List UInt8) × Unit))))))) fun v3 => (Option.bind ((if (notB v3.1) = true then (Option.bind ((if (eqZ v3.2.1 0) = true then (some (true, (v3.2.2.1, (v3.2.2.2.1, (v3.2.2.2.2.1, ()))))) else (Option.bind (byteAt v3.2.2.2.2.1 v3.2.1) fun v4 => (Option.bind ((if (ltZ v4 48) = true then (some (true, (v3.2.2.1, (v3.2.2.2.1, (v3.2.2.2.2.1, ()))))) else (Option.bind (byteAt v3.2.2.2.2.1 v3.2.1) fun v5 => (some ((ltZ 57 v5), (v3.2.2.1, (v3.2.2.2.1, (v3.2.2.2.2.1, ()))))))) : (Option (Bool × (Int × (Int × ((List UInt8) × Unit)))))) fun v6 => (some (v6.1, (v6.2.1, (v6.2.2.1, (v6.2.2.2.1, ())))))))) : (Option (Bool × (Int × (Int × ((List UInt8) × Unit)))))) fun v7 => (some (v7.1, (v7.2.1, (v7.2.2.1, (v7.2.2.2.1, ())))))) else (some (false, (v3.2.2.1, (v3.2.2.2.1, (v3.2.2.2.2.1, ())))))) : (Option (Bool × (Int × (Int × ((List UInt8) × Unit)))))) fun v8 => (if v8.1 = true then (some (Out.ret (false, ()))) else (some (Out.norm ((addZ .i64 v8.2.1 1), (v8.2.2.1, (v8.2.2.2.1, ()))))))))) else (some (Out.exit (Sum.inl ((ltZ v0.1 v0.2.1), (v0.1, (v0.2.1, (v0.2.2.1, ())))))))))
def impl_IsName (x : ((List UInt8) × Unit)) (c : Unit) : (Option (Bool × Unit)) :=
  (Option.bind (loopN (A := (Int × (Int × ((List UInt8) × Unit)))) big impl_IsName_L0 (0, ((lenI x.1), (x.1, ())))) fun v9 => (match v9 with | Out.norm v10 => none | Out.exit v11 => (match ((match v11 with | Sum.inl v16 => (Sum.inl (v16.2.2.2.1, ())) | Sum.inr v17 => (Empty.elim v17)) : (((List UInt8) × Unit) ⊕ Empty)) with | Sum.inl v12 => (Option.bind ((Option.bind (impl_within ((lenI v12.1), (1, (8, ()))) ()) fun v13 => (some v13.1)) : (Option Bool)) fun v14 => (some (v14, ()))) | Sum.inr v15 => none) | Out.ret v18 => (some v18)))
def H_impl_IsName : Hd := ⟨[.str], [], none, .p, .bool, .p, []⟩
def T_impl_IsName : FSig := ⟨H_impl_IsName.ps, H_impl_IsName.cs, H_impl_IsName.io, H_impl_IsName.im, H_impl_IsName.R, H_impl_IsName.m, impl_IsName⟩
theorem E_impl_IsName : fnOf tys [(62, T_impl_within)] Tryd.f98 H_impl_IsName = T_impl_IsName := by kernel_rfl
theorem K_impl_IsName : SigB base_ Tryd.prog 98 T_impl_IsName := (congrArg (SigB base_ Tryd.prog 98) E_impl_IsName).mp (fnOf_ok rfl tysOk ⟨K_impl_within, trivial⟩ Tryd.func98 (by decide) rfl (fun _ h => by cases h) (nilEq_of (by kernel_rfl)))
def impl_ActivityOk_L0 : (Int × (Int × ((List D_Mode) × (Int × (Int × (D_Activity × Unit)))))) → Option (Out (Int × (Int × ((List D_Mode) × (Int × (Int × (D_Activity × Unit)))))) ((Bool × (Int × (Int × ((List D_Mode) × (Int × (Int × (D_Activity × Unit))))))) ⊕ Empty) (Bool × Unit)) :=
  (fun v0 => (if (ltZ v0.1 v0.2.1) = true then (Option.bind (getI v0.2.2.1 v0.1) fun v1 => (Option.bind ((Option.bind (impl_ModeOk (v1, (v0.2.2.2.1, (v0.2.2.2.2.1, ()))) ()) fun v2 => (some v2.1)) : (Option Bool)) fun v3 => (if (notB v3) = true then (some (Out.ret (false, ()))) else (some (Out.norm ((addZ .i64 v0.1 1), (v0.2.1, (v0.2.2.1, (v0.2.2.2.1, (v0.2.2.2.2.1, (v0.2.2.2.2.2.1, ()))))))))))) else (some (Out.exit (Sum.inl ((ltZ v0.1 v0.2.1), (v0.1, (v0.2.1, (v0.2.2.1, (v0.2.2.2.1, (v0.2.2.2.2.1, (v0.2.2.2.2.2.1, ()))))))))))))
def impl_ActivityOk (x : (D_Activity × D_Step)) (c : Unit) : (Option (Bool × Unit)) :=
  (Option.bind (loopN (A := (Int × (Int × ((List D_Mode) × (Int × (Int × (D_Activity × Unit))))))) big impl_ActivityOk_L0 (0, ((lenI x.1.2.2.1), (x.1.2.2.1, (x.2.1, (x.2.2.1, (x.1, ()))))))) fun v4 => (match v4 with | Out.norm v5 => none | Out.exit v6 => (match ((match v6 with | Sum.inl v17 => (Sum.inl (v17.2.2.2.2.2.2.1, ())) | Sum.inr v18 => (Empty.elim v18)) : ((D_Activity × Unit) ⊕ Empty)) with | Sum.inl v7 => (Option.bind ((Option.bind (impl_IsName (v7.1.1, ()) ()) fun v8 => (some v8.1)) : (Option Bool)) fun v9 => (Option.bind ((if v9 = true then (Option.bind ((Option.bind (impl_within (v7.1.2.1, (0, (3, ()))) ()) fun v10 => (some v10.1)) : (Option Bool)) fun v11 => (Option.bind ((if v11 = true then (Option.bind ((Option.bind (impl_within ((lenI v7.1.2.2.1), (1, (3, ()))) ()) fun v12 => (some v12.1)) : (Option Bool)) fun v13 => (some (v13, ()))) else (some (false, ()))) : (Option (Bool × Unit))) fun v14 => (some (v14.1, ())))) else (some (false, ()))) : (Option (Bool × Unit))) fun v15 => (some (v15.1, ())))) | Sum.inr v16 => none) | Out.ret v19 => (some v19)))
def H_impl_ActivityOk : Hd := ⟨[.st [.str, .int .i64, .sl 121 (.st [.int .i64, .sl 3 (.int .i64), .sl 3 (.int .i64)])], .int .i64, .int .i64], [], none, .p, .bool, .p, []⟩
def T_impl_ActivityOk : FSig := ⟨H_impl_ActivityOk.ps, H_impl_ActivityOk.cs, H_impl_ActivityOk.io, H_impl_ActivityOk.im, H_impl_ActivityOk.R, H_impl_ActivityOk.m, impl_ActivityOk⟩
theorem E_impl_ActivityOk : fnOf tys [(62, T_impl_within), (97, T_impl_ModeOk), (98, T_impl_IsName)] Tryd.f63 H_impl_ActivityOk = T_impl_ActivityOk := by kernel_rfl
theorem K_impl_ActivityOk : SigB base_ Tryd.prog 63 T_impl_ActivityOk := (congrArg (SigB base_ Tryd.prog 63) E_impl_ActivityOk).mp (fnOf_ok rfl tysOk ⟨K_impl_within, K_impl_ModeOk, K_impl_IsName, trivial⟩ Tryd.func63 (by decide) rfl (fun _ h => by cases h) (nilEq_of (by kernel_rfl)))
def slices_IndexFunc_impl_Activity_impl_Activity_L0 : (Int × (Int × (((D_Activity × Unit) → (Option Bool)) × ((List D_Activity) × Unit)))) → Option (Out (Int × (Int × (((D_Activity × Unit) → (Option Bool)) × ((List D_Activity) × Unit)))) ((Bool × (Int × (Int × (((D_Activity × Unit) → (Option Bool)) × ((List D_Activity) × Unit))))) ⊕ Empty) (Int × Unit)) :=
  (fun v0 => (if (ltZ v0.1 v0.2.1) = true then (Option.bind (getI v0.2.2.2.1 v0.1) fun v1 => (Option.bind (v0.2.2.1 (v1, ())) fun v2 => (if v2 = true then (some (Out.ret (v0.1, ()))) else (some (Out.norm ((addZ .i64 v0.1 1), (v0.2.1, (v0.2.2.1, (v0.2.2.2.1, ()))))))))) else (some (Out.exit (Sum.inl ((ltZ v0.1 v0.2.1), (v0.1, (v0.2.1, (v0.2.2.1, (v0.2.2.2.1, ()))))))))))
def slices_IndexFunc_impl_Activity_impl_Activity (x : ((List D_Activity) × (((D_Activity × Unit) → (Option Bool)) × Unit))) (c : Unit) : (Option (Int × Unit)) :=
  (Option.bind (loopN (A := (Int × (Int × (((D_Activity × Unit) → (Option Bool)) × ((List D_Activity) × Unit))))) big slices_IndexFunc_impl_Activity_impl_Activity_L0 (0, ((lenI x.1), (x.2.1, (x.1, ()))))) fun v3 => (match v3 with | Out.norm v4 => none | Out.exit v5 => (match ((match v5 with | Sum.inl v8 => (Sum.inl ()) | Sum.inr v9 => (Empty.elim v9)) : (Unit ⊕ Empty)) with | Sum.inl v6 => (some ((-1), ())) | Sum.inr v7 => none) | Out.ret v10 => (some v10)))
def H_slices_IndexFunc_impl_Activity_impl_Activity : Hd := ⟨[.sl 99 (.st [.str, .int .i64, .sl 121 (.st [.int .i64, .sl 3 (.int .i64), .sl 3 (.int .i64)])]), .fn [.st [.str, .int .i64, .sl 121 (.st [.int .i64, .sl 3 (.int .i64), .sl 3 (.int .i64)])]] (.bool)], [], none, .p, .int .i64, .p, []⟩
def T_slices_IndexFunc_impl_Activity_impl_Activity : FSig := ⟨H_slices_IndexFunc_impl_Activity_impl_Activity.ps, H_slices_IndexFunc_impl_Activity_impl_Activity.cs, H_slices_IndexFunc_impl_Activity_impl_Activity.io, H_slices_IndexFunc_impl_Activity_impl_Activity.im, H_slices_IndexFunc_impl_Activity_impl_Activity.R, H_slices_IndexFunc_impl_Activity_impl_Activity.m, slices_IndexFunc_impl_Activity_impl_Activity⟩
theorem E_slices_IndexFunc_impl_Activity_impl_Activity : fnOf tys [] Tryd.f99 H_slices_IndexFunc_impl_Activity_impl_Activity = T_slices_IndexFunc_impl_Activity_impl_Activity := by kernel_rfl
theorem K_slices_IndexFunc_impl_Activity_impl_Activity : SigB base_ Tryd.prog 99 T_slices_IndexFunc_impl_Activity_impl_Activity := (congrArg (SigB base_ Tryd.prog 99) E_slices_IndexFunc_impl_Activity_impl_Activity).mp (fnOf_ok rfl tysOk trivial Tryd.func99 (by decide) rfl (fun _ h => by cases h) (nilEq_of (by kernel_rfl)))
def impl_ActivityIndex_1 (x : (D_Activity × Unit)) (c : ((List UInt8) × Unit)) : (Option (Bool × Unit)) :=
  (some ((eqS x.1.1 c.1), ()))
def H_impl_ActivityIndex_1 : Hd := ⟨[.st [.str, .int .i64, .sl 121 (.st [.int .i64, .sl 3 (.int .i64), .sl 3 (.int .i64)])]], [.str], none, .p, .bool, .p, []⟩
def T_impl_ActivityIndex_1 : FSig := ⟨H_impl_ActivityIndex_1.ps, H_impl_ActivityIndex_1.cs, H_impl_ActivityIndex_1.io, H_impl_ActivityIndex_1.im, H_impl_ActivityIndex_1.R, H_impl_ActivityIndex_1.m, impl_ActivityIndex_1⟩
theorem E_impl_ActivityIndex_1 : fnOf tys [] Tryd.f100 H_impl_ActivityIndex_1 = T_impl_ActivityIndex_1 := by kernel_rfl
theorem K_impl_ActivityIndex_1 : SigB base_ Tryd.prog 100 T_impl_ActivityIndex_1 := (congrArg (SigB base_ Tryd.prog 100) E_impl_ActivityIndex_1).mp (fnOf_ok rfl tysOk trivial Tryd.func100 (by decide) rfl (fun _ h => by cases h) (nilEq_of (by kernel_rfl)))
def impl_ActivityIndex (x : (D_Project × ((List UInt8) × Unit))) (c : Unit) : (Option (Int × Unit)) :=
  (Option.bind ((Option.bind (slices_IndexFunc_impl_Activity_impl_Activity (x.1.2.1, ((fun v0 => (Option.bind (impl_ActivityIndex_1 v0 (x.2.1, ())) fun v1 => (some v1.1))), ())) ()) fun v2 => (some v2.1)) : (Option Int)) fun v3 => (some (v3, ())))
def H_impl_ActivityIndex : Hd := ⟨[.st [.int .i64, .sl 99 (.st [.str, .int .i64, .sl 121 (.st [.int .i64, .sl 3 (.int .i64), .sl 3 (.int .i64)])]), .sl 38 (.st [.int .i64, .int .i64, .bool, .int .i64]), .sl 112 (.st [.sl 124 (.st [.int .i64, .int .i64]), .sl 25 (.sl 3 (.int .i64))]), .sl 3 (.int .i64)], .str], [], none, .p, .int .i64, .p, []⟩
def T_impl_ActivityIndex : FSig := ⟨H_impl_ActivityIndex.ps, H_impl_ActivityIndex.cs, H_impl_ActivityIndex.io, H_impl_ActivityIndex.im, H_impl_ActivityIndex.R, H_impl_ActivityIndex.m, impl_ActivityIndex⟩
theorem E_impl_ActivityIndex : fnOf tys [(99, T_slices_IndexFunc_impl_Activity_impl_Activity), (100, T_impl_ActivityIndex_1)] Tryd.f64 H_impl_ActivityIndex = T_impl_ActivityIndex := by kernel_rfl
theorem K_impl_ActivityIndex : SigB base_ Tryd.prog 64 T_impl_ActivityIndex := (congrArg (SigB base_ Tryd.prog 64) E_impl_ActivityIndex).mp (fnOf_ok rfl tysOk ⟨K_slices_IndexFunc_impl_Activity_impl_Activity, K_impl_ActivityIndex_1, trivial⟩ Tryd.func64 (by decide) rfl (fun _ h => by cases h) (nilEq_of (by kernel_rfl)))
def impl_isTime (x : (Int × Unit)) (c : Unit) : (Option (Bool × Unit)) :=
  (Option.bind ((Option.bind (impl_within (x.1, (0, (60, ()))) ()) fun v0 => (some v0.1)) : (Option Bool)) fun v1 => (some (v1, ())))
def H_impl_isTime : Hd := ⟨[.int .i64], [], none, .p, .bool, .p, []⟩
def T_impl_isTime : FSig := ⟨H_impl_isTime.ps, H_impl_isTime.cs, H_impl_isTime.io, H_impl_isTime.im, H_impl_isTime.R, H_impl_isTime.m, impl_isTime⟩
theorem E_impl_isTime : fnOf tys [(62, T_impl_within)] Tryd.f82 H_impl_isTime = T_impl_isTime := by kernel_rfl
theorem K_impl_isTime : SigB base_ Tryd.prog 82 T_impl_isTime := (congrArg (SigB base_ Tryd.prog 82) E_impl_isTime).mp (fnOf_ok rfl tysOk ⟨K_impl_within, trivial⟩ Tryd.func82 (by decide) rfl (fun _ h => by cases h) (nilEq_of (by kernel_rfl)))
def impl_StepsOk_L0 : (Int × (Int × ((List D_Step) × ((List D_Step) × Unit)))) → Option (Out (Int × (Int × ((List D_Step) × ((List D_Step) × Unit)))) ((Bool × (Int × (Int × ((List D_Step) × ((List D_Step) × Unit))))) ⊕ Empty) (Bool × Unit)) :=
  (fun v0 => (if (ltZ v0.1 v0.2.1) = true then (Option.bind (getI v0.2.2.1 v0.1) fun v1 => (Option.bind ((Option.bind (impl_isTime (v1.1, ()) ()) fun v2 => (some v2.1)) : (Option Bool)) fun v3 => (Option.bind ((if (notB v3) = true then (some (true, (v0.1, (v0.2.1, (v0.2.2.1, (v0.2.2.2.1, ())))))) else (Option.bind ((Option.bind (impl_isAmount (v1.2.1, ()) ()) fun v4 => (some v4.1)) : (Option Bool)) fun v5 => (Option.bind ((if (notB v5) = true then (some (true, (v0.1, (v0.2.1, (v0.2.2.1, (v0.2.2.2.1, ())))))) else (Option.bind ((if (eqZ v0.1 0) = true then (Option.bind ((if (notB (eqZ v1.1 0)) = true then (some (true, (v0.1, (v0.2.1, (v0.2.2.1, (v0.2.2.2.1, ())))))) else (Option.bind ((if (ltZ 0 v0.1) = true then (Option.bind (getI v0.2.2.2.1 (subZ .i64 v0.1 1)) fun v6 => (some ((leZ v1.1 v6.1), (v0.1, (v0.2.1, (v0.2.2.1, (v0.2.2.2.1, ()))))))) else (some (false, (v0.1, (v0.2.1, (v0.2.2.1, (v0.2.2.2.1, ()))))))) : (Option (Bool × (Int × (Int × ((List D_Step) × ((List D_Step) × Unit))))))) fun v7 => (some (v7.1, (v7.2.1, (v7.2.2.1, (v7.2.2.2.1, (v7.2.2.2.2.1, ())))))))) : (Option (Bool × (Int × (Int × ((List D_Step) × ((List D_Step) × Unit))))))) fun v8 => (some (v8.1, (v8.2.1, (v8.2.2.1, (v8.2.2.2.1, (v8.2.2.2.2.1, ()))))))) else (Option.bind ((if (ltZ 0 v0.1) = true then (Option.bind (getI v0.2.2.2.1 (subZ .i64 v0.1 1)) fun v9 => (some ((leZ v1.1 v9.1), (v0.1, (v0.2.1, (v0.2.2.1, (v0.2.2.2.1, ()))))))) else (some (false, (v0.1, (v0.2.1, (v0.2.2.1, (v0.2.2.2.1, ()))))))) : (Option (Bool × (Int × (Int × ((List D_Step) × ((List D_Step) × Unit))))))) fun v10 => (some (v10.1, (v10.2.1, (v10.2.2.1, (v10.2.2.2.1, (v10.2.2.2.2.1, ())))))))) : (Option (Bool × (Int × (Int × ((List D_Step) × ((List D_Step) × Unit))))))) fun v11 => (some (v11.1, (v11.2.1, (v11.2.2.1, (v11.2.2.2.1, (v11.2.2.2.2.1, ())))))))) : (Option (Bool × (Int × (Int × ((List D_Step) × ((List D_Step) × Unit))))))) fun v12 => (some (v12.1, (v12.2.1, (v12.2.2.1, (v12.2.2.2.1, (v12.2.2.2.2.1, ()))))))))) : (Option (Bool × (Int × (Int × ((List D_Step) × ((List D_Step) × Unit))))))) fun v13 => (if v13.1 = true then (some (Out.ret (false, ()))) else (some (Out.norm ((addZ .i64 v13.2.1 1), (v13.2.2.1, (v13.2.2.2.1, (v13.2.2.2.2.1, ())))))))))) else (some (Out.exit (Sum.inl ((ltZ v0.1 v0.2.1), (v0.1, (v0.2.1, (v0.2.2.1, (v0.2.2.2.1, ()))))))))))
def impl_StepsOk (x : ((List D_Step) × Unit)) (c : Unit) : (Option (Bool × Unit)) :=
  (Option.bind (loopN (A := (Int × (Int × ((List D_Step) × ((List D_Step) × Unit))))) big impl_StepsOk_L0 (0, ((lenI x.1), (x.1, (x.1, ()))))) fun v14 => (match v14 with | Out.norm v15 => none | Out.exit v16 => (match ((match v16 with | Sum.inl v21 => (Sum.inl (v21.2.2.2.2.1, ())) | Sum.inr v22 => (Empty.elim v22)) : (((List D_Step) × Unit) ⊕ Empty)) with | Sum.inl v17 => (Option.bind ((Option.bind (impl_within ((lenI v17.1), (1, (8, ()))) ()) fun v18 => (some v18.1)) : (Option Bool)) fun v19 => (some (v19, ()))) | Sum.inr v20 => none) | Out.ret v23 => (some v23)))
def H_impl_StepsOk : Hd := ⟨[.sl 124 (.st [.int .i64, .int .i64])], [], none, .p, .bool, .p, []⟩
def T_impl_StepsOk : FSig := ⟨H_impl_StepsOk.ps, H_impl_StepsOk.cs, H_impl_StepsOk.io, H_impl_StepsOk.im, H_impl_StepsOk.R, H_impl_StepsOk.m, impl_StepsOk⟩
theorem E_impl_StepsOk : fnOf tys [(62, T_impl_within), (82, T_impl_isTime), (119, T_impl_isAmount)] Tryd.f101 H_impl_StepsOk = T_impl_StepsOk := by kernel_rfl
theorem K_impl_StepsOk : SigB base_ Tryd.prog 101 T_impl_StepsOk := (congrArg (SigB base_ Tryd.prog 101) E_impl_StepsOk).mp (fnOf_ok rfl tysOk ⟨K_impl_within, K_impl_isTime, K_impl_isAmount, trivial⟩ Tryd.func101 (by decide) rfl (fun _ h => by cases h) (nilEq_of (by kernel_rfl)))
def impl_ResourceOk_L0 : (Int × (Int × ((List Int) × (Int × (Int × ((List (List Int)) × (D_Resource × Unit))))))) → Option (Out (Int × (Int × ((List Int) × (Int × (Int × ((List (List Int)) × (D_Resource × Unit))))))) ((Bool × (Int × (Int × ((List Int) × (Int × (Int × ((List (List Int)) × (D_Resource × Unit)))))))) ⊕ Empty) (Bool × Unit)) :=
  (fun v2 => (if (ltZ v2.1 v2.2.1) = true then (Option.bind (getI v2.2.2.1 v2.1) fun v3 => (Option.bind ((Option.bind (impl_within (v3, (0, (12, ()))) ()) fun v4 => (some v4.1)) : (Option Bool)) fun v5 => (if (notB v5) = true then (some (Out.ret (false, ()))) else (some (Out.norm ((addZ .i64 v2.1 1), (v2.2.1, (v2.2.2.1, (v2.2.2.2.1, (v2.2.2.2.2.1, (v2.2.2.2.2.2.1, (v2.2.2.2.2.2.2.1, ())))))))))))) else (some (Out.exit (Sum.inl ((ltZ v2.1 v2.2.1), (v2.1, (v2.2.1, (v2.2.2.1, (v2.2.2.2.1, (v2.2.2.2.2.1, (v2.2.2.2.2.2.1, (v2.2.2.2.2.2.2.1, ())))))))))))))
def impl_ResourceOk_L1 : (Int × (Int × ((List (List Int)) × (D_Resource × Unit)))) → Option (Out (Int × (Int × ((List (List Int)) × (D_Resource × Unit)))) ((Bool × (Int × (Int × ((List (List Int)) × (D_Resource × Unit))))) ⊕ Empty) (Bool × Unit)) :=
  (fun v0 => (if (ltZ v0.1 v0.2.1) = true then (Option.bind (getI v0.2.2.1 v0.1) fun v1 => (if (notB (eqZ (lenI v1) 4)) = true then (some (Out.ret (false, ()))) else (Option.bind (loopN (A := (Int × (Int × ((List Int) × (Int × (Int × ((List (List Int)) × (D_Resource × Unit)))))))) big impl_ResourceOk_L0 (0, ((lenI v1), (v1, (v0.1, (v0.2.1, (v0.2.2.1, (v0.2.2.2.1, ())))))))) fun v6 => (match v6 with | Out.norm v7 => none | Out.exit v8 => (match ((match v8 with | Sum.inl v13 => (Sum.inl (v13.2.2.2.2.1, (v13.2.2.2.2.2.1, (v13.2.2.2.2.2.2.1, (v13.2.2.2.2.2.2.2.1, ()))))) | Sum.inr v14 => (Empty.elim v14)) : ((Int × (Int × ((List (List Int)) × (D_Resource × Unit)))) ⊕ Empty)) with | Sum.inl v9 => (some (Out.norm ((addZ .i64 v9.1 1), (v9.2.1, (v9.2.2.1, (v9.2.2.2.1, ())))))) | Sum.inr v10 => (match ((Empty.elim v10) : ((Int × (Int × ((List (List Int)) × (D_Resource × Unit)))) ⊕ Empty)) with | Sum.inl v11 => (some (Out.norm ((addZ .i64 v11.1 1), (v11.2.1, (v11.2.2.1, (v11.2.2.2.1, ())))))) | Sum.inr v12 => (some (Out.exit (Sum.inr (Empty.elim v12)))))) | Out.ret v15 => (some (Out.ret v15)))))) else (some (Out.exit (Sum.inl ((ltZ v0.1 v0.2.1), (v0.1, (v0.2.1, (v0.2.2.1, (v0.2.2.2.1, ()))))))))))
def impl_ResourceOk (x : (D_Resource × Unit)) (c : Unit) : (Option (Bool × Unit)) :=
  (Option.bind (loopN (A := (Int × (Int × ((List (List Int)) × (D_Resource × Unit))))) big impl_ResourceOk_L1 (0, ((lenI x.1.2.1), (x.1.2.1, (x.1, ()))))) fun v16 => (match v16 with | Out.norm v17 => none | Out.exit v18 => (match ((match v18 with | Sum.inl v25 => (Sum.inl (v25.2.2.2.2.1, ())) | Sum.inr v26 => (Empty.elim v26)) : ((D_Resource × Unit) ⊕ Empty)) with | Sum.inl v19 => (Option.bind ((Option.bind (impl_StepsOk (v19.1.1, ()) ()) fun v20 => (some v20.1)) : (Option Bool)) fun v21 => (Option.bind ((if v21 = true then (Option.bind ((if (eqZ (lenI v19.1.2.1) 0) = true then (some (true, ())) else (some ((eqZ (lenI v19.1.2.1) 4), ()))) : (Option (Bool × Unit))) fun v22 => (some (v22.1, ()))) else (some (false, ()))) : (Option (Bool × Unit))) fun v23 => (some (v23.1, ())))) | Sum.inr v24 => none) | Out.ret v27 => (some v27)))
def H_impl_ResourceOk : Hd := ⟨[.st [.sl 124 (.st [.int .i64, .int .i64]), .sl 25 (.sl 3 (.int .i64))]], [], none, .p, .bool, .p, []⟩
def T_impl_ResourceOk : FSig := ⟨H_impl_ResourceOk.ps, H_impl_ResourceOk.cs, H_impl_ResourceOk.io, H_impl_ResourceOk.im, H_impl_ResourceOk.R, H_impl_ResourceOk.m, impl_ResourceOk⟩
theorem E_impl_ResourceOk : fnOf tys [(62, T_impl_within), (101, T_impl_StepsOk)] Tryd.f65 H_impl_ResourceOk = T_impl_ResourceOk := by kernel_rfl
theorem K_impl_ResourceOk : SigB base_ Tryd.prog 65 T_impl_ResourceOk := (congrArg (SigB base_ Tryd.prog 65) E_impl_ResourceOk).mp (fnOf_ok rfl tysOk ⟨K_impl_within, K_impl_StepsOk, trivial⟩ Tryd.func65 (by decide) rfl (fun _ h => by cases h) (nilEq_of (by kernel_rfl)))
def slices_IndexFunc_impl_Link_impl_Link_L0 : (Int × (Int × (((D_Link × Unit) → (Option Bool)) × ((List D_Link) × Unit)))) → Option (Out (Int × (Int × (((D_Link × Unit) → (Option Bool)) × ((List D_Link) × Unit)))) ((Bool × (Int × (Int × (((D_Link × Unit) → (Option Bool)) × ((List D_Link) × Unit))))) ⊕ Empty) (Int × Unit)) :=
  (fun v0 => (if (ltZ v0.1 v0.2.1) = true then (Option.bind (getI v0.2.2.2.1 v0.1) fun v1 => (Option.bind (v0.2.2.1 (v1, ())) fun v2 => (if v2 = true then (some (Out.ret (v0.1, ()))) else (some (Out.norm ((addZ .i64 v0.1 1), (v0.2.1, (v0.2.2.1, (v0.2.2.2.1, ()))))))))) else (some (Out.exit (Sum.inl ((ltZ v0.1 v0.2.1), (v0.1, (v0.2.1, (v0.2.2.1, (v0.2.2.2.1, ()))))))))))
def slices_IndexFunc_impl_Link_impl_Link (x : ((List D_Link) × (((D_Link × Unit) → (Option Bool)) × Unit))) (c : Unit) : (Option (Int × Unit)) :=
  (Option.bind (loopN (A := (Int × (Int × (((D_Link × Unit) → (Option Bool)) × ((List D_Link) × Unit))))) big slices_IndexFunc_impl_Link_impl_Link_L0 (0, ((lenI x.1), (x.2.1, (x.1, ()))))) fun v3 => (match v3 with | Out.norm v4 => none | Out.exit v5 => (match ((match v5 with | Sum.inl v8 => (Sum.inl ()) | Sum.inr v9 => (Empty.elim v9)) : (Unit ⊕ Empty)) with | Sum.inl v6 => (some ((-1), ())) | Sum.inr v7 => none) | Out.ret v10 => (some v10)))
def H_slices_IndexFunc_impl_Link_impl_Link : Hd := ⟨[.sl 38 (.st [.int .i64, .int .i64, .bool, .int .i64]), .fn [.st [.int .i64, .int .i64, .bool, .int .i64]] (.bool)], [], none, .p, .int .i64, .p, []⟩
def T_slices_IndexFunc_impl_Link_impl_Link : FSig := ⟨H_slices_IndexFunc_impl_Link_impl_Link.ps, H_slices_IndexFunc_impl_Link_impl_Link.cs, H_slices_IndexFunc_impl_Link_impl_Link.io, H_slices_IndexFunc_impl_Link_impl_Link.im, H_slices_IndexFunc_impl_Link_impl_Link.R, H_slices_IndexFunc_impl_Link_impl_Link.m, slices_IndexFunc_impl_Link_impl_Link⟩
theorem E_slices_IndexFunc_impl_Link_impl_Link : fnOf tys [] Tryd.f102 H_slices_IndexFunc_impl_Link_impl_Link = T_slices_IndexFunc_impl_Link_impl_Link := by kernel_rfl
theorem K_slices_IndexFunc_impl_Link_impl_Link : SigB base_ Tryd.prog 102 T_slices_IndexFunc_impl_Link_impl_Link := (congrArg (SigB base_ Tryd.prog 102) E_slices_IndexFunc_impl_Link_impl_Link).mp (fnOf_ok rfl tysOk trivial Tryd.func102 (by decide) rfl (fun _ h => by cases h) (nilEq_of (by kernel_rfl)))
def slices_ContainsFunc_impl_Link_impl_Link (x : ((List D_Link) × (((D_Link × Unit) → (Option Bool)) × Unit))) (c : Unit) : (Option (Bool × Unit)) :=
  (Option.bind ((Option.bind (slices_IndexFunc_impl_Link_impl_Link (x.1, (x.2.1, ())) ()) fun v0 => (some v0.1)) : (Option Int)) fun v1 => (some ((leZ 0 v1), ())))
def H_slices_ContainsFunc_impl_Link_impl_Link : Hd := ⟨[.sl 38 (.st [.int .i64, .int .i64, .bool, .int .i64]), .fn [.st [.int .i64, .int .i64, .bool, .int .i64]] (.bool)], [], none, .p, .bool, .p, []⟩
def T_slices_ContainsFunc_impl_Link_impl_Link : FSig := ⟨H_slices_ContainsFunc_impl_Link_impl_Link.ps, H_slices_ContainsFunc_impl_Link_impl_Link.cs, H_slices_ContainsFunc_impl_Link_impl_Link.io, H_slices_ContainsFunc_impl_Link_impl_Link.im, H_slices_ContainsFunc_impl_Link_impl_Link.R, H_slices_ContainsFunc_impl_Link_impl_Link.m, slices_ContainsFunc_impl_Link_impl_Link⟩
theorem E_slices_ContainsFunc_impl_Link_impl_Link : fnOf tys [(102, T_slices_IndexFunc_impl_Link_impl_Link)] Tryd.f66 H_slices_ContainsFunc_impl_Link_impl_Link = T_slices_ContainsFunc_impl_Link_impl_Link := by kernel_rfl
theorem K_slices_ContainsFunc_impl_Link_impl_Link : SigB base_ Tryd.prog 66 T_slices_ContainsFunc_impl_Link_impl_Link := (congrArg (SigB base_ Tryd.prog 66) E_slices_ContainsFunc_impl_Link_impl_Link).mp (fnOf_ok rfl tysOk ⟨K_slices_IndexFunc_impl_Link_impl_Link, trivial⟩ Tryd.func66 (by decide) rfl (fun _ h => by cases h) (nilEq_of (by kernel_rfl)))
def impl_Project_hasActivity (x : (D_Project × (Int × Unit))) (c : Unit) : (Option (Bool × Unit)) :=
  (Option.bind ((Option.bind (impl_within (x.2.1, (0, ((subZ .i64 (lenI x.1.2.1) 1), ()))) ()) fun v0 => (some v0.1)) : (Option Bool)) fun v1 => (some (v1, ())))
def H_impl_Project_hasActivity : Hd := ⟨[.st [.int .i64, .sl 99 (.st [.str, .int .i64, .sl 121 (.st [.int .i64, .sl 3 (.int .i64), .sl 3 (.int .i64)])]), .sl 38 (.st [.int .i64, .int .i64, .bool, .int .i64]), .sl 112 (.st [.sl 124 (.st [.int .i64, .int .i64]), .sl 25 (.sl 3 (.int .i64))]), .sl 3 (.int .i64)], .int .i64], [], none, .p, .bool, .p, []⟩
def T_impl_Project_hasActivity : FSig := ⟨H_impl_Project_hasActivity.ps, H_impl_Project_hasActivity.cs, H_impl_Project_hasActivity.io, H_impl_Project_hasActivity.im, H_impl_Project_hasActivity.R, H_impl_Project_hasActivity.m, impl_Project_hasActivity⟩
theorem E_impl_Project_hasActivity : fnOf tys [(62, T_impl_within)] Tryd.f83 H_impl_Project_hasActivity = T_impl_Project_hasActivity := by kernel_rfl
theorem K_impl_Project_hasActivity : SigB base_ Tryd.prog 83 T_impl_Project_hasActivity := (congrArg (SigB base_ Tryd.prog 83) E_impl_Project_hasActivity).mp (fnOf_ok rfl tysOk ⟨K_impl_within, trivial⟩ Tryd.func83 (by decide) rfl (fun _ h => by cases h) (nilEq_of (by kernel_rfl)))
def impl_Project_linkOk (x : (D_Project × (D_Link × Unit))) (c : Unit) : (Option (Bool × Unit)) :=
  (Option.bind ((Option.bind (impl_Project_hasActivity (x.1, (x.2.1.1, ())) ()) fun v0 => (some v0.1)) : (Option Bool)) fun v1 => (Option.bind ((if v1 = true then (Option.bind ((Option.bind (impl_Project_hasActivity (x.1, (x.2.1.2.1, ())) ()) fun v2 => (some v2.1)) : (Option Bool)) fun v3 => (Option.bind ((if v3 = true then (Option.bind ((if (notB (eqZ x.2.1.1 x.2.1.2.1)) = true then (Option.bind ((Option.bind (impl_within (x.2.1.2.2.2.1, ((-60), (60, ()))) ()) fun v4 => (some v4.1)) : (Option Bool)) fun v5 => (some (v5, ()))) else (some (false, ()))) : (Option (Bool × Unit))) fun v6 => (some (v6.1, ()))) else (some (false, ()))) : (Option (Bool × Unit))) fun v7 => (some (v7.1, ())))) else (some (false, ()))) : (Option (Bool × Unit))) fun v8 => (some (v8.1, ()))))
def H_impl_Project_linkOk : Hd := ⟨[.st [.int .i64, .sl 99 (.st [.str, .int .i64, .sl 121 (.st [.int .i64, .sl 3 (.int .i64), .sl 3 (.int .i64)])]), .sl 38 (.st [.int .i64, .int .i64, .bool, .int .i64]), .sl 112 (.st [.sl 124 (.st [.int .i64, .int .i64]), .sl 25 (.sl 3 (.int .i64))]), .sl 3 (.int .i64)], .st [.int .i64, .int .i64, .bool, .int .i64]], [], none, .p, .bool, .p, []⟩
def T_impl_Project_linkOk : FSig := ⟨H_impl_Project_linkOk.ps, H_impl_Project_linkOk.cs, H_impl_Project_linkOk.io, H_impl_Project_linkOk.im, H_impl_Project_linkOk.R, H_impl_Project_linkOk.m, impl_Project_linkOk⟩
theorem E_impl_Project_linkOk : fnOf tys [(62, T_impl_within), (83, T_impl_Project_hasActivity)] Tryd.f68 H_impl_Project_linkOk = T_impl_Project_linkOk := by kernel_rfl
theorem K_impl_Project_linkOk : SigB base_ Tryd.prog 68 T_impl_Project_linkOk := (congrArg (SigB base_ Tryd.prog 68) E_impl_Project_linkOk).mp (fnOf_ok rfl tysOk ⟨K_impl_within, K_impl_Project_hasActivity, trivial⟩ Tryd.func68 (by decide) rfl (fun _ h => by cases h) (nilEq_of (by kernel_rfl)))
def impl_ProjectOk_1 (x : (D_Link × Unit)) (c : (D_Project × Unit)) : (Option (Bool × Unit)) :=
  (Option.bind ((Option.bind (impl_Project_linkOk (c.1, (x.1, ())) ()) fun v0 => (some v0.1)) : (Option Bool)) fun v1 => (some ((notB v1), ())))
def H_impl_ProjectOk_1 : Hd := ⟨[.st [.int .i64, .int .i64, .bool, .int .i64]], [.st [.int .i64, .sl 99 (.st [.str, .int .i64, .sl 121 (.st [.int .i64, .sl 3 (.int .i64), .sl 3 (.int .i64)])]), .sl 38 (.st [.int .i64, .int .i64, .bool, .int .i64]), .sl 112 (.st [.sl 124 (.st [.int .i64, .int .i64]), .sl 25 (.sl 3 (.int .i64))]), .sl 3 (.int .i64)]], none, .p, .bool, .p, []⟩
def T_impl_ProjectOk_1 : FSig := ⟨H_impl_ProjectOk_1.ps, H_impl_ProjectOk_1.cs, H_impl_ProjectOk_1.io, H_impl_ProjectOk_1.im, H_impl_ProjectOk_1.R, H_impl_ProjectOk_1.m, impl_ProjectOk_1⟩
theorem E_impl_ProjectOk_1 : fnOf tys [(68, T_impl_Project_linkOk)] Tryd.f67 H_impl_ProjectOk_1 = T_impl_ProjectOk_1 := by kernel_rfl
theorem K_impl_ProjectOk_1 : SigB base_ Tryd.prog 67 T_impl_ProjectOk_1 := (congrArg (SigB base_ Tryd.prog 67) E_impl_ProjectOk_1).mp (fnOf_ok rfl tysOk ⟨K_impl_Project_linkOk, trivial⟩ Tryd.func67 (by decide) rfl (fun _ h => by cases h) (nilEq_of (by kernel_rfl)))
def impl_ProjectOk_L0 : (Int × (Int × ((List D_Activity) × (D_Project × Unit)))) → Option (Out (Int × (Int × ((List D_Activity) × (D_Project × Unit)))) ((Bool × (Int × (Int × ((List D_Activity) × (D_Project × Unit))))) ⊕ Empty) (Bool × Unit)) :=
  (fun v8 => (if (ltZ v8.1 v8.2.1) = true then (Option.bind (getI v8.2.2.1 v8.1) fun v9 => (Option.bind ((Option.bind (impl_ActivityOk (v9, ((lenI v8.2.2.2.1.2.2.2.1), ((lenI v8.2.2.2.1.2.2.2.2.1), ()))) ()) fun v10 => (some v10.1)) : (Option Bool)) fun v11 => (Option.bind ((if (notB v11) = true then (some (true, (v8.1, (v8.2.1, (v8.2.2.1, (v8.2.2.2.1, ())))))) else (Option.bind ((Option.bind (impl_ActivityIndex (v8.2.2.2.1, (v9.1, ())) ()) fun v12 => (some v12.1)) : (Option Int)) fun v13 => (some ((notB (eqZ v13 v8.1)), (v8.1, (v8.2.1, (v8.2.2.1, (v8.2.2.2.1, ())))))))) : (Option (Bool × (Int × (Int × ((List D_Activity) × (D_Project × Unit))))))) fun v14 => (if v14.1 = true then (some (Out.ret (false, ()))) else (some (Out.norm ((addZ .i64 v14.2.1 1), (v14.2.2.1, (v14.2.2.2.1, (v14.2.2.2.2.1, ())))))))))) else (some (Out.exit (Sum.inl ((ltZ v8.1 v8.2.1), (v8.1, (v8.2.1, (v8.2.2.1, (v8.2.2.2.1, ()))))))))))
def impl_ProjectOk_L1 : (Int × (Int × ((List D_Resource) × (D_Project × Unit)))) → Option (Out (Int × (Int × ((List D_Resource) × (D_Project × Unit)))) ((Bool × (Int × (Int × ((List D_Resource) × (D_Project × Unit))))) ⊕ Empty) (Bool × Unit)) :=
  (fun v19 => (if (ltZ v19.1 v19.2.1) = true then (Option.bind (getI v19.2.2.1 v19.1) fun v20 => (Option.bind ((Option.bind (impl_ResourceOk (v20, ()) ()) fun v21 => (some v21.1)) : (Option Bool)) fun v22 => (if (notB v22) = true then (some (Out.ret (false, ()))) else (some (Out.norm ((addZ .i64 v19.1 1), (v19.2.1, (v19.2.2.1, (v19.2.2.2.1, ()))))))))) else (some (Out.exit (Sum.inl ((ltZ v19.1 v19.2.1), (v19.1, (v19.2.1, (v19.2.2.1, (v19.2.2.2.1, ()))))))))))
def impl_ProjectOk_L2 : (Int × (Int × ((List Int) × (D_Project × Unit)))) → Option (Out (Int × (Int × ((List Int) × (D_Project × Unit)))) ((Bool × (Int × (Int × ((List Int) × (D_Project × Unit))))) ⊕ Empty) (Bool × Unit)) :=
  (fun v27 => (if (ltZ v27.1 v27.2.1) = true then (Option.bind (getI v27.2.2.1 v27.1) fun v28 => (Option.bind ((Option.bind (impl_within (v28, (0, (100, ()))) ()) fun v29 => (some v29.1)) : (Option Bool)) fun v30 => (if (notB v30) = true then (some (Out.ret (false, ()))) else (some (Out.norm ((addZ .i64 v27.1 1), (v27.2.1, (v27.2.2.1, (v27.2.2.2.1, ()))))))))) else (some (Out.exit (Sum.inl ((ltZ v27.1 v27.2.1), (v27.1, (v27.2.1, (v27.2.2.1, (v27.2.2.2.1, ()))))))))))
def impl_ProjectOk (x : (D_Project × Unit)) (c : Unit) : (Option (Bool × Unit)) :=
  (Option.bind ((Option.bind (impl_within (x.1.1, (1, (60, ()))) ()) fun v0 => (some v0.1)) : (Option Bool)) fun v1 => (Option.bind ((if (notB v1) = true then (some (true, (x.1, ()))) else (Option.bind ((Option.bind (impl_within ((lenI x.1.2.1), (1, (6, ()))) ()) fun v2 => (some v2.1)) : (Option Bool)) fun v3 => (Option.bind ((if (notB v3) = true then (some (true, (x.1, ()))) else (Option.bind ((if (ltZ 3 (lenI x.1.2.2.2.1)) = true then (some (true, (x.1, ()))) else (Option.bind ((if (ltZ 2 (lenI x.1.2.2.2.2.1)) = true then (some (true, (x.1, ()))) else (some ((ltZ 12 (lenI x.1.2.2.1)), (x.1, ())))) : (Option (Bool × (D_Project × Unit)))) fun v4 => (some (v4.1, (v4.2.1, ()))))) : (Option (Bool × (D_Project × Unit)))) fun v5 => (some (v5.1, (v5.2.1, ()))))) : (Option (Bool × (D_Project × Unit)))) fun v6 => (some (v6.1, (v6.2.1, ())))))) : (Option (Bool × (D_Project × Unit)))) fun v7 => (if v7.1 = true then (some (false, ())) else (Option.bind (loopN (A := (Int × (Int × ((List D_Activity) × (D_Project × Unit))))) big impl_ProjectOk_L0 (0, ((lenI v7.2.1.2.1), (v7.2.1.2.1, (v7.2.1, ()))))) fun v15 => (match v15 with | Out.norm v16 => none | Out.exit v17 => (match ((match v17 with | Sum.inl v48 => (Sum.inl (v48.2.2.2.2.1, ())) | Sum.inr v49 => (Empty.elim v49)) : ((D_Project × Unit) ⊕ Empty)) with | Sum.inl v18 => (Option.bind (loopN (A := (Int × (Int × ((List D_Resource) × (D_Project × Unit))))) big impl_ProjectOk_L1 (0, ((lenI v18.1.2.2.2.1), (v18.1.2.2.2.1, (v18.1, ()))))) fun v23 => (match v23 with | Out.norm v24 => none | Out.exit v25 => (match ((match v25 with | Sum.inl v44 => (Sum.inl (v44.2.2.2.2.1, ())) | Sum.inr v45 => (Empty.elim v45)) : ((D_Project × Unit) ⊕ Empty)) with | Sum.inl v26 => (Option.bind (loopN (A := (Int × (Int × ((List Int) × (D_Project × Unit))))) big impl_ProjectOk_L2 (0, ((lenI v26.1.2.2.2.2.1), (v26.1.2.2.2.2.1, (v26.1, ()))))) fun v31 => (match v31 with | Out.norm v32 => none | Out.exit v33 => (match ((match v33 with | Sum.inl v40 => (Sum.inl (v40.2.2.2.2.1, ())) | Sum.inr v41 => (Empty.elim v41)) : ((D_Project × Unit) ⊕ Empty)) with | Sum.inl v34 => (Option.bind ((Option.bind (slices_ContainsFunc_impl_Link_impl_Link (v34.1.2.2.1, ((fun v35 => (Option.bind (impl_ProjectOk_1 v35 (v34.1, ())) fun v36 => (some v36.1))), ())) ()) fun v37 => (some v37.1)) : (Option Bool)) fun v38 => (some ((notB v38), ()))) | Sum.inr v39 => none) | Out.ret v42 => (some v42))) | Sum.inr v43 => none) | Out.ret v46 => (some v46))) | Sum.inr v47 => none) | Out.ret v50 => (some v50))))))
def H_impl_ProjectOk : Hd := ⟨[.st [.int .i64, .sl 99 (.st [.str, .int .i64, .sl 121 (.st [.int .i64, .sl 3 (.int .i64), .sl 3 (.int .i64)])]), .sl 38 (.st [.int .i64, .int .i64, .bool, .int .i64]), .sl 112 (.st [.sl 124 (.st [.int .i64, .int .i64]), .sl 25 (.sl 3 (.int .i64))]), .sl 3 (.int .i64)]], [], none, .p, .bool, .p, []⟩
def T_impl_ProjectOk : FSig := ⟨H_impl_ProjectOk.ps, H_impl_ProjectOk.cs, H_impl_ProjectOk.io, H_impl_ProjectOk.im, H_impl_ProjectOk.R, H_impl_ProjectOk.m, impl_ProjectOk⟩
theorem E_impl_ProjectOk : fnOf tys [(62, T_impl_within), (63, T_impl_ActivityOk), (64, T_impl_ActivityIndex), (65, T_impl_ResourceOk), (66, T_slices_ContainsFunc_impl_Link_impl_Link), (67, T_impl_ProjectOk_1)] Tryd.f32 H_impl_ProjectOk = T_impl_ProjectOk := by kernel_rfl
theorem K_impl_ProjectOk : SigB base_ Tryd.prog 32 T_impl_ProjectOk := (congrArg (SigB base_ Tryd.prog 32) E_impl_ProjectOk).mp (fnOf_ok rfl tysOk ⟨K_impl_within, K_impl_ActivityOk, K_impl_ActivityIndex, K_impl_ResourceOk, K_slices_ContainsFunc_impl_Link_impl_Link, K_impl_ProjectOk_1, trivial⟩ Tryd.func32 (by decide) rfl (fun _ h => by cases h) (nilEq_of (by kernel_rfl)))
def H_strconv_Itoa : Hd := ⟨[.int .i64], [], none, .p, .str, .p, []⟩
def strconv_Itoa : (Int × Unit) → Unit → Option (List UInt8 × Unit) := itoaF
def T_strconv_Itoa : FSig := ⟨H_strconv_Itoa.ps, H_strconv_Itoa.cs, H_strconv_Itoa.io, H_strconv_Itoa.im, H_strconv_Itoa.R, H_strconv_Itoa.m, strconv_Itoa⟩
theorem K_strconv_Itoa : SigB base_ Tryd.prog 78 T_strconv_Itoa := itoa_ok ⟨Tryd.f78, Tryd.func78, by decide, rfl⟩ base_tab (fun n h0 h1 w h => Any.strconv_Itoa Tryd.laysM171 n h0 h1 w (tab_cast h (by kernel_rfl)))
def impl_FormatInt (x : (Int × Unit)) (c : Unit) : (Option ((List UInt8) × Unit)) :=
  (Option.bind ((Option.bind (impl_within (x.1, ((-100000), (100000, ()))) ()) fun v0 => (some v0.1)) : (Option Bool)) fun v1 => (if (notB v1) = true then (some ([], ())) else (Option.bind ((Option.bind (strconv_Itoa (x.1, ()) ()) fun v2 => (some v2.1)) : (Option (List UInt8))) fun v3 => (some (v3, ())))))
def H_impl_FormatInt : Hd := ⟨[.int .i64], [], none, .p, .str, .p, []⟩
def T_impl_FormatInt : FSig := ⟨H_impl_FormatInt.ps, H_impl_FormatInt.cs, H_impl_FormatInt.io, H_impl_FormatInt.im, H_impl_FormatInt.R, H_impl_FormatInt.m, impl_FormatInt⟩
theorem E_impl_FormatInt : fnOf tys [(62, T_impl_within), (78, T_strconv_Itoa)] Tryd.f43 H_impl_FormatInt = T_impl_FormatInt := by kernel_rfl
theorem K_impl_FormatInt : SigB base_ Tryd.prog 43 T_impl_FormatInt := (congrArg (SigB base_ Tryd.prog 43) E_impl_FormatInt).mp (fnOf_ok rfl tysOk ⟨K_impl_within, K_strconv_Itoa, trivial⟩ Tryd.func43 (by decide) rfl (fun _ h => by cases h) (nilEq_of (by kernel_rfl)))
def impl_Project_linkText (x : (D_Project × (D_Link × Unit))) (c : Unit) : (Option ((List UInt8) × Unit)) :=
  (Option.bind ((if x.2.1.2.2.1 = true then (some (Out.norm (([101, 110, 100] : List UInt8), (x.1, (x.2.1, ()))))) else (some (Out.norm (([115, 116, 97, 114, 116] : List UInt8), (x.1, (x.2.1, ())))))) : (Option (Out ((List UInt8) × (D_Project × (D_Link × Unit))) Empty ((List UInt8) × Unit)))) fun v0 => (match ((match v0 with | Out.norm v14 => (Out.norm v14) | Out.exit v15 => (Out.exit v15) | Out.ret v16 => (Out.ret v16)) : (Out ((List UInt8) × (D_Project × (D_Link × Unit))) Empty ((List UInt8) × Unit))) with | Out.norm v1 => (Option.bind (addI v1.1 ([32] : List UInt8)) fun v2 => (Option.bind (getI v1.2.1.2.1 v1.2.2.1.1) fun v3 => (Option.bind (addI v2 v3.1) fun v4 => (Option.bind (addI v4 ([32] : List UInt8)) fun v5 => (Option.bind (getI v1.2.1.2.1 v1.2.2.1.2.1) fun v6 => (Option.bind (addI v5 v6.1) fun v7 => (Option.bind (addI v7 ([32] : List UInt8)) fun v8 => (Option.bind ((Option.bind (impl_FormatInt (v1.2.2.1.2.2.2.1, ()) ()) fun v9 => (some v9.1)) : (Option (List UInt8))) fun v10 => (Option.bind (addI v8 v10) fun v11 => (some (v11, ()))))))))))) | Out.exit v12 => none | Out.ret v13 => (some v13)))
def H_impl_Project_linkText : Hd := ⟨[.st [.int .i64, .sl 99 (.st [.str, .int .i64, .sl 121 (.st [.int .i64, .sl 3 (.int .i64), .sl 3 (.int .i64)])]), .sl 38 (.st [.int .i64, .int .i64, .bool, .int .i64]), .sl 112 (.st [.sl 124 (.st [.int .i64, .int .i64]), .sl 25 (.sl 3 (.int .i64))]), .sl 3 (.int .i64)], .st [.int .i64, .int .i64, .bool, .int .i64]], [], none, .p, .str, .p, []⟩
def T_impl_Project_linkText : FSig := ⟨H_impl_Project_linkText.ps, H_impl_Project_linkText.cs, H_impl_Project_linkText.io, H_impl_Project_linkText.im, H_impl_Project_linkText.R, H_impl_Project_linkText.m, impl_Project_linkText⟩
theorem E_impl_Project_linkText : fnOf tys [(43, T_impl_FormatInt)] Tryd.f33 H_impl_Project_linkText = T_impl_Project_linkText := by kernel_rfl
theorem K_impl_Project_linkText : SigB base_ Tryd.prog 33 T_impl_Project_linkText := (congrArg (SigB base_ Tryd.prog 33) E_impl_Project_linkText).mp (fnOf_ok rfl tysOk ⟨K_impl_FormatInt, trivial⟩ Tryd.func33 (by decide) rfl (fun _ h => by cases h) (nilEq_of (by kernel_rfl)))
def impl_FormatLink (x : (D_Project × (D_Link × Unit))) (c : Unit) : (Option ((List UInt8) × Unit)) :=
  (Option.bind ((Option.bind (impl_Project_copied (x.1, ()) ()) fun v0 => (some v0.1)) : (Option D_Project)) fun v1 => (Option.bind (addI v1.2.2.1 (x.2.1 :: [])) fun v2 => (Option.bind ((Option.bind (impl_ProjectOk ((v1.1, (v1.2.1, (v2, v1.2.2.2))), ()) ()) fun v3 => (some v3.1)) : (Option Bool)) fun v4 => (if (notB v4) = true then (some ([], ())) else (Option.bind ((Option.bind (impl_Project_linkText (x.1, (x.2.1, ())) ()) fun v5 => (some v5.1)) : (Option (List UInt8))) fun v6 => (some (v6, ())))))))
def H_impl_FormatLink : Hd := ⟨[.st [.int .i64, .sl 99 (.st [.str, .int .i64, .sl 121 (.st [.int .i64, .sl 3 (.int .i64), .sl 3 (.int .i64)])]), .sl 38 (.st [.int .i64, .int .i64, .bool, .int .i64]), .sl 112 (.st [.sl 124 (.st [.int .i64, .int .i64]), .sl 25 (.sl 3 (.int .i64))]), .sl 3 (.int .i64)], .st [.int .i64, .int .i64, .bool, .int .i64]], [], none, .p, .str, .p, []⟩
def T_impl_FormatLink : FSig := ⟨H_impl_FormatLink.ps, H_impl_FormatLink.cs, H_impl_FormatLink.io, H_impl_FormatLink.im, H_impl_FormatLink.R, H_impl_FormatLink.m, impl_FormatLink⟩
theorem E_impl_FormatLink : fnOf tys [(31, T_impl_Project_copied), (32, T_impl_ProjectOk), (33, T_impl_Project_linkText)] Tryd.f10 H_impl_FormatLink = T_impl_FormatLink := by kernel_rfl
theorem K_impl_FormatLink : SigB base_ Tryd.prog 10 T_impl_FormatLink := (congrArg (SigB base_ Tryd.prog 10) E_impl_FormatLink).mp (fnOf_ok rfl tysOk ⟨K_impl_Project_copied, K_impl_ProjectOk, K_impl_Project_linkText, trivial⟩ Tryd.func10 (by decide) rfl (fun _ h => by cases h) (nilEq_of (by kernel_rfl)))
def laws_eqIntS_L0 : D_Mode → Option (Out D_Mode ((Bool × D_Mode) ⊕ Empty) (Bool × Unit)) :=
  (fun v0 => (if (ltZ v0.1 (lenI v0.2.1)) = true then (Option.bind (getI v0.2.1 v0.1) fun v1 => (Option.bind (getI v0.2.2.1 v0.1) fun v2 => (if (notB (eqZ v1 v2)) = true then (some (Out.ret (false, ()))) else (some (Out.norm ((addZ .i64 v0.1 1), (v0.2.1, (v0.2.2.1, ())))))))) else (some (Out.exit (Sum.inl ((ltZ v0.1 (lenI v0.2.1)), (v0.1, (v0.2.1, (v0.2.2.1, ())))))))))
def laws_eqIntS (x : ((List Int) × ((List Int) × Unit))) (c : Unit) : (Option (Bool × Unit)) :=
  (if (notB (eqZ (lenI x.1) (lenI x.2.1))) = true then (some (false, ())) else (Option.bind (loopN (A := D_Mode) big laws_eqIntS_L0 (0, (x.1, (x.2.1, ())))) fun v3 => (match v3 with | Out.norm v4 => none | Out.exit v5 => (match ((match v5 with | Sum.inl v8 => (Sum.inl ()) | Sum.inr v9 => (Empty.elim v9)) : (Unit ⊕ Empty)) with | Sum.inl v6 => (some (true, ())) | Sum.inr v7 => none) | Out.ret v10 => (some v10))))
def H_laws_eqIntS : Hd := ⟨[.sl 3 (.int .i64), .sl 3 (.int .i64)], [], none, .p, .bool, .p, []⟩
def T_laws_eqIntS : FSig := ⟨H_laws_eqIntS.ps, H_laws_eqIntS.cs, H_laws_eqIntS.io, H_laws_eqIntS.im, H_laws_eqIntS.R, H_laws_eqIntS.m, laws_eqIntS⟩
theorem E_laws_eqIntS : fnOf tys [] Tryd.f37 H_laws_eqIntS = T_laws_eqIntS := by kernel_rfl
theorem K_laws_eqIntS : SigB base_ Tryd.prog 37 T_laws_eqIntS := (congrArg (SigB base_ Tryd.prog 37) E_laws_eqIntS).mp (fnOf_ok rfl tysOk trivial Tryd.func37 (by decide) rfl (fun _ h => by cases h) (nilEq_of (by kernel_rfl)))
def laws_eqMode (x : (D_Mode × (D_Mode × Unit))) (c : Unit) : (Option (Bool × Unit)) :=
  (if (notB (eqZ x.1.1 x.2.1.1)) = true then (some (false, ())) else (Option.bind ((Option.bind (laws_eqIntS (x.1.2.1, (x.2.1.2.1, ())) ()) fun v0 => (some v0.1)) : (Option Bool)) fun v1 => (if (notB v1) = true then (some (false, ())) else (Option.bind ((Option.bind (laws_eqIntS (x.1.2.2.1, (x.2.1.2.2.1, ())) ()) fun v2 => (some v2.1)) : (Option Bool)) fun v3 => (if (notB v3) = true then (some (false, ())) else (some (true, ())))))))
def H_laws_eqMode : Hd := ⟨[.st [.int .i64, .sl 3 (.int .i64), .sl 3 (.int .i64)], .st [.int .i64, .sl 3 (.int .i64), .sl 3 (.int .i64)]], [], none, .p, .bool, .p, []⟩
def T_laws_eqMode : FSig := ⟨H_laws_eqMode.ps, H_laws_eqMode.cs, H_laws_eqMode.io, H_laws_eqMode.im, H_laws_eqMode.R, H_laws_eqMode.m, laws_eqMode⟩
theorem E_laws_eqMode : fnOf tys [(37, T_laws_eqIntS)] Tryd.f120 H_laws_eqMode = T_laws_eqMode := by kernel_rfl
theorem K_laws_eqMode : SigB base_ Tryd.prog 120 T_laws_eqMode := (congrArg (SigB base_ Tryd.prog 120) E_laws_eqMode).mp (fnOf_ok rfl tysOk ⟨K_laws_eqIntS, trivial⟩ Tryd.func120 (by decide) rfl (fun _ h => by cases h) (nilEq_of (by kernel_rfl)))
def laws_eqModeS_L0 : (Int × ((List D_Mode) × ((List D_Mode) × Unit))) → Option (Out (Int × ((List D_Mode) × ((List D_Mode) × Unit))) ((Bool × (Int × ((List D_Mode) × ((List D_Mode) × Unit)))) ⊕ Empty) (Bool × Unit)) :=
  (fun v0 => (if (ltZ v0.1 (lenI v0.2.1)) = true then (Option.bind (getI v0.2.1 v0.1) fun v1 => (Option.bind (getI v0.2.2.1 v0.1) fun v2 => (Option.bind ((Option.bind (laws_eqMode (v1, (v2, ())) ()) fun v3 => (some v3.1)) : (Option Bool)) fun v4 => (if (notB v4) = true then (some (Out.ret (false, ()))) else (some (Out.norm ((addZ .i64 v0.1 1), (v0.2.1, (v0.2.2.1, ()))))))))) else (some (Out.exit (Sum.inl ((ltZ v0.1 (lenI v0.2.1)), (v0.1, (v0.2.1, (v0.2.2.1, ())))))))))
def laws_eqModeS (x : ((List D_Mode) × ((List D_Mode) × Unit))) (c : Unit) : (Option (Bool × Unit)) :=
  (if (notB (eqZ (lenI x.1) (lenI x.2.1))) = true then (some (false, ())) else (Option.bind (loopN (A := (Int × ((List D_Mode) × ((List D_Mode) × Unit)))) big laws_eqModeS_L0 (0, (x.1, (x.2.1, ())))) fun v5 => (match v5 with | Out.norm v6 => none | Out.exit v7 => (match ((match v7 with | Sum.inl v10 => (Sum.inl ()) | Sum.inr v11 => (Empty.elim v11)) : (Unit ⊕ Empty)) with | Sum.inl v8 => (some (true, ())) | Sum.inr v9 => none) | Out.ret v12 => (some v12))))
def H_laws_eqModeS : Hd := ⟨[.sl 121 (.st [.int .i64, .sl 3 (.int .i64), .sl 3 (.int .i64)]), .sl 121 (.st [.int .i64, .sl 3 (.int .i64), .sl 3 (.int .i64)])], [], none, .p, .bool, .p, []⟩
def T_laws_eqModeS : FSig := ⟨H_laws_eqModeS.ps, H_laws_eqModeS.cs, H_laws_eqModeS.io, H_laws_eqModeS.im, H_laws_eqModeS.R, H_laws_eqModeS.m, laws_eqModeS⟩
theorem E_laws_eqModeS : fnOf tys [(120, T_laws_eqMode)] Tryd.f103 H_laws_eqModeS = T_laws_eqModeS := by kernel_rfl
theorem K_laws_eqModeS : SigB base_ Tryd.prog 103 T_laws_eqModeS := (congrArg (SigB base_ Tryd.prog 103) E_laws_eqModeS).mp (fnOf_ok rfl tysOk ⟨K_laws_eqMode, trivial⟩ Tryd.func103 (by decide) rfl (fun _ h => by cases h) (nilEq_of (by kernel_rfl)))
def laws_eqActivity (x : (D_Activity × (D_Activity × Unit))) (c : Unit) : (Option (Bool × Unit)) :=
  (if (notB (eqS x.1.1 x.2.1.1)) = true then (some (false, ())) else (if (notB (eqZ x.1.2.1 x.2.1.2.1)) = true then (some (false, ())) else (Option.bind ((Option.bind (laws_eqModeS (x.1.2.2.1, (x.2.1.2.2.1, ())) ()) fun v0 => (some v0.1)) : (Option Bool)) fun v1 => (if (notB v1) = true then (some (false, ())) else (some (true, ()))))))
def H_laws_eqActivity : Hd := ⟨[.st [.str, .int .i64, .sl 121 (.st [.int .i64, .sl 3 (.int .i64), .sl 3 (.int .i64)])], .st [.str, .int .i64, .sl 121 (.st [.int .i64, .sl 3 (.int .i64), .sl 3 (.int .i64)])]], [], none, .p, .bool, .p, []⟩
def T_laws_eqActivity : FSig := ⟨H_laws_eqActivity.ps, H_laws_eqActivity.cs, H_laws_eqActivity.io, H_laws_eqActivity.im, H_laws_eqActivity.R, H_laws_eqActivity.m, laws_eqActivity⟩
theorem E_laws_eqActivity : fnOf tys [(103, T_laws_eqModeS)] Tryd.f69 H_laws_eqActivity = T_laws_eqActivity := by kernel_rfl
theorem K_laws_eqActivity : SigB base_ Tryd.prog 69 T_laws_eqActivity := (congrArg (SigB base_ Tryd.prog 69) E_laws_eqActivity).mp (fnOf_ok rfl tysOk ⟨K_laws_eqModeS, trivial⟩ Tryd.func69 (by decide) rfl (fun _ h => by cases h) (nilEq_of (by kernel_rfl)))
def laws_eqActivityS_L0 : (Int × ((List D_Activity) × ((List D_Activity) × Unit))) → Option (Out (Int × ((List D_Activity) × ((List D_Activity) × Unit))) ((Bool × (Int × ((List D_Activity) × ((List D_Activity) × Unit)))) ⊕ Empty) (Bool × Unit)) :=
  (fun v0 => (if (ltZ v0.1 (lenI v0.2.1)) = true then (Option.bind (getI v0.2.1 v0.1) fun v1 => (Option.bind (getI v0.2.2.1 v0.1) fun v2 => (Option.bind ((Option.bind (laws_eqActivity (v1, (v2, ())) ()) fun v3 => (some v3.1)) : (Option Bool)) fun v4 => (if (notB v4) = true then (some (Out.ret (false, ()))) else (some (Out.norm ((addZ .i64 v0.1 1), (v0.2.1, (v0.2.2.1, ()))))))))) else (some (Out.exit (Sum.inl ((ltZ v0.1 (lenI v0.2.1)), (v0.1, (v0.2.1, (v0.2.2.1, ())))))))))
def laws_eqActivityS (x : ((List D_Activity) × ((List D_Activity) × Unit))) (c : Unit) : (Option (Bool × Unit)) :=
  (if (notB (eqZ (lenI x.1) (lenI x.2.1))) = true then (some (false, ())) else (Option.bind (loopN (A := (Int × ((List D_Activity) × ((List D_Activity) × Unit)))) big laws_eqActivityS_L0 (0, (x.1, (x.2.1, ())))) fun v5 => (match v5 with | Out.norm v6 => none | Out.exit v7 => (match ((match v7 with | Sum.inl v10 => (Sum.inl ()) | Sum.inr v11 => (Empty.elim v11)) : (Unit ⊕ Empty)) with | Sum.inl v8 => (some (true, ())) | Sum.inr v9 => none) | Out.ret v12 => (some v12))))
def H_laws_eqActivityS : Hd := ⟨[.sl 99 (.st [.str, .int .i64, .sl 121 (.st [.int .i64, .sl 3 (.int .i64), .sl 3 (.int .i64)])]), .sl 99 (.st [.str, .int .i64, .sl 121 (.st [.int .i64, .sl 3 (.int .i64), .sl 3 (.int .i64)])])], [], none, .p, .bool, .p, []⟩
def T_laws_eqActivityS : FSig := ⟨H_laws_eqActivityS.ps, H_laws_eqActivityS.cs, H_laws_eqActivityS.io, H_laws_eqActivityS.im, H_laws_eqActivityS.R, H_laws_eqActivityS.m, laws_eqActivityS⟩
theorem E_laws_eqActivityS : fnOf tys [(69, T_laws_eqActivity)] Tryd.f34 H_laws_eqActivityS = T_laws_eqActivityS := by kernel_rfl
theorem K_laws_eqActivityS : SigB base_ Tryd.prog 34 T_laws_eqActivityS := (congrArg (SigB base_ Tryd.prog 34) E_laws_eqActivityS).mp (fnOf_ok rfl tysOk ⟨K_laws_eqActivity, trivial⟩ Tryd.func34 (by decide) rfl (fun _ h => by cases h) (nilEq_of (by kernel_rfl)))
def laws_eqLink (x : (D_Link × (D_Link × Unit))) (c : Unit) : (Option (Bool × Unit)) :=
  (if (notB (eqZ x.1.1 x.2.1.1)) = true then (some (false, ())) else (if (notB (eqZ x.1.2.1 x.2.1.2.1)) = true then (some (false, ())) else (if (notB (eqB x.1.2.2.1 x.2.1.2.2.1)) = true then (some (false, ())) else (if (notB (eqZ x.1.2.2.2.1 x.2.1.2.2.2.1)) = true then (some (false, ())) else (some (true, ()))))))
def H_laws_eqLink : Hd := ⟨[.st [.int .i64, .int .i64, .bool, .int .i64], .st [.int .i64, .int .i64, .bool, .int .i64]], [], none, .p, .bool, .p, []⟩
def T_laws_eqLink : FSig := ⟨H_laws_eqLink.ps, H_laws_eqLink.cs, H_laws_eqLink.io, H_laws_eqLink.im, H_laws_eqLink.R, H_laws_eqLink.m, laws_eqLink⟩
theorem E_laws_eqLink : fnOf tys [] Tryd.f70 H_laws_eqLink = T_laws_eqLink := by kernel_rfl
theorem K_laws_eqLink : SigB base_ Tryd.prog 70 T_laws_eqLink := (congrArg (SigB base_ Tryd.prog 70) E_laws_eqLink).mp (fnOf_ok rfl tysOk trivial Tryd.func70 (by decide) rfl (fun _ h => by cases h) (nilEq_of (by kernel_rfl)))
def laws_eqLinkS_L0 : (Int × ((List D_Link) × ((List D_Link) × Unit))) → Option (Out (Int × ((List D_Link) × ((List D_Link) × Unit))) ((Bool × (Int × ((List D_Link) × ((List D_Link) × Unit)))) ⊕ Empty) (Bool × Unit)) :=
  (fun v0 => (if (ltZ v0.1 (lenI v0.2.1)) = true then (Option.bind (getI v0.2.1 v0.1) fun v1 => (Option.bind (getI v0.2.2.1 v0.1) fun v2 => (Option.bind ((Option.bind (laws_eqLink (v1, (v2, ())) ()) fun v3 => (some v3.1)) : (Option Bool)) fun v4 => (if (notB v4) = true then (some (Out.ret (false, ()))) else (some (Out.norm ((addZ .i64 v0.1 1), (v0.2.1, (v0.2.2.1, ()))))))))) else (some (Out.exit (Sum.inl ((ltZ v0.1 (lenI v0.2.1)), (v0.1, (v0.2.1, (v0.2.2.1, ())))))))))
def laws_eqLinkS (x : ((List D_Link) × ((List D_Link) × Unit))) (c : Unit) : (Option (Bool × Unit)) :=
  (if (notB (eqZ (lenI x.1) (lenI x.2.1))) = true then (some (false, ())) else (Option.bind (loopN (A := (Int × ((List D_Link) × ((List D_Link) × Unit)))) big laws_eqLinkS_L0 (0, (x.1, (x.2.1, ())))) fun v5 => (match v5 with | Out.norm v6 => none | Out.exit v7 => (match ((match v7 with | Sum.inl v10 => (Sum.inl ()) | Sum.inr v11 => (Empty.elim v11)) : (Unit ⊕ Empty)) with | Sum.inl v8 => (some (true, ())) | Sum.inr v9 => none) | Out.ret v12 => (some v12))))
def H_laws_eqLinkS : Hd := ⟨[.sl 38 (.st [.int .i64, .int .i64, .bool, .int .i64]), .sl 38 (.st [.int .i64, .int .i64, .bool, .int .i64])], [], none, .p, .bool, .p, []⟩
def T_laws_eqLinkS : FSig := ⟨H_laws_eqLinkS.ps, H_laws_eqLinkS.cs, H_laws_eqLinkS.io, H_laws_eqLinkS.im, H_laws_eqLinkS.R, H_laws_eqLinkS.m, laws_eqLinkS⟩
theorem E_laws_eqLinkS : fnOf tys [(70, T_laws_eqLink)] Tryd.f35 H_laws_eqLinkS = T_laws_eqLinkS := by kernel_rfl
theorem K_laws_eqLinkS : SigB base_ Tryd.prog 35 T_laws_eqLinkS := (congrArg (SigB base_ Tryd.prog 35) E_laws_eqLinkS).mp (fnOf_ok rfl tysOk ⟨K_laws_eqLink, trivial⟩ Tryd.func35 (by decide) rfl (fun _ h => by cases h) (nilEq_of (by kernel_rfl)))
def laws_eqStep (x : (D_Step × (D_Step × Unit))) (c : Unit) : (Option (Bool × Unit)) :=
  (if (notB (eqZ x.1.1 x.2.1.1)) = true then (some (false, ())) else (if (notB (eqZ x.1.2.1 x.2.1.2.1)) = true then (some (false, ())) else (some (true, ()))))
def H_laws_eqStep : Hd := ⟨[.st [.int .i64, .int .i64], .st [.int .i64, .int .i64]], [], none, .p, .bool, .p, []⟩
def T_laws_eqStep : FSig := ⟨H_laws_eqStep.ps, H_laws_eqStep.cs, H_laws_eqStep.io, H_laws_eqStep.im, H_laws_eqStep.R, H_laws_eqStep.m, laws_eqStep⟩
theorem E_laws_eqStep : fnOf tys [] Tryd.f121 H_laws_eqStep = T_laws_eqStep := by kernel_rfl
theorem K_laws_eqStep : SigB base_ Tryd.prog 121 T_laws_eqStep := (congrArg (SigB base_ Tryd.prog 121) E_laws_eqStep).mp (fnOf_ok rfl tysOk trivial Tryd.func121 (by decide) rfl (fun _ h => by cases h) (nilEq_of (by kernel_rfl)))
def laws_eqStepS_L0 : (Int × ((List D_Step) × ((List D_Step) × Unit))) → Option (Out (Int × ((List D_Step) × ((List D_Step) × Unit))) ((Bool × (Int × ((List D_Step) × ((List D_Step) × Unit)))) ⊕ Empty) (Bool × Unit)) :=
  (fun v0 => (if (ltZ v0.1 (lenI v0.2.1)) = true then (Option.bind (getI v0.2.1 v0.1) fun v1 => (Option.bind (getI v0.2.2.1 v0.1) fun v2 => (Option.bind ((Option.bind (laws_eqStep (v1, (v2, ())) ()) fun v3 => (some v3.1)) : (Option Bool)) fun v4 => (if (notB v4) = true then (some (Out.ret (false, ()))) else (some (Out.norm ((addZ .i64 v0.1 1), (v0.2.1, (v0.2.2.1, ()))))))))) else (some (Out.exit (Sum.inl ((ltZ v0.1 (lenI v0.2.1)), (v0.1, (v0.2.1, (v0.2.2.1, ())))))))))
def laws_eqStepS (x : ((List D_Step) × ((List D_Step) × Unit))) (c : Unit) : (Option (Bool × Unit)) :=
  (if (notB (eqZ (lenI x.1) (lenI x.2.1))) = true then (some (false, ())) else (Option.bind (loopN (A := (Int × ((List D_Step) × ((List D_Step) × Unit)))) big laws_eqStepS_L0 (0, (x.1, (x.2.1, ())))) fun v5 => (match v5 with | Out.norm v6 => none | Out.exit v7 => (match ((match v7 with | Sum.inl v10 => (Sum.inl ()) | Sum.inr v11 => (Empty.elim v11)) : (Unit ⊕ Empty)) with | Sum.inl v8 => (some (true, ())) | Sum.inr v9 => none) | Out.ret v12 => (some v12))))
def H_laws_eqStepS : Hd := ⟨[.sl 124 (.st [.int .i64, .int .i64]), .sl 124 (.st [.int .i64, .int .i64])], [], none, .p, .bool, .p, []⟩
def T_laws_eqStepS : FSig := ⟨H_laws_eqStepS.ps, H_laws_eqStepS.cs, H_laws_eqStepS.io, H_laws_eqStepS.im, H_laws_eqStepS.R, H_laws_eqStepS.m, laws_eqStepS⟩
theorem E_laws_eqStepS : fnOf tys [(121, T_laws_eqStep)] Tryd.f104 H_laws_eqStepS = T_laws_eqStepS := by kernel_rfl
theorem K_laws_eqStepS : SigB base_ Tryd.prog 104 T_laws_eqStepS := (congrArg (SigB base_ Tryd.prog 104) E_laws_eqStepS).mp (fnOf_ok rfl tysOk ⟨K_laws_eqStep, trivial⟩ Tryd.func104 (by decide) rfl (fun _ h => by cases h) (nilEq_of (by kernel_rfl)))
def laws_eqIntSS_L0 : (Int × ((List (List Int)) × ((List (List Int)) × Unit))) → Option (Out (Int × ((List (List Int)) × ((List (List Int)) × Unit))) ((Bool × (Int × ((List (List Int)) × ((List (List Int)) × Unit)))) ⊕ Empty) (Bool × Unit)) :=
  (fun v0 => (if (ltZ v0.1 (lenI v0.2.1)) = true then (Option.bind (getI v0.2.1 v0.1) fun v1 => (Option.bind (getI v0.2.2.1 v0.1) fun v2 => (Option.bind ((Option.bind (laws_eqIntS (v1, (v2, ())) ()) fun v3 => (some v3.1)) : (Option Bool)) fun v4 => (if (notB v4) = true then (some (Out.ret (false, ()))) else (some (Out.norm ((addZ .i64 v0.1 1), (v0.2.1, (v0.2.2.1, ()))))))))) else (some (Out.exit (Sum.inl ((ltZ v0.1 (lenI v0.2.1)), (v0.1, (v0.2.1, (v0.2.2.1, ())))))))))
def laws_eqIntSS (x : ((List (List Int)) × ((List (List Int)) × Unit))) (c : Unit) : (Option (Bool × Unit)) :=
  (if (notB (eqZ (lenI x.1) (lenI x.2.1))) = true then (some (false, ())) else (Option.bind (loopN (A := (Int × ((List (List Int)) × ((List (List Int)) × Unit)))) big laws_eqIntSS_L0 (0, (x.1, (x.2.1, ())))) fun v5 => (match v5 with | Out.norm v6 => none | Out.exit v7 => (match ((match v7 with | Sum.inl v10 => (Sum.inl ()) | Sum.inr v11 => (Empty.elim v11)) : (Unit ⊕ Empty)) with | Sum.inl v8 => (some (true, ())) | Sum.inr v9 => none) | Out.ret v12 => (some v12))))
def H_laws_eqIntSS : Hd := ⟨[.sl 25 (.sl 3 (.int .i64)), .sl 25 (.sl 3 (.int .i64))], [], none, .p, .bool, .p, []⟩
def T_laws_eqIntSS : FSig := ⟨H_laws_eqIntSS.ps, H_laws_eqIntSS.cs, H_laws_eqIntSS.io, H_laws_eqIntSS.im, H_laws_eqIntSS.R, H_laws_eqIntSS.m, laws_eqIntSS⟩
theorem E_laws_eqIntSS : fnOf tys [(37, T_laws_eqIntS)] Tryd.f105 H_laws_eqIntSS = T_laws_eqIntSS := by kernel_rfl
theorem K_laws_eqIntSS : SigB base_ Tryd.prog 105 T_laws_eqIntSS := (congrArg (SigB base_ Tryd.prog 105) E_laws_eqIntSS).mp (fnOf_ok rfl tysOk ⟨K_laws_eqIntS, trivial⟩ Tryd.func105 (by decide) rfl (fun _ h => by cases h) (nilEq_of (by kernel_rfl)))
def laws_eqResource (x : (D_Resource × (D_Resource × Unit))) (c : Unit) : (Option (Bool × Unit)) :=
  (Option.bind ((Option.bind (laws_eqStepS (x.1.1, (x.2.1.1, ())) ()) fun v0 => (some v0.1)) : (Option Bool)) fun v1 => (if (notB v1) = true then (some (false, ())) else (Option.bind ((Option.bind (laws_eqIntSS (x.1.2.1, (x.2.1.2.1, ())) ()) fun v2 => (some v2.1)) : (Option Bool)) fun v3 => (if (notB v3) = true then (some (false, ())) else (some (true, ()))))))
def H_laws_eqResource : Hd := ⟨[.st [.sl 124 (.st [.int .i64, .int .i64]), .sl 25 (.sl 3 (.int .i64))], .st [.sl 124 (.st [.int .i64, .int .i64]), .sl 25 (.sl 3 (.int .i64))]], [], none, .p, .bool, .p, []⟩
def T_laws_eqResource : FSig := ⟨H_laws_eqResource.ps, H_laws_eqResource.cs, H_laws_eqResource.io, H_laws_eqResource.im, H_laws_eqResource.R, H_laws_eqResource.m, laws_eqResource⟩
theorem E_laws_eqResource : fnOf tys [(104, T_laws_eqStepS), (105, T_laws_eqIntSS)] Tryd.f71 H_laws_eqResource = T_laws_eqResource := by kernel_rfl
theorem K_laws_eqResource : SigB base_ Tryd.prog 71 T_laws_eqResource := (congrArg (SigB base_ Tryd.prog 71) E_laws_eqResource).mp (fnOf_ok rfl tysOk ⟨K_laws_eqStepS, K_laws_eqIntSS, trivial⟩ Tryd.func71 (by decide) rfl (fun _ h => by cases h) (nilEq_of (by kernel_rfl)))
def laws_eqResourceS_L0 : (Int × ((List D_Resource) × ((List D_Resource) × Unit))) → Option (Out (Int × ((List D_Resource) × ((List D_Resource) × Unit))) ((Bool × (Int × ((List D_Resource) × ((List D_Resource) × Unit)))) ⊕ Empty) (Bool × Unit)) :=
  (fun v0 => (if (ltZ v0.1 (lenI v0.2.1)) = true then (Option.bind (getI v0.2.1 v0.1) fun v1 => (Option.bind (getI v0.2.2.1 v0.1) fun v2 => (Option.bind ((Option.bind (laws_eqResource (v1, (v2, ())) ()) fun v3 => (some v3.1)) : (Option Bool)) fun v4 => (if (notB v4) = true then (some (Out.ret (false, ()))) else (some (Out.norm ((addZ .i64 v0.1 1), (v0.2.1, (v0.2.2.1, ()))))))))) else (some (Out.exit (Sum.inl ((ltZ v0.1 (lenI v0.2.1)), (v0.1, (v0.2.1, (v0.2.2.1, ())))))))))
def laws_eqResourceS (x : ((List D_Resource) × ((List D_Resource) × Unit))) (c : Unit) : (Option (Bool × Unit)) :=
  (if (notB (eqZ (lenI x.1) (lenI x.2.1))) = true then (some (false, ())) else (Option.bind (loopN (A := (Int × ((List D_Resource) × ((List D_Resource) × Unit)))) big laws_eqResourceS_L0 (0, (x.1, (x.2.1, ())))) fun v5 => (match v5 with | Out.norm v6 => none | Out.exit v7 => (match ((match v7 with | Sum.inl v10 => (Sum.inl ()) | Sum.inr v11 => (Empty.elim v11)) : (Unit ⊕ Empty)) with | Sum.inl v8 => (some (true, ())) | Sum.inr v9 => none) | Out.ret v12 => (some v12))))
def H_laws_eqResourceS : Hd := ⟨[.sl 112 (.st [.sl 124 (.st [.int .i64, .int .i64]), .sl 25 (.sl 3 (.int .i64))]), .sl 112 (.st [.sl 124 (.st [.int .i64, .int .i64]), .sl 25 (.sl 3 (.int .i64))])], [], none, .p, .bool, .p, []⟩
def T_laws_eqResourceS : FSig := ⟨H_laws_eqResourceS.ps, H_laws_eqResourceS.cs, H_laws_eqResourceS.io, H_laws_eqResourceS.im, H_laws_eqResourceS.R, H_laws_eqResourceS.m, laws_eqResourceS⟩
theorem E_laws_eqResourceS : fnOf tys [(71, T_laws_eqResource)] Tryd.f36 H_laws_eqResourceS = T_laws_eqResourceS := by kernel_rfl
theorem K_laws_eqResourceS : SigB base_ Tryd.prog 36 T_laws_eqResourceS := (congrArg (SigB base_ Tryd.prog 36) E_laws_eqResourceS).mp (fnOf_ok rfl tysOk ⟨K_laws_eqResource, trivial⟩ Tryd.func36 (by decide) rfl (fun _ h => by cases h) (nilEq_of (by kernel_rfl)))
def laws_eqProject (x : (D_Project × (D_Project × Unit))) (c : Unit) : (Option (Bool × Unit)) :=
  (if (notB (eqZ x.1.1 x.2.1.1)) = true then (some (false, ())) else (Option.bind ((Option.bind (laws_eqActivityS (x.1.2.1, (x.2.1.2.1, ())) ()) fun v0 => (some v0.1)) : (Option Bool)) fun v1 => (if (notB v1) = true then (some (false, ())) else (Option.bind ((Option.bind (laws_eqLinkS (x.1.2.2.1, (x.2.1.2.2.1, ())) ()) fun v2 => (some v2.1)) : (Option Bool)) fun v3 => (if (notB v3) = true then (some (false, ())) else (Option.bind ((Option.bind (laws_eqResourceS (x.1.2.2.2.1, (x.2.1.2.2.2.1, ())) ()) fun v4 => (some v4.1)) : (Option Bool)) fun v5 => (if (notB v5) = true then (some (false, ())) else (Option.bind ((Option.bind (laws_eqIntS (x.1.2.2.2.2.1, (x.2.1.2.2.2.2.1, ())) ()) fun v6 => (some v6.1)) : (Option Bool)) fun v7 => (if (notB v7) = true then (some (false, ())) else (some (true, ())))))))))))
def H_laws_eqProject : Hd := ⟨[.st [.int .i64, .sl 99 (.st [.str, .int .i64, .sl 121 (.st [.int .i64, .sl 3 (.int .i64), .sl 3 (.int .i64)])]), .sl 38 (.st [.int .i64, .int .i64, .bool, .int .i64]), .sl 112 (.st [.sl 124 (.st [.int .i64, .int .i64]), .sl 25 (.sl 3 (.int .i64))]), .sl 3 (.int .i64)], .st [.int .i64, .sl 99 (.st [.str, .int .i64, .sl 121 (.st [.int .i64, .sl 3 (.int .i64), .sl 3 (.int .i64)])]), .sl 38 (.st [.int .i64, .int .i64, .bool, .int .i64]), .sl 112 (.st [.sl 124 (.st [.int .i64, .int .i64]), .sl 25 (.sl 3 (.int .i64))]), .sl 3 (.int .i64)]], [], none, .p, .bool, .p, []⟩
def T_laws_eqProject : FSig := ⟨H_laws_eqProject.ps, H_laws_eqProject.cs, H_laws_eqProject.io, H_laws_eqProject.im, H_laws_eqProject.R, H_laws_eqProject.m, laws_eqProject⟩
theorem E_laws_eqProject : fnOf tys [(34, T_laws_eqActivityS), (35, T_laws_eqLinkS), (36, T_laws_eqResourceS), (37, T_laws_eqIntS)] Tryd.f11 H_laws_eqProject = T_laws_eqProject := by kernel_rfl
theorem K_laws_eqProject : SigB base_ Tryd.prog 11 T_laws_eqProject := (congrArg (SigB base_ Tryd.prog 11) E_laws_eqProject).mp (fnOf_ok rfl tysOk ⟨K_laws_eqActivityS, K_laws_eqLinkS, K_laws_eqResourceS, K_laws_eqIntS, trivial⟩ Tryd.func11 (by decide) rfl (fun _ h => by cases h) (nilEq_of (by kernel_rfl)))
def laws_FnExactFormatLink (x : (D_Project × (D_Link × Unit))) (c : Unit) : (Option (Bool × Unit)) :=
  (Option.bind ((Option.bind (laws_szProject (x.1, (1048576, ())) ()) fun v0 => (some v0.1)) : (Option Int)) fun v1 => (if (ltZ v1 0) = true then (some (true, ())) else (Option.bind ((Option.bind (laws_toProject (x.1, ()) ()) fun v2 => (some v2.1)) : (Option D_Project)) fun v3 => (Option.bind ((Option.bind (laws_toLink (x.2.1, ()) ()) fun v4 => (some v4.1)) : (Option D_Link)) fun v5 => (Option.bind ((Option.bind (spec_FormatLink (v3, (v5, ())) ()) fun v6 => (some v6.1)) : (Option (List UInt8))) fun v7 => (Option.bind ((Option.bind (laws_toProject (x.1, ()) ()) fun v8 => (some v8.1)) : (Option D_Project)) fun v9 => (Option.bind ((Option.bind (laws_toLink (x.2.1, ()) ()) fun v10 => (some v10.1)) : (Option D_Link)) fun v11 => (Option.bind ((Option.bind (impl_FormatLink (v9, (v11, ())) ()) fun v12 => (some v12.1)) : (Option (List UInt8))) fun v13 => (if (notB (eqS v13 v7)) = true then (some (false, ())) else (Option.bind ((Option.bind (laws_toProject (x.1, ()) ()) fun v14 => (some v14.1)) : (Option D_Project)) fun v15 => (Option.bind ((Option.bind (laws_eqProject (v9, (v15, ())) ()) fun v16 => (some v16.1)) : (Option Bool)) fun v17 => (if (notB v17) = true then (some (false, ())) else (some (true, ()))))))))))))))
def H_laws_FnExactFormatLink : Hd := ⟨[.st [.int .i64, .sl 104 (.st [.str, .int .i64, .sl 182 (.st [.int .i64, .sl 3 (.int .i64), .sl 3 (.int .i64)])]), .sl 29 (.st [.int .i64, .int .i64, .bool, .int .i64]), .sl 108 (.st [.sl 186 (.st [.int .i64, .int .i64]), .sl 25 (.sl 3 (.int .i64))]), .sl 3 (.int .i64)], .st [.int .i64, .int .i64, .bool, .int .i64]], [], none, .p, .bool, .p, []⟩
def T_laws_FnExactFormatLink : FSig := ⟨H_laws_FnExactFormatLink.ps, H_laws_FnExactFormatLink.cs, H_laws_FnExactFormatLink.io, H_laws_FnExactFormatLink.im, H_laws_FnExactFormatLink.R, H_laws_FnExactFormatLink.m, laws_FnExactFormatLink⟩
theorem E_laws_FnExactFormatLink : fnOf tys [(6, T_laws_szProject), (7, T_spec_FormatLink), (8, T_laws_toProject), (9, T_laws_toLink), (10, T_impl_FormatLink), (11, T_laws_eqProject)] Tryd.f3 H_laws_FnExactFormatLink = T_laws_FnExactFormatLink := by kernel_rfl
theorem K_laws_FnExactFormatLink : SigB base_ Tryd.prog 3 T_laws_FnExactFormatLink := (congrArg (SigB base_ Tryd.prog 3) E_laws_FnExactFormatLink).mp (fnOf_ok rfl tysOk ⟨K_laws_szProject, K_spec_FormatLink, K_laws_toProject, K_laws_toLink, K_impl_FormatLink, K_laws_eqProject, trivial⟩ Tryd.func3 (by decide) rfl (fun _ h => by cases h) (nilEq_of (by kernel_rfl)))
end Go.Proofs.YtmbknefcilojkaaDoor
