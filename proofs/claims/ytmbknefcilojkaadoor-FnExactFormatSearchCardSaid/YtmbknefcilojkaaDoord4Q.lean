/-
  The functions of this seat as plain Lean functions, and that the program computes them. No condition.
-/
import Derived.Test.YtmbknefcilojkaaDoorN37
import Derived.Test.YtmbknefcilojkaaDoordX
import Derived.Test.YtmbknefcilojkaaDoorProg
import Derived.KernelRfl
namespace Go.Proofs.YtmbknefcilojkaaDoor
open Go.Abs
set_option linter.unusedVariables false
set_option maxRecDepth 100000
abbrev D_Mode : Type := (Int × ((List Int) × ((List Int) × Unit)))
abbrev D_Activity : Type := ((List UInt8) × (Int × ((List D_Mode) × Unit)))
abbrev D_Link : Type := (Int × (Int × (Bool × (Int × Unit))))
abbrev D_Step : Type := (Int × (Int × Unit))
abbrev D_Resource : Type := ((List D_Step) × ((List (List Int)) × Unit))
abbrev D_Project : Type := (Int × ((List D_Activity) × ((List D_Link) × ((List D_Resource) × ((List Int) × Unit)))))
abbrev D_Domain : Type := ((List Int) × ((List Int) × ((List (List Int)) × Unit)))
abbrev D_Literal : Type := (Int × D_Step)
abbrev D_Rule : Type := (Int × D_Literal)
abbrev D_Line : Type := (Int × (D_Rule × ((List D_Literal) × Unit)))
abbrev D_Log : Type := (D_Project × (D_Domain × ((List D_Literal) × ((List D_Line) × Unit))))
abbrev D_Schedule : Type := ((List Int) × ((List Int) × Unit))
abbrev D_SearchResult : Type := (D_Log × (D_Schedule × (Bool × (Int × (Bool × Unit)))))
theorem tn3 : TnOk Tryd.prog 3 (.int .i64) := ⟨Tryd.underlying3, fun _ h => (by cases h), Tryd.t3, rfl, rfl, fun _ _ => rfl⟩
theorem tn4 : TnOk Tryd.prog 4 (.bool) := ⟨Tryd.underlying4, fun _ h => (by cases h), Tryd.t4, rfl, rfl, fun _ _ => rfl⟩
theorem tn5 : TnOk Tryd.prog 5 (.int .u8) := ⟨Tryd.underlying5, fun _ h => (by cases h), Tryd.t5, rfl, rfl, fun _ _ => rfl⟩
theorem tn9 : TnOk Tryd.prog 9 (.str) := ⟨Tryd.underlying9, fun _ h => (by cases h), Tryd.t9, rfl, rfl, fun _ _ => rfl⟩
theorem tn22 : TnOk Tryd.prog 22 (.sl 104 (.st [.str, .int .i64, .sl 182 (.st [.int .i64, .sl 3 (.int .i64), .sl 3 (.int .i64)])])) := ⟨⟨Tryd.underlying22, Tryd.t104, _, rfl, rfl, rfl, rfl, by decide, by decide, fun _ _ => rfl, fun k h => by cases h⟩, fun _ h => (by cases h), Tryd.t22, rfl, rfl, fun _ _ => rfl⟩
theorem tn23 : TnOk Tryd.prog 23 (.sl 29 (.st [.int .i64, .int .i64, .bool, .int .i64])) := ⟨⟨Tryd.underlying23, Tryd.t29, _, rfl, rfl, rfl, rfl, by decide, by decide, fun _ _ => rfl, fun k h => by cases h⟩, fun _ h => (by cases h), Tryd.t23, rfl, rfl, fun _ _ => rfl⟩
theorem tn24 : TnOk Tryd.prog 24 (.sl 108 (.st [.sl 186 (.st [.int .i64, .int .i64]), .sl 25 (.sl 3 (.int .i64))])) := ⟨⟨Tryd.underlying24, Tryd.t108, _, rfl, rfl, rfl, rfl, by decide, by decide, fun _ _ => rfl, fun k h => by cases h⟩, fun _ h => (by cases h), Tryd.t24, rfl, rfl, fun _ _ => rfl⟩
theorem tn25 : TnOk Tryd.prog 25 (.sl 3 (.int .i64)) := ⟨⟨Tryd.underlying25, Tryd.t3, _, rfl, rfl, rfl, rfl, by decide, by decide, fun _ _ => rfl, fun k h => by cases h; exact Tryd.underlying3⟩, fun _ h => (by cases h), Tryd.t25, rfl, rfl, fun _ _ => rfl⟩
theorem tn26 : TnOk Tryd.prog 26 (.st [.int .i64, .sl 104 (.st [.str, .int .i64, .sl 182 (.st [.int .i64, .sl 3 (.int .i64), .sl 3 (.int .i64)])]), .sl 29 (.st [.int .i64, .int .i64, .bool, .int .i64]), .sl 108 (.st [.sl 186 (.st [.int .i64, .int .i64]), .sl 25 (.sl 3 (.int .i64))]), .sl 3 (.int .i64)]) := ⟨⟨_, Tryd.underlying26, Tryd.eqGuardType26, Tryd.stoodInHeld26, rfl, fun j τ h => by
    cases j with
    | zero => cases h; exact ⟨_, _, rfl, rfl, by decide, by decide, Tryd.underlying3, rfl, fun us h => by cases h⟩
    | succ j =>
     cases j with
     | zero => cases h; exact ⟨_, _, rfl, rfl, by decide, by decide, Tryd.underlying22, rfl, fun us h => by cases h⟩
     | succ j =>
      cases j with
      | zero => cases h; exact ⟨_, _, rfl, rfl, by decide, by decide, Tryd.underlying23, rfl, fun us h => by cases h⟩
      | succ j =>
       cases j with
       | zero => cases h; exact ⟨_, _, rfl, rfl, by decide, by decide, Tryd.underlying24, rfl, fun us h => by cases h⟩
       | succ j =>
        cases j with
        | zero => cases h; exact ⟨_, _, rfl, rfl, by decide, by decide, Tryd.underlying25, rfl, fun us h => by cases h⟩
        | succ j =>
         cases h⟩, (fun us hus fs hfs j τ h f hf => by
    cases hus
    rw [Tryd.underlying26] at hfs
    cases hfs
    cases j with
    | zero => cases h; cases hf; exact ⟨fun k e => by cases e; exact Tryd.underlying3, fun e => (by cases e), fun e => (by cases e)⟩
    | succ j =>
     cases j with
     | zero => cases h; cases hf; exact ⟨fun k e => (by cases e), fun e => (by cases e), fun e => (by cases e)⟩
     | succ j =>
      cases j with
      | zero => cases h; cases hf; exact ⟨fun k e => (by cases e), fun e => (by cases e), fun e => (by cases e)⟩
      | succ j =>
       cases j with
       | zero => cases h; cases hf; exact ⟨fun k e => (by cases e), fun e => (by cases e), fun e => (by cases e)⟩
       | succ j =>
        cases j with
        | zero => cases h; cases hf; exact ⟨fun k e => (by cases e), fun e => (by cases e), fun e => (by cases e)⟩
        | succ j =>
         cases h), Tryd.t26, rfl, rfl, fun _ _ => rfl⟩
theorem tn27 : TnOk Tryd.prog 27 (.st [.int .i64, .sl 104 (.st [.str, .int .i64, .sl 182 (.st [.int .i64, .sl 3 (.int .i64), .sl 3 (.int .i64)])]), .sl 29 (.st [.int .i64, .int .i64, .bool, .int .i64]), .sl 108 (.st [.sl 186 (.st [.int .i64, .int .i64]), .sl 25 (.sl 3 (.int .i64))]), .sl 3 (.int .i64)]) := ⟨⟨_, Tryd.underlying27, Tryd.eqGuardType27, Tryd.stoodInHeld27, rfl, fun j τ h => by
    cases j with
    | zero => cases h; exact ⟨_, _, rfl, rfl, by decide, by decide, Tryd.underlying3, rfl, fun us h => by cases h⟩
    | succ j =>
     cases j with
     | zero => cases h; exact ⟨_, _, rfl, rfl, by decide, by decide, Tryd.underlying22, rfl, fun us h => by cases h⟩
     | succ j =>
      cases j with
      | zero => cases h; exact ⟨_, _, rfl, rfl, by decide, by decide, Tryd.underlying23, rfl, fun us h => by cases h⟩
      | succ j =>
       cases j with
       | zero => cases h; exact ⟨_, _, rfl, rfl, by decide, by decide, Tryd.underlying24, rfl, fun us h => by cases h⟩
       | succ j =>
        cases j with
        | zero => cases h; exact ⟨_, _, rfl, rfl, by decide, by decide, Tryd.underlying25, rfl, fun us h => by cases h⟩
        | succ j =>
         cases h⟩, (fun us hus fs hfs j τ h f hf => by
    cases hus
    rw [Tryd.underlying27] at hfs
    cases hfs
    cases j with
    | zero => cases h; cases hf; exact ⟨fun k e => by cases e; exact Tryd.underlying3, fun e => (by cases e), fun e => (by cases e)⟩
    | succ j =>
     cases j with
     | zero => cases h; cases hf; exact ⟨fun k e => (by cases e), fun e => (by cases e), fun e => (by cases e)⟩
     | succ j =>
      cases j with
      | zero => cases h; cases hf; exact ⟨fun k e => (by cases e), fun e => (by cases e), fun e => (by cases e)⟩
      | succ j =>
       cases j with
       | zero => cases h; cases hf; exact ⟨fun k e => (by cases e), fun e => (by cases e), fun e => (by cases e)⟩
       | succ j =>
        cases j with
        | zero => cases h; cases hf; exact ⟨fun k e => (by cases e), fun e => (by cases e), fun e => (by cases e)⟩
        | succ j =>
         cases h), Tryd.t27, rfl, rfl, fun _ _ => rfl⟩
theorem tn28 : TnOk Tryd.prog 28 (.st [.int .i64, .int .i64, .bool, .int .i64]) := ⟨⟨_, Tryd.underlying28, Tryd.eqGuardType28, Tryd.stoodInHeld28, rfl, fun j τ h => by
    cases j with
    | zero => cases h; exact ⟨_, _, rfl, rfl, by decide, by decide, Tryd.underlying3, rfl, fun us h => by cases h⟩
    | succ j =>
     cases j with
     | zero => cases h; exact ⟨_, _, rfl, rfl, by decide, by decide, Tryd.underlying3, rfl, fun us h => by cases h⟩
     | succ j =>
      cases j with
      | zero => cases h; exact ⟨_, _, rfl, rfl, by decide, by decide, Tryd.underlying4, rfl, fun us h => by cases h⟩
      | succ j =>
       cases j with
       | zero => cases h; exact ⟨_, _, rfl, rfl, by decide, by decide, Tryd.underlying3, rfl, fun us h => by cases h⟩
       | succ j =>
        cases h⟩, (fun us hus fs hfs j τ h f hf => by
    cases hus
    rw [Tryd.underlying28] at hfs
    cases hfs
    cases j with
    | zero => cases h; cases hf; exact ⟨fun k e => by cases e; exact Tryd.underlying3, fun e => (by cases e), fun e => (by cases e)⟩
    | succ j =>
     cases j with
     | zero => cases h; cases hf; exact ⟨fun k e => by cases e; exact Tryd.underlying3, fun e => (by cases e), fun e => (by cases e)⟩
     | succ j =>
      cases j with
      | zero => cases h; cases hf; exact ⟨fun k e => (by cases e), fun _ => Tryd.underlying4, fun e => (by cases e)⟩
      | succ j =>
       cases j with
       | zero => cases h; cases hf; exact ⟨fun k e => by cases e; exact Tryd.underlying3, fun e => (by cases e), fun e => (by cases e)⟩
       | succ j =>
        cases h), Tryd.t28, rfl, rfl, fun _ _ => rfl⟩
theorem tn29 : TnOk Tryd.prog 29 (.st [.int .i64, .int .i64, .bool, .int .i64]) := ⟨⟨_, Tryd.underlying29, Tryd.eqGuardType29, Tryd.stoodInHeld29, rfl, fun j τ h => by
    cases j with
    | zero => cases h; exact ⟨_, _, rfl, rfl, by decide, by decide, Tryd.underlying3, rfl, fun us h => by cases h⟩
    | succ j =>
     cases j with
     | zero => cases h; exact ⟨_, _, rfl, rfl, by decide, by decide, Tryd.underlying3, rfl, fun us h => by cases h⟩
     | succ j =>
      cases j with
      | zero => cases h; exact ⟨_, _, rfl, rfl, by decide, by decide, Tryd.underlying4, rfl, fun us h => by cases h⟩
      | succ j =>
       cases j with
       | zero => cases h; exact ⟨_, _, rfl, rfl, by decide, by decide, Tryd.underlying3, rfl, fun us h => by cases h⟩
       | succ j =>
        cases h⟩, (fun us hus fs hfs j τ h f hf => by
    cases hus
    rw [Tryd.underlying29] at hfs
    cases hfs
    cases j with
    | zero => cases h; cases hf; exact ⟨fun k e => by cases e; exact Tryd.underlying3, fun e => (by cases e), fun e => (by cases e)⟩
    | succ j =>
     cases j with
     | zero => cases h; cases hf; exact ⟨fun k e => by cases e; exact Tryd.underlying3, fun e => (by cases e), fun e => (by cases e)⟩
     | succ j =>
      cases j with
      | zero => cases h; cases hf; exact ⟨fun k e => (by cases e), fun _ => Tryd.underlying4, fun e => (by cases e)⟩
      | succ j =>
       cases j with
       | zero => cases h; cases hf; exact ⟨fun k e => by cases e; exact Tryd.underlying3, fun e => (by cases e), fun e => (by cases e)⟩
       | succ j =>
        cases h), Tryd.t29, rfl, rfl, fun _ _ => rfl⟩
theorem tn30 : TnOk Tryd.prog 30 (.fn [.st [.int .i64, .sl 104 (.st [.str, .int .i64, .sl 182 (.st [.int .i64, .sl 3 (.int .i64), .sl 3 (.int .i64)])]), .sl 29 (.st [.int .i64, .int .i64, .bool, .int .i64]), .sl 108 (.st [.sl 186 (.st [.int .i64, .int .i64]), .sl 25 (.sl 3 (.int .i64))]), .sl 3 (.int .i64)], .int .i64] (.int .i64)) := ⟨⟨_, _, _, Tryd.underlying30⟩, fun _ h => (by cases h), Tryd.t30, rfl, rfl, fun _ h => by cases h⟩
theorem tn32 : TnOk Tryd.prog 32 (.sl 99 (.st [.str, .int .i64, .sl 121 (.st [.int .i64, .sl 3 (.int .i64), .sl 3 (.int .i64)])])) := ⟨⟨Tryd.underlying32, Tryd.t99, _, rfl, rfl, rfl, rfl, by decide, by decide, fun _ _ => rfl, fun k h => by cases h⟩, fun _ h => (by cases h), Tryd.t32, rfl, rfl, fun _ _ => rfl⟩
theorem tn33 : TnOk Tryd.prog 33 (.sl 38 (.st [.int .i64, .int .i64, .bool, .int .i64])) := ⟨⟨Tryd.underlying33, Tryd.t38, _, rfl, rfl, rfl, rfl, by decide, by decide, fun _ _ => rfl, fun k h => by cases h⟩, fun _ h => (by cases h), Tryd.t33, rfl, rfl, fun _ _ => rfl⟩
theorem tn34 : TnOk Tryd.prog 34 (.sl 112 (.st [.sl 124 (.st [.int .i64, .int .i64]), .sl 25 (.sl 3 (.int .i64))])) := ⟨⟨Tryd.underlying34, Tryd.t112, _, rfl, rfl, rfl, rfl, by decide, by decide, fun _ _ => rfl, fun k h => by cases h⟩, fun _ h => (by cases h), Tryd.t34, rfl, rfl, fun _ _ => rfl⟩
theorem tn35 : TnOk Tryd.prog 35 (.st [.int .i64, .sl 99 (.st [.str, .int .i64, .sl 121 (.st [.int .i64, .sl 3 (.int .i64), .sl 3 (.int .i64)])]), .sl 38 (.st [.int .i64, .int .i64, .bool, .int .i64]), .sl 112 (.st [.sl 124 (.st [.int .i64, .int .i64]), .sl 25 (.sl 3 (.int .i64))]), .sl 3 (.int .i64)]) := ⟨⟨_, Tryd.underlying35, Tryd.eqGuardType35, Tryd.stoodInHeld35, rfl, fun j τ h => by
    cases j with
    | zero => cases h; exact ⟨_, _, rfl, rfl, by decide, by decide, Tryd.underlying3, rfl, fun us h => by cases h⟩
    | succ j =>
     cases j with
     | zero => cases h; exact ⟨_, _, rfl, rfl, by decide, by decide, Tryd.underlying32, rfl, fun us h => by cases h⟩
     | succ j =>
      cases j with
      | zero => cases h; exact ⟨_, _, rfl, rfl, by decide, by decide, Tryd.underlying33, rfl, fun us h => by cases h⟩
      | succ j =>
       cases j with
       | zero => cases h; exact ⟨_, _, rfl, rfl, by decide, by decide, Tryd.underlying34, rfl, fun us h => by cases h⟩
       | succ j =>
        cases j with
        | zero => cases h; exact ⟨_, _, rfl, rfl, by decide, by decide, Tryd.underlying25, rfl, fun us h => by cases h⟩
        | succ j =>
         cases h⟩, (fun us hus fs hfs j τ h f hf => by
    cases hus
    rw [Tryd.underlying35] at hfs
    cases hfs
    cases j with
    | zero => cases h; cases hf; exact ⟨fun k e => by cases e; exact Tryd.underlying3, fun e => (by cases e), fun e => (by cases e)⟩
    | succ j =>
     cases j with
     | zero => cases h; cases hf; exact ⟨fun k e => (by cases e), fun e => (by cases e), fun e => (by cases e)⟩
     | succ j =>
      cases j with
      | zero => cases h; cases hf; exact ⟨fun k e => (by cases e), fun e => (by cases e), fun e => (by cases e)⟩
      | succ j =>
       cases j with
       | zero => cases h; cases hf; exact ⟨fun k e => (by cases e), fun e => (by cases e), fun e => (by cases e)⟩
       | succ j =>
        cases j with
        | zero => cases h; cases hf; exact ⟨fun k e => (by cases e), fun e => (by cases e), fun e => (by cases e)⟩
        | succ j =>
         cases h), Tryd.t35, rfl, rfl, fun _ _ => rfl⟩
theorem tn36 : TnOk Tryd.prog 36 (.st [.int .i64, .sl 99 (.st [.str, .int .i64, .sl 121 (.st [.int .i64, .sl 3 (.int .i64), .sl 3 (.int .i64)])]), .sl 38 (.st [.int .i64, .int .i64, .bool, .int .i64]), .sl 112 (.st [.sl 124 (.st [.int .i64, .int .i64]), .sl 25 (.sl 3 (.int .i64))]), .sl 3 (.int .i64)]) := ⟨⟨_, Tryd.underlying36, Tryd.eqGuardType36, Tryd.stoodInHeld36, rfl, fun j τ h => by
    cases j with
    | zero => cases h; exact ⟨_, _, rfl, rfl, by decide, by decide, Tryd.underlying3, rfl, fun us h => by cases h⟩
    | succ j =>
     cases j with
     | zero => cases h; exact ⟨_, _, rfl, rfl, by decide, by decide, Tryd.underlying32, rfl, fun us h => by cases h⟩
     | succ j =>
      cases j with
      | zero => cases h; exact ⟨_, _, rfl, rfl, by decide, by decide, Tryd.underlying33, rfl, fun us h => by cases h⟩
      | succ j =>
       cases j with
       | zero => cases h; exact ⟨_, _, rfl, rfl, by decide, by decide, Tryd.underlying34, rfl, fun us h => by cases h⟩
       | succ j =>
        cases j with
        | zero => cases h; exact ⟨_, _, rfl, rfl, by decide, by decide, Tryd.underlying25, rfl, fun us h => by cases h⟩
        | succ j =>
         cases h⟩, (fun us hus fs hfs j τ h f hf => by
    cases hus
    rw [Tryd.underlying36] at hfs
    cases hfs
    cases j with
    | zero => cases h; cases hf; exact ⟨fun k e => by cases e; exact Tryd.underlying3, fun e => (by cases e), fun e => (by cases e)⟩
    | succ j =>
     cases j with
     | zero => cases h; cases hf; exact ⟨fun k e => (by cases e), fun e => (by cases e), fun e => (by cases e)⟩
     | succ j =>
      cases j with
      | zero => cases h; cases hf; exact ⟨fun k e => (by cases e), fun e => (by cases e), fun e => (by cases e)⟩
      | succ j =>
       cases j with
       | zero => cases h; cases hf; exact ⟨fun k e => (by cases e), fun e => (by cases e), fun e => (by cases e)⟩
       | succ j =>
        cases j with
        | zero => cases h; cases hf; exact ⟨fun k e => (by cases e), fun e => (by cases e), fun e => (by cases e)⟩
        | succ j =>
         cases h), Tryd.t36, rfl, rfl, fun _ _ => rfl⟩
theorem tn37 : TnOk Tryd.prog 37 (.fn [.st [.int .i64, .sl 104 (.st [.str, .int .i64, .sl 182 (.st [.int .i64, .sl 3 (.int .i64), .sl 3 (.int .i64)])]), .sl 29 (.st [.int .i64, .int .i64, .bool, .int .i64]), .sl 108 (.st [.sl 186 (.st [.int .i64, .int .i64]), .sl 25 (.sl 3 (.int .i64))]), .sl 3 (.int .i64)]] (.st [.int .i64, .sl 99 (.st [.str, .int .i64, .sl 121 (.st [.int .i64, .sl 3 (.int .i64), .sl 3 (.int .i64)])]), .sl 38 (.st [.int .i64, .int .i64, .bool, .int .i64]), .sl 112 (.st [.sl 124 (.st [.int .i64, .int .i64]), .sl 25 (.sl 3 (.int .i64))]), .sl 3 (.int .i64)])) := ⟨⟨_, _, _, Tryd.underlying37⟩, fun _ h => (by cases h), Tryd.t37, rfl, rfl, fun _ h => by cases h⟩
theorem tn38 : TnOk Tryd.prog 38 (.st [.int .i64, .int .i64, .bool, .int .i64]) := ⟨⟨_, Tryd.underlying38, Tryd.eqGuardType38, Tryd.stoodInHeld38, rfl, fun j τ h => by
    cases j with
    | zero => cases h; exact ⟨_, _, rfl, rfl, by decide, by decide, Tryd.underlying3, rfl, fun us h => by cases h⟩
    | succ j =>
     cases j with
     | zero => cases h; exact ⟨_, _, rfl, rfl, by decide, by decide, Tryd.underlying3, rfl, fun us h => by cases h⟩
     | succ j =>
      cases j with
      | zero => cases h; exact ⟨_, _, rfl, rfl, by decide, by decide, Tryd.underlying4, rfl, fun us h => by cases h⟩
      | succ j =>
       cases j with
       | zero => cases h; exact ⟨_, _, rfl, rfl, by decide, by decide, Tryd.underlying3, rfl, fun us h => by cases h⟩
       | succ j =>
        cases h⟩, (fun us hus fs hfs j τ h f hf => by
    cases hus
    rw [Tryd.underlying38] at hfs
    cases hfs
    cases j with
    | zero => cases h; cases hf; exact ⟨fun k e => by cases e; exact Tryd.underlying3, fun e => (by cases e), fun e => (by cases e)⟩
    | succ j =>
     cases j with
     | zero => cases h; cases hf; exact ⟨fun k e => by cases e; exact Tryd.underlying3, fun e => (by cases e), fun e => (by cases e)⟩
     | succ j =>
      cases j with
      | zero => cases h; cases hf; exact ⟨fun k e => (by cases e), fun _ => Tryd.underlying4, fun e => (by cases e)⟩
      | succ j =>
       cases j with
       | zero => cases h; cases hf; exact ⟨fun k e => by cases e; exact Tryd.underlying3, fun e => (by cases e), fun e => (by cases e)⟩
       | succ j =>
        cases h), Tryd.t38, rfl, rfl, fun _ _ => rfl⟩
theorem tn39 : TnOk Tryd.prog 39 (.fn [.st [.int .i64, .int .i64, .bool, .int .i64]] (.st [.int .i64, .int .i64, .bool, .int .i64])) := ⟨⟨_, _, _, Tryd.underlying39⟩, fun _ h => (by cases h), Tryd.t39, rfl, rfl, fun _ h => by cases h⟩
theorem tn40 : TnOk Tryd.prog 40 (.fn [.st [.int .i64, .sl 99 (.st [.str, .int .i64, .sl 121 (.st [.int .i64, .sl 3 (.int .i64), .sl 3 (.int .i64)])]), .sl 38 (.st [.int .i64, .int .i64, .bool, .int .i64]), .sl 112 (.st [.sl 124 (.st [.int .i64, .int .i64]), .sl 25 (.sl 3 (.int .i64))]), .sl 3 (.int .i64)], .st [.int .i64, .sl 99 (.st [.str, .int .i64, .sl 121 (.st [.int .i64, .sl 3 (.int .i64), .sl 3 (.int .i64)])]), .sl 38 (.st [.int .i64, .int .i64, .bool, .int .i64]), .sl 112 (.st [.sl 124 (.st [.int .i64, .int .i64]), .sl 25 (.sl 3 (.int .i64))]), .sl 3 (.int .i64)]] (.bool)) := ⟨⟨_, _, _, Tryd.underlying40⟩, fun _ h => (by cases h), Tryd.t40, rfl, rfl, fun _ h => by cases h⟩
theorem tn42 : TnOk Tryd.prog 42 (.sl 25 (.sl 3 (.int .i64))) := ⟨⟨Tryd.underlying42, Tryd.t25, _, rfl, rfl, rfl, rfl, by decide, by decide, fun _ _ => rfl, fun k h => by cases h⟩, fun _ h => (by cases h), Tryd.t42, rfl, rfl, fun _ _ => rfl⟩
theorem tn43 : TnOk Tryd.prog 43 (.st [.sl 3 (.int .i64), .sl 3 (.int .i64), .sl 25 (.sl 3 (.int .i64))]) := ⟨⟨_, Tryd.underlying43, Tryd.eqGuardType43, Tryd.stoodInHeld43, rfl, fun j τ h => by
    cases j with
    | zero => cases h; exact ⟨_, _, rfl, rfl, by decide, by decide, Tryd.underlying25, rfl, fun us h => by cases h⟩
    | succ j =>
     cases j with
     | zero => cases h; exact ⟨_, _, rfl, rfl, by decide, by decide, Tryd.underlying25, rfl, fun us h => by cases h⟩
     | succ j =>
      cases j with
      | zero => cases h; exact ⟨_, _, rfl, rfl, by decide, by decide, Tryd.underlying42, rfl, fun us h => by cases h⟩
      | succ j =>
       cases h⟩, (fun us hus fs hfs j τ h f hf => by
    cases hus
    rw [Tryd.underlying43] at hfs
    cases hfs
    cases j with
    | zero => cases h; cases hf; exact ⟨fun k e => (by cases e), fun e => (by cases e), fun e => (by cases e)⟩
    | succ j =>
     cases j with
     | zero => cases h; cases hf; exact ⟨fun k e => (by cases e), fun e => (by cases e), fun e => (by cases e)⟩
     | succ j =>
      cases j with
      | zero => cases h; cases hf; exact ⟨fun k e => (by cases e), fun e => (by cases e), fun e => (by cases e)⟩
      | succ j =>
       cases h), Tryd.t43, rfl, rfl, fun _ _ => rfl⟩
theorem tn44 : TnOk Tryd.prog 44 (.st [.sl 3 (.int .i64), .sl 3 (.int .i64), .sl 25 (.sl 3 (.int .i64))]) := ⟨⟨_, Tryd.underlying44, Tryd.eqGuardType44, Tryd.stoodInHeld44, rfl, fun j τ h => by
    cases j with
    | zero => cases h; exact ⟨_, _, rfl, rfl, by decide, by decide, Tryd.underlying25, rfl, fun us h => by cases h⟩
    | succ j =>
     cases j with
     | zero => cases h; exact ⟨_, _, rfl, rfl, by decide, by decide, Tryd.underlying25, rfl, fun us h => by cases h⟩
     | succ j =>
      cases j with
      | zero => cases h; exact ⟨_, _, rfl, rfl, by decide, by decide, Tryd.underlying42, rfl, fun us h => by cases h⟩
      | succ j =>
       cases h⟩, (fun us hus fs hfs j τ h f hf => by
    cases hus
    rw [Tryd.underlying44] at hfs
    cases hfs
    cases j with
    | zero => cases h; cases hf; exact ⟨fun k e => (by cases e), fun e => (by cases e), fun e => (by cases e)⟩
    | succ j =>
     cases j with
     | zero => cases h; cases hf; exact ⟨fun k e => (by cases e), fun e => (by cases e), fun e => (by cases e)⟩
     | succ j =>
      cases j with
      | zero => cases h; cases hf; exact ⟨fun k e => (by cases e), fun e => (by cases e), fun e => (by cases e)⟩
      | succ j =>
       cases h), Tryd.t44, rfl, rfl, fun _ _ => rfl⟩
theorem tn45 : TnOk Tryd.prog 45 (.sl 173 (.st [.int .i64, .int .i64, .int .i64])) := ⟨⟨Tryd.underlying45, Tryd.t173, _, rfl, rfl, rfl, rfl, by decide, by decide, fun _ _ => rfl, fun k h => by cases h⟩, fun _ h => (by cases h), Tryd.t45, rfl, rfl, fun _ _ => rfl⟩
theorem tn46 : TnOk Tryd.prog 46 (.sl 169 (.st [.int .i64, .st [.int .i64, .int .i64, .int .i64, .int .i64], .sl 173 (.st [.int .i64, .int .i64, .int .i64])])) := ⟨⟨Tryd.underlying46, Tryd.t169, _, rfl, rfl, rfl, rfl, by decide, by decide, fun _ _ => rfl, fun k h => by cases h⟩, fun _ h => (by cases h), Tryd.t46, rfl, rfl, fun _ _ => rfl⟩
theorem tn47 : TnOk Tryd.prog 47 (.st [.st [.int .i64, .sl 104 (.st [.str, .int .i64, .sl 182 (.st [.int .i64, .sl 3 (.int .i64), .sl 3 (.int .i64)])]), .sl 29 (.st [.int .i64, .int .i64, .bool, .int .i64]), .sl 108 (.st [.sl 186 (.st [.int .i64, .int .i64]), .sl 25 (.sl 3 (.int .i64))]), .sl 3 (.int .i64)], .st [.sl 3 (.int .i64), .sl 3 (.int .i64), .sl 25 (.sl 3 (.int .i64))], .sl 173 (.st [.int .i64, .int .i64, .int .i64]), .sl 169 (.st [.int .i64, .st [.int .i64, .int .i64, .int .i64, .int .i64], .sl 173 (.st [.int .i64, .int .i64, .int .i64])])]) := ⟨⟨_, Tryd.underlying47, Tryd.eqGuardType47, Tryd.stoodInHeld47, rfl, fun j τ h => by
    cases j with
    | zero => cases h; exact ⟨_, _, rfl, rfl, by decide, by decide, Tryd.underlying27, rfl, ⟨_, rfl⟩⟩
    | succ j =>
     cases j with
     | zero => cases h; exact ⟨_, _, rfl, rfl, by decide, by decide, Tryd.underlying44, rfl, ⟨_, rfl⟩⟩
     | succ j =>
      cases j with
      | zero => cases h; exact ⟨_, _, rfl, rfl, by decide, by decide, Tryd.underlying45, rfl, fun us h => by cases h⟩
      | succ j =>
       cases j with
       | zero => cases h; exact ⟨_, _, rfl, rfl, by decide, by decide, Tryd.underlying46, rfl, fun us h => by cases h⟩
       | succ j =>
        cases h⟩, (fun us hus fs hfs j τ h f hf => by
    cases hus
    rw [Tryd.underlying47] at hfs
    cases hfs
    cases j with
    | zero => cases h; cases hf; exact ⟨fun k e => (by cases e), fun e => (by cases e), fun e => (by cases e)⟩
    | succ j =>
     cases j with
     | zero => cases h; cases hf; exact ⟨fun k e => (by cases e), fun e => (by cases e), fun e => (by cases e)⟩
     | succ j =>
      cases j with
      | zero => cases h; cases hf; exact ⟨fun k e => (by cases e), fun e => (by cases e), fun e => (by cases e)⟩
      | succ j =>
       cases j with
       | zero => cases h; cases hf; exact ⟨fun k e => (by cases e), fun e => (by cases e), fun e => (by cases e)⟩
       | succ j =>
        cases h), Tryd.t47, rfl, rfl, fun _ _ => rfl⟩
theorem tn48 : TnOk Tryd.prog 48 (.st [.st [.int .i64, .sl 104 (.st [.str, .int .i64, .sl 182 (.st [.int .i64, .sl 3 (.int .i64), .sl 3 (.int .i64)])]), .sl 29 (.st [.int .i64, .int .i64, .bool, .int .i64]), .sl 108 (.st [.sl 186 (.st [.int .i64, .int .i64]), .sl 25 (.sl 3 (.int .i64))]), .sl 3 (.int .i64)], .st [.sl 3 (.int .i64), .sl 3 (.int .i64), .sl 25 (.sl 3 (.int .i64))], .sl 173 (.st [.int .i64, .int .i64, .int .i64]), .sl 169 (.st [.int .i64, .st [.int .i64, .int .i64, .int .i64, .int .i64], .sl 173 (.st [.int .i64, .int .i64, .int .i64])])]) := ⟨⟨_, Tryd.underlying48, Tryd.eqGuardType48, Tryd.stoodInHeld48, rfl, fun j τ h => by
    cases j with
    | zero => cases h; exact ⟨_, _, rfl, rfl, by decide, by decide, Tryd.underlying27, rfl, ⟨_, rfl⟩⟩
    | succ j =>
     cases j with
     | zero => cases h; exact ⟨_, _, rfl, rfl, by decide, by decide, Tryd.underlying44, rfl, ⟨_, rfl⟩⟩
     | succ j =>
      cases j with
      | zero => cases h; exact ⟨_, _, rfl, rfl, by decide, by decide, Tryd.underlying45, rfl, fun us h => by cases h⟩
      | succ j =>
       cases j with
       | zero => cases h; exact ⟨_, _, rfl, rfl, by decide, by decide, Tryd.underlying46, rfl, fun us h => by cases h⟩
       | succ j =>
        cases h⟩, (fun us hus fs hfs j τ h f hf => by
    cases hus
    rw [Tryd.underlying48] at hfs
    cases hfs
    cases j with
    | zero => cases h; cases hf; exact ⟨fun k e => (by cases e), fun e => (by cases e), fun e => (by cases e)⟩
    | succ j =>
     cases j with
     | zero => cases h; cases hf; exact ⟨fun k e => (by cases e), fun e => (by cases e), fun e => (by cases e)⟩
     | succ j =>
      cases j with
      | zero => cases h; cases hf; exact ⟨fun k e => (by cases e), fun e => (by cases e), fun e => (by cases e)⟩
      | succ j =>
       cases j with
       | zero => cases h; cases hf; exact ⟨fun k e => (by cases e), fun e => (by cases e), fun e => (by cases e)⟩
       | succ j =>
        cases h), Tryd.t48, rfl, rfl, fun _ _ => rfl⟩
theorem tn49 : TnOk Tryd.prog 49 (.st [.sl 3 (.int .i64), .sl 3 (.int .i64)]) := ⟨⟨_, Tryd.underlying49, Tryd.eqGuardType49, Tryd.stoodInHeld49, rfl, fun j τ h => by
    cases j with
    | zero => cases h; exact ⟨_, _, rfl, rfl, by decide, by decide, Tryd.underlying25, rfl, fun us h => by cases h⟩
    | succ j =>
     cases j with
     | zero => cases h; exact ⟨_, _, rfl, rfl, by decide, by decide, Tryd.underlying25, rfl, fun us h => by cases h⟩
     | succ j =>
      cases h⟩, (fun us hus fs hfs j τ h f hf => by
    cases hus
    rw [Tryd.underlying49] at hfs
    cases hfs
    cases j with
    | zero => cases h; cases hf; exact ⟨fun k e => (by cases e), fun e => (by cases e), fun e => (by cases e)⟩
    | succ j =>
     cases j with
     | zero => cases h; cases hf; exact ⟨fun k e => (by cases e), fun e => (by cases e), fun e => (by cases e)⟩
     | succ j =>
      cases h), Tryd.t49, rfl, rfl, fun _ _ => rfl⟩
theorem tn50 : TnOk Tryd.prog 50 (.st [.sl 3 (.int .i64), .sl 3 (.int .i64)]) := ⟨⟨_, Tryd.underlying50, Tryd.eqGuardType50, Tryd.stoodInHeld50, rfl, fun j τ h => by
    cases j with
    | zero => cases h; exact ⟨_, _, rfl, rfl, by decide, by decide, Tryd.underlying25, rfl, fun us h => by cases h⟩
    | succ j =>
     cases j with
     | zero => cases h; exact ⟨_, _, rfl, rfl, by decide, by decide, Tryd.underlying25, rfl, fun us h => by cases h⟩
     | succ j =>
      cases h⟩, (fun us hus fs hfs j τ h f hf => by
    cases hus
    rw [Tryd.underlying50] at hfs
    cases hfs
    cases j with
    | zero => cases h; cases hf; exact ⟨fun k e => (by cases e), fun e => (by cases e), fun e => (by cases e)⟩
    | succ j =>
     cases j with
     | zero => cases h; cases hf; exact ⟨fun k e => (by cases e), fun e => (by cases e), fun e => (by cases e)⟩
     | succ j =>
      cases h), Tryd.t50, rfl, rfl, fun _ _ => rfl⟩
theorem tn51 : TnOk Tryd.prog 51 (.st [.st [.st [.int .i64, .sl 104 (.st [.str, .int .i64, .sl 182 (.st [.int .i64, .sl 3 (.int .i64), .sl 3 (.int .i64)])]), .sl 29 (.st [.int .i64, .int .i64, .bool, .int .i64]), .sl 108 (.st [.sl 186 (.st [.int .i64, .int .i64]), .sl 25 (.sl 3 (.int .i64))]), .sl 3 (.int .i64)], .st [.sl 3 (.int .i64), .sl 3 (.int .i64), .sl 25 (.sl 3 (.int .i64))], .sl 173 (.st [.int .i64, .int .i64, .int .i64]), .sl 169 (.st [.int .i64, .st [.int .i64, .int .i64, .int .i64, .int .i64], .sl 173 (.st [.int .i64, .int .i64, .int .i64])])], .st [.sl 3 (.int .i64), .sl 3 (.int .i64)], .bool, .int .i64, .bool]) := ⟨⟨_, Tryd.underlying51, Tryd.eqGuardType51, Tryd.stoodInHeld51, rfl, fun j τ h => by
    cases j with
    | zero => cases h; exact ⟨_, _, rfl, rfl, by decide, by decide, Tryd.underlying48, rfl, ⟨_, rfl⟩⟩
    | succ j =>
     cases j with
     | zero => cases h; exact ⟨_, _, rfl, rfl, by decide, by decide, Tryd.underlying50, rfl, ⟨_, rfl⟩⟩
     | succ j =>
      cases j with
      | zero => cases h; exact ⟨_, _, rfl, rfl, by decide, by decide, Tryd.underlying4, rfl, fun us h => by cases h⟩
      | succ j =>
       cases j with
       | zero => cases h; exact ⟨_, _, rfl, rfl, by decide, by decide, Tryd.underlying3, rfl, fun us h => by cases h⟩
       | succ j =>
        cases j with
        | zero => cases h; exact ⟨_, _, rfl, rfl, by decide, by decide, Tryd.underlying4, rfl, fun us h => by cases h⟩
        | succ j =>
         cases h⟩, (fun us hus fs hfs j τ h f hf => by
    cases hus
    rw [Tryd.underlying51] at hfs
    cases hfs
    cases j with
    | zero => cases h; cases hf; exact ⟨fun k e => (by cases e), fun e => (by cases e), fun e => (by cases e)⟩
    | succ j =>
     cases j with
     | zero => cases h; cases hf; exact ⟨fun k e => (by cases e), fun e => (by cases e), fun e => (by cases e)⟩
     | succ j =>
      cases j with
      | zero => cases h; cases hf; exact ⟨fun k e => (by cases e), fun _ => Tryd.underlying4, fun e => (by cases e)⟩
      | succ j =>
       cases j with
       | zero => cases h; cases hf; exact ⟨fun k e => by cases e; exact Tryd.underlying3, fun e => (by cases e), fun e => (by cases e)⟩
       | succ j =>
        cases j with
        | zero => cases h; cases hf; exact ⟨fun k e => (by cases e), fun _ => Tryd.underlying4, fun e => (by cases e)⟩
        | succ j =>
         cases h), Tryd.t51, rfl, rfl, fun _ _ => rfl⟩
theorem tn52 : TnOk Tryd.prog 52 (.st [.st [.st [.int .i64, .sl 104 (.st [.str, .int .i64, .sl 182 (.st [.int .i64, .sl 3 (.int .i64), .sl 3 (.int .i64)])]), .sl 29 (.st [.int .i64, .int .i64, .bool, .int .i64]), .sl 108 (.st [.sl 186 (.st [.int .i64, .int .i64]), .sl 25 (.sl 3 (.int .i64))]), .sl 3 (.int .i64)], .st [.sl 3 (.int .i64), .sl 3 (.int .i64), .sl 25 (.sl 3 (.int .i64))], .sl 173 (.st [.int .i64, .int .i64, .int .i64]), .sl 169 (.st [.int .i64, .st [.int .i64, .int .i64, .int .i64, .int .i64], .sl 173 (.st [.int .i64, .int .i64, .int .i64])])], .st [.sl 3 (.int .i64), .sl 3 (.int .i64)], .bool, .int .i64, .bool]) := ⟨⟨_, Tryd.underlying52, Tryd.eqGuardType52, Tryd.stoodInHeld52, rfl, fun j τ h => by
    cases j with
    | zero => cases h; exact ⟨_, _, rfl, rfl, by decide, by decide, Tryd.underlying48, rfl, ⟨_, rfl⟩⟩
    | succ j =>
     cases j with
     | zero => cases h; exact ⟨_, _, rfl, rfl, by decide, by decide, Tryd.underlying50, rfl, ⟨_, rfl⟩⟩
     | succ j =>
      cases j with
      | zero => cases h; exact ⟨_, _, rfl, rfl, by decide, by decide, Tryd.underlying4, rfl, fun us h => by cases h⟩
      | succ j =>
       cases j with
       | zero => cases h; exact ⟨_, _, rfl, rfl, by decide, by decide, Tryd.underlying3, rfl, fun us h => by cases h⟩
       | succ j =>
        cases j with
        | zero => cases h; exact ⟨_, _, rfl, rfl, by decide, by decide, Tryd.underlying4, rfl, fun us h => by cases h⟩
        | succ j =>
         cases h⟩, (fun us hus fs hfs j τ h f hf => by
    cases hus
    rw [Tryd.underlying52] at hfs
    cases hfs
    cases j with
    | zero => cases h; cases hf; exact ⟨fun k e => (by cases e), fun e => (by cases e), fun e => (by cases e)⟩
    | succ j =>
     cases j with
     | zero => cases h; cases hf; exact ⟨fun k e => (by cases e), fun e => (by cases e), fun e => (by cases e)⟩
     | succ j =>
      cases j with
      | zero => cases h; cases hf; exact ⟨fun k e => (by cases e), fun _ => Tryd.underlying4, fun e => (by cases e)⟩
      | succ j =>
       cases j with
       | zero => cases h; cases hf; exact ⟨fun k e => by cases e; exact Tryd.underlying3, fun e => (by cases e), fun e => (by cases e)⟩
       | succ j =>
        cases j with
        | zero => cases h; cases hf; exact ⟨fun k e => (by cases e), fun _ => Tryd.underlying4, fun e => (by cases e)⟩
        | succ j =>
         cases h), Tryd.t52, rfl, rfl, fun _ _ => rfl⟩
theorem tn53 : TnOk Tryd.prog 53 (.fn [.st [.st [.st [.int .i64, .sl 104 (.st [.str, .int .i64, .sl 182 (.st [.int .i64, .sl 3 (.int .i64), .sl 3 (.int .i64)])]), .sl 29 (.st [.int .i64, .int .i64, .bool, .int .i64]), .sl 108 (.st [.sl 186 (.st [.int .i64, .int .i64]), .sl 25 (.sl 3 (.int .i64))]), .sl 3 (.int .i64)], .st [.sl 3 (.int .i64), .sl 3 (.int .i64), .sl 25 (.sl 3 (.int .i64))], .sl 173 (.st [.int .i64, .int .i64, .int .i64]), .sl 169 (.st [.int .i64, .st [.int .i64, .int .i64, .int .i64, .int .i64], .sl 173 (.st [.int .i64, .int .i64, .int .i64])])], .st [.sl 3 (.int .i64), .sl 3 (.int .i64)], .bool, .int .i64, .bool], .int .i64] (.int .i64)) := ⟨⟨_, _, _, Tryd.underlying53⟩, fun _ h => (by cases h), Tryd.t53, rfl, rfl, fun _ h => by cases h⟩
theorem tn54 : TnOk Tryd.prog 54 (.fn [.st [.st [.st [.int .i64, .sl 99 (.st [.str, .int .i64, .sl 121 (.st [.int .i64, .sl 3 (.int .i64), .sl 3 (.int .i64)])]), .sl 38 (.st [.int .i64, .int .i64, .bool, .int .i64]), .sl 112 (.st [.sl 124 (.st [.int .i64, .int .i64]), .sl 25 (.sl 3 (.int .i64))]), .sl 3 (.int .i64)], .st [.sl 3 (.int .i64), .sl 3 (.int .i64), .sl 25 (.sl 3 (.int .i64))], .sl 171 (.st [.int .i64, .int .i64, .int .i64]), .sl 176 (.st [.int .i64, .st [.int .i64, .int .i64, .int .i64, .int .i64], .sl 171 (.st [.int .i64, .int .i64, .int .i64])])], .st [.sl 3 (.int .i64), .sl 3 (.int .i64)], .bool, .int .i64, .bool]] (.str)) := ⟨⟨_, _, _, Tryd.underlying54⟩, fun _ h => (by cases h), Tryd.t54, rfl, rfl, fun _ h => by cases h⟩
theorem tn55 : TnOk Tryd.prog 55 (.st [.sl 3 (.int .i64), .sl 3 (.int .i64), .sl 25 (.sl 3 (.int .i64))]) := ⟨⟨_, Tryd.underlying55, Tryd.eqGuardType55, Tryd.stoodInHeld55, rfl, fun j τ h => by
    cases j with
    | zero => cases h; exact ⟨_, _, rfl, rfl, by decide, by decide, Tryd.underlying25, rfl, fun us h => by cases h⟩
    | succ j =>
     cases j with
     | zero => cases h; exact ⟨_, _, rfl, rfl, by decide, by decide, Tryd.underlying25, rfl, fun us h => by cases h⟩
     | succ j =>
      cases j with
      | zero => cases h; exact ⟨_, _, rfl, rfl, by decide, by decide, Tryd.underlying42, rfl, fun us h => by cases h⟩
      | succ j =>
       cases h⟩, (fun us hus fs hfs j τ h f hf => by
    cases hus
    rw [Tryd.underlying55] at hfs
    cases hfs
    cases j with
    | zero => cases h; cases hf; exact ⟨fun k e => (by cases e), fun e => (by cases e), fun e => (by cases e)⟩
    | succ j =>
     cases j with
     | zero => cases h; cases hf; exact ⟨fun k e => (by cases e), fun e => (by cases e), fun e => (by cases e)⟩
     | succ j =>
      cases j with
      | zero => cases h; cases hf; exact ⟨fun k e => (by cases e), fun e => (by cases e), fun e => (by cases e)⟩
      | succ j =>
       cases h), Tryd.t55, rfl, rfl, fun _ _ => rfl⟩
theorem tn56 : TnOk Tryd.prog 56 (.sl 171 (.st [.int .i64, .int .i64, .int .i64])) := ⟨⟨Tryd.underlying56, Tryd.t171, _, rfl, rfl, rfl, rfl, by decide, by decide, fun _ _ => rfl, fun k h => by cases h⟩, fun _ h => (by cases h), Tryd.t56, rfl, rfl, fun _ _ => rfl⟩
theorem tn57 : TnOk Tryd.prog 57 (.sl 176 (.st [.int .i64, .st [.int .i64, .int .i64, .int .i64, .int .i64], .sl 171 (.st [.int .i64, .int .i64, .int .i64])])) := ⟨⟨Tryd.underlying57, Tryd.t176, _, rfl, rfl, rfl, rfl, by decide, by decide, fun _ _ => rfl, fun k h => by cases h⟩, fun _ h => (by cases h), Tryd.t57, rfl, rfl, fun _ _ => rfl⟩
theorem tn58 : TnOk Tryd.prog 58 (.st [.st [.int .i64, .sl 99 (.st [.str, .int .i64, .sl 121 (.st [.int .i64, .sl 3 (.int .i64), .sl 3 (.int .i64)])]), .sl 38 (.st [.int .i64, .int .i64, .bool, .int .i64]), .sl 112 (.st [.sl 124 (.st [.int .i64, .int .i64]), .sl 25 (.sl 3 (.int .i64))]), .sl 3 (.int .i64)], .st [.sl 3 (.int .i64), .sl 3 (.int .i64), .sl 25 (.sl 3 (.int .i64))], .sl 171 (.st [.int .i64, .int .i64, .int .i64]), .sl 176 (.st [.int .i64, .st [.int .i64, .int .i64, .int .i64, .int .i64], .sl 171 (.st [.int .i64, .int .i64, .int .i64])])]) := ⟨⟨_, Tryd.underlying58, Tryd.eqGuardType58, Tryd.stoodInHeld58, rfl, fun j τ h => by
    cases j with
    | zero => cases h; exact ⟨_, _, rfl, rfl, by decide, by decide, Tryd.underlying36, rfl, ⟨_, rfl⟩⟩
    | succ j =>
     cases j with
     | zero => cases h; exact ⟨_, _, rfl, rfl, by decide, by decide, Tryd.underlying55, rfl, ⟨_, rfl⟩⟩
     | succ j =>
      cases j with
      | zero => cases h; exact ⟨_, _, rfl, rfl, by decide, by decide, Tryd.underlying56, rfl, fun us h => by cases h⟩
      | succ j =>
       cases j with
       | zero => cases h; exact ⟨_, _, rfl, rfl, by decide, by decide, Tryd.underlying57, rfl, fun us h => by cases h⟩
       | succ j =>
        cases h⟩, (fun us hus fs hfs j τ h f hf => by
    cases hus
    rw [Tryd.underlying58] at hfs
    cases hfs
    cases j with
    | zero => cases h; cases hf; exact ⟨fun k e => (by cases e), fun e => (by cases e), fun e => (by cases e)⟩
    | succ j =>
     cases j with
     | zero => cases h; cases hf; exact ⟨fun k e => (by cases e), fun e => (by cases e), fun e => (by cases e)⟩
     | succ j =>
      cases j with
      | zero => cases h; cases hf; exact ⟨fun k e => (by cases e), fun e => (by cases e), fun e => (by cases e)⟩
      | succ j =>
       cases j with
       | zero => cases h; cases hf; exact ⟨fun k e => (by cases e), fun e => (by cases e), fun e => (by cases e)⟩
       | succ j =>
        cases h), Tryd.t58, rfl, rfl, fun _ _ => rfl⟩
theorem tn59 : TnOk Tryd.prog 59 (.st [.st [.int .i64, .sl 99 (.st [.str, .int .i64, .sl 121 (.st [.int .i64, .sl 3 (.int .i64), .sl 3 (.int .i64)])]), .sl 38 (.st [.int .i64, .int .i64, .bool, .int .i64]), .sl 112 (.st [.sl 124 (.st [.int .i64, .int .i64]), .sl 25 (.sl 3 (.int .i64))]), .sl 3 (.int .i64)], .st [.sl 3 (.int .i64), .sl 3 (.int .i64), .sl 25 (.sl 3 (.int .i64))], .sl 171 (.st [.int .i64, .int .i64, .int .i64]), .sl 176 (.st [.int .i64, .st [.int .i64, .int .i64, .int .i64, .int .i64], .sl 171 (.st [.int .i64, .int .i64, .int .i64])])]) := ⟨⟨_, Tryd.underlying59, Tryd.eqGuardType59, Tryd.stoodInHeld59, rfl, fun j τ h => by
    cases j with
    | zero => cases h; exact ⟨_, _, rfl, rfl, by decide, by decide, Tryd.underlying36, rfl, ⟨_, rfl⟩⟩
    | succ j =>
     cases j with
     | zero => cases h; exact ⟨_, _, rfl, rfl, by decide, by decide, Tryd.underlying55, rfl, ⟨_, rfl⟩⟩
     | succ j =>
      cases j with
      | zero => cases h; exact ⟨_, _, rfl, rfl, by decide, by decide, Tryd.underlying56, rfl, fun us h => by cases h⟩
      | succ j =>
       cases j with
       | zero => cases h; exact ⟨_, _, rfl, rfl, by decide, by decide, Tryd.underlying57, rfl, fun us h => by cases h⟩
       | succ j =>
        cases h⟩, (fun us hus fs hfs j τ h f hf => by
    cases hus
    rw [Tryd.underlying59] at hfs
    cases hfs
    cases j with
    | zero => cases h; cases hf; exact ⟨fun k e => (by cases e), fun e => (by cases e), fun e => (by cases e)⟩
    | succ j =>
     cases j with
     | zero => cases h; cases hf; exact ⟨fun k e => (by cases e), fun e => (by cases e), fun e => (by cases e)⟩
     | succ j =>
      cases j with
      | zero => cases h; cases hf; exact ⟨fun k e => (by cases e), fun e => (by cases e), fun e => (by cases e)⟩
      | succ j =>
       cases j with
       | zero => cases h; cases hf; exact ⟨fun k e => (by cases e), fun e => (by cases e), fun e => (by cases e)⟩
       | succ j =>
        cases h), Tryd.t59, rfl, rfl, fun _ _ => rfl⟩
theorem tn60 : TnOk Tryd.prog 60 (.st [.sl 3 (.int .i64), .sl 3 (.int .i64)]) := ⟨⟨_, Tryd.underlying60, Tryd.eqGuardType60, Tryd.stoodInHeld60, rfl, fun j τ h => by
    cases j with
    | zero => cases h; exact ⟨_, _, rfl, rfl, by decide, by decide, Tryd.underlying25, rfl, fun us h => by cases h⟩
    | succ j =>
     cases j with
     | zero => cases h; exact ⟨_, _, rfl, rfl, by decide, by decide, Tryd.underlying25, rfl, fun us h => by cases h⟩
     | succ j =>
      cases h⟩, (fun us hus fs hfs j τ h f hf => by
    cases hus
    rw [Tryd.underlying60] at hfs
    cases hfs
    cases j with
    | zero => cases h; cases hf; exact ⟨fun k e => (by cases e), fun e => (by cases e), fun e => (by cases e)⟩
    | succ j =>
     cases j with
     | zero => cases h; cases hf; exact ⟨fun k e => (by cases e), fun e => (by cases e), fun e => (by cases e)⟩
     | succ j =>
      cases h), Tryd.t60, rfl, rfl, fun _ _ => rfl⟩
theorem tn61 : TnOk Tryd.prog 61 (.st [.st [.st [.int .i64, .sl 99 (.st [.str, .int .i64, .sl 121 (.st [.int .i64, .sl 3 (.int .i64), .sl 3 (.int .i64)])]), .sl 38 (.st [.int .i64, .int .i64, .bool, .int .i64]), .sl 112 (.st [.sl 124 (.st [.int .i64, .int .i64]), .sl 25 (.sl 3 (.int .i64))]), .sl 3 (.int .i64)], .st [.sl 3 (.int .i64), .sl 3 (.int .i64), .sl 25 (.sl 3 (.int .i64))], .sl 171 (.st [.int .i64, .int .i64, .int .i64]), .sl 176 (.st [.int .i64, .st [.int .i64, .int .i64, .int .i64, .int .i64], .sl 171 (.st [.int .i64, .int .i64, .int .i64])])], .st [.sl 3 (.int .i64), .sl 3 (.int .i64)], .bool, .int .i64, .bool]) := ⟨⟨_, Tryd.underlying61, Tryd.eqGuardType61, Tryd.stoodInHeld61, rfl, fun j τ h => by
    cases j with
    | zero => cases h; exact ⟨_, _, rfl, rfl, by decide, by decide, Tryd.underlying59, rfl, ⟨_, rfl⟩⟩
    | succ j =>
     cases j with
     | zero => cases h; exact ⟨_, _, rfl, rfl, by decide, by decide, Tryd.underlying60, rfl, ⟨_, rfl⟩⟩
     | succ j =>
      cases j with
      | zero => cases h; exact ⟨_, _, rfl, rfl, by decide, by decide, Tryd.underlying4, rfl, fun us h => by cases h⟩
      | succ j =>
       cases j with
       | zero => cases h; exact ⟨_, _, rfl, rfl, by decide, by decide, Tryd.underlying3, rfl, fun us h => by cases h⟩
       | succ j =>
        cases j with
        | zero => cases h; exact ⟨_, _, rfl, rfl, by decide, by decide, Tryd.underlying4, rfl, fun us h => by cases h⟩
        | succ j =>
         cases h⟩, (fun us hus fs hfs j τ h f hf => by
    cases hus
    rw [Tryd.underlying61] at hfs
    cases hfs
    cases j with
    | zero => cases h; cases hf; exact ⟨fun k e => (by cases e), fun e => (by cases e), fun e => (by cases e)⟩
    | succ j =>
     cases j with
     | zero => cases h; cases hf; exact ⟨fun k e => (by cases e), fun e => (by cases e), fun e => (by cases e)⟩
     | succ j =>
      cases j with
      | zero => cases h; cases hf; exact ⟨fun k e => (by cases e), fun _ => Tryd.underlying4, fun e => (by cases e)⟩
      | succ j =>
       cases j with
       | zero => cases h; cases hf; exact ⟨fun k e => by cases e; exact Tryd.underlying3, fun e => (by cases e), fun e => (by cases e)⟩
       | succ j =>
        cases j with
        | zero => cases h; cases hf; exact ⟨fun k e => (by cases e), fun _ => Tryd.underlying4, fun e => (by cases e)⟩
        | succ j =>
         cases h), Tryd.t61, rfl, rfl, fun _ _ => rfl⟩
theorem tn62 : TnOk Tryd.prog 62 (.st [.st [.st [.int .i64, .sl 99 (.st [.str, .int .i64, .sl 121 (.st [.int .i64, .sl 3 (.int .i64), .sl 3 (.int .i64)])]), .sl 38 (.st [.int .i64, .int .i64, .bool, .int .i64]), .sl 112 (.st [.sl 124 (.st [.int .i64, .int .i64]), .sl 25 (.sl 3 (.int .i64))]), .sl 3 (.int .i64)], .st [.sl 3 (.int .i64), .sl 3 (.int .i64), .sl 25 (.sl 3 (.int .i64))], .sl 171 (.st [.int .i64, .int .i64, .int .i64]), .sl 176 (.st [.int .i64, .st [.int .i64, .int .i64, .int .i64, .int .i64], .sl 171 (.st [.int .i64, .int .i64, .int .i64])])], .st [.sl 3 (.int .i64), .sl 3 (.int .i64)], .bool, .int .i64, .bool]) := ⟨⟨_, Tryd.underlying62, Tryd.eqGuardType62, Tryd.stoodInHeld62, rfl, fun j τ h => by
    cases j with
    | zero => cases h; exact ⟨_, _, rfl, rfl, by decide, by decide, Tryd.underlying59, rfl, ⟨_, rfl⟩⟩
    | succ j =>
     cases j with
     | zero => cases h; exact ⟨_, _, rfl, rfl, by decide, by decide, Tryd.underlying60, rfl, ⟨_, rfl⟩⟩
     | succ j =>
      cases j with
      | zero => cases h; exact ⟨_, _, rfl, rfl, by decide, by decide, Tryd.underlying4, rfl, fun us h => by cases h⟩
      | succ j =>
       cases j with
       | zero => cases h; exact ⟨_, _, rfl, rfl, by decide, by decide, Tryd.underlying3, rfl, fun us h => by cases h⟩
       | succ j =>
        cases j with
        | zero => cases h; exact ⟨_, _, rfl, rfl, by decide, by decide, Tryd.underlying4, rfl, fun us h => by cases h⟩
        | succ j =>
         cases h⟩, (fun us hus fs hfs j τ h f hf => by
    cases hus
    rw [Tryd.underlying62] at hfs
    cases hfs
    cases j with
    | zero => cases h; cases hf; exact ⟨fun k e => (by cases e), fun e => (by cases e), fun e => (by cases e)⟩
    | succ j =>
     cases j with
     | zero => cases h; cases hf; exact ⟨fun k e => (by cases e), fun e => (by cases e), fun e => (by cases e)⟩
     | succ j =>
      cases j with
      | zero => cases h; cases hf; exact ⟨fun k e => (by cases e), fun _ => Tryd.underlying4, fun e => (by cases e)⟩
      | succ j =>
       cases j with
       | zero => cases h; cases hf; exact ⟨fun k e => by cases e; exact Tryd.underlying3, fun e => (by cases e), fun e => (by cases e)⟩
       | succ j =>
        cases j with
        | zero => cases h; cases hf; exact ⟨fun k e => (by cases e), fun _ => Tryd.underlying4, fun e => (by cases e)⟩
        | succ j =>
         cases h), Tryd.t62, rfl, rfl, fun _ _ => rfl⟩
theorem tn63 : TnOk Tryd.prog 63 (.fn [.st [.st [.st [.int .i64, .sl 104 (.st [.str, .int .i64, .sl 182 (.st [.int .i64, .sl 3 (.int .i64), .sl 3 (.int .i64)])]), .sl 29 (.st [.int .i64, .int .i64, .bool, .int .i64]), .sl 108 (.st [.sl 186 (.st [.int .i64, .int .i64]), .sl 25 (.sl 3 (.int .i64))]), .sl 3 (.int .i64)], .st [.sl 3 (.int .i64), .sl 3 (.int .i64), .sl 25 (.sl 3 (.int .i64))], .sl 173 (.st [.int .i64, .int .i64, .int .i64]), .sl 169 (.st [.int .i64, .st [.int .i64, .int .i64, .int .i64, .int .i64], .sl 173 (.st [.int .i64, .int .i64, .int .i64])])], .st [.sl 3 (.int .i64), .sl 3 (.int .i64)], .bool, .int .i64, .bool]] (.st [.st [.st [.int .i64, .sl 99 (.st [.str, .int .i64, .sl 121 (.st [.int .i64, .sl 3 (.int .i64), .sl 3 (.int .i64)])]), .sl 38 (.st [.int .i64, .int .i64, .bool, .int .i64]), .sl 112 (.st [.sl 124 (.st [.int .i64, .int .i64]), .sl 25 (.sl 3 (.int .i64))]), .sl 3 (.int .i64)], .st [.sl 3 (.int .i64), .sl 3 (.int .i64), .sl 25 (.sl 3 (.int .i64))], .sl 171 (.st [.int .i64, .int .i64, .int .i64]), .sl 176 (.st [.int .i64, .st [.int .i64, .int .i64, .int .i64, .int .i64], .sl 171 (.st [.int .i64, .int .i64, .int .i64])])], .st [.sl 3 (.int .i64), .sl 3 (.int .i64)], .bool, .int .i64, .bool])) := ⟨⟨_, _, _, Tryd.underlying63⟩, fun _ h => (by cases h), Tryd.t63, rfl, rfl, fun _ h => by cases h⟩
theorem tn64 : TnOk Tryd.prog 64 (.fn [.st [.st [.st [.int .i64, .sl 99 (.st [.str, .int .i64, .sl 121 (.st [.int .i64, .sl 3 (.int .i64), .sl 3 (.int .i64)])]), .sl 38 (.st [.int .i64, .int .i64, .bool, .int .i64]), .sl 112 (.st [.sl 124 (.st [.int .i64, .int .i64]), .sl 25 (.sl 3 (.int .i64))]), .sl 3 (.int .i64)], .st [.sl 3 (.int .i64), .sl 3 (.int .i64), .sl 25 (.sl 3 (.int .i64))], .sl 171 (.st [.int .i64, .int .i64, .int .i64]), .sl 176 (.st [.int .i64, .st [.int .i64, .int .i64, .int .i64, .int .i64], .sl 171 (.st [.int .i64, .int .i64, .int .i64])])], .st [.sl 3 (.int .i64), .sl 3 (.int .i64)], .bool, .int .i64, .bool], .st [.st [.st [.int .i64, .sl 99 (.st [.str, .int .i64, .sl 121 (.st [.int .i64, .sl 3 (.int .i64), .sl 3 (.int .i64)])]), .sl 38 (.st [.int .i64, .int .i64, .bool, .int .i64]), .sl 112 (.st [.sl 124 (.st [.int .i64, .int .i64]), .sl 25 (.sl 3 (.int .i64))]), .sl 3 (.int .i64)], .st [.sl 3 (.int .i64), .sl 3 (.int .i64), .sl 25 (.sl 3 (.int .i64))], .sl 171 (.st [.int .i64, .int .i64, .int .i64]), .sl 176 (.st [.int .i64, .st [.int .i64, .int .i64, .int .i64, .int .i64], .sl 171 (.st [.int .i64, .int .i64, .int .i64])])], .st [.sl 3 (.int .i64), .sl 3 (.int .i64)], .bool, .int .i64, .bool]] (.bool)) := ⟨⟨_, _, _, Tryd.underlying64⟩, fun _ h => (by cases h), Tryd.t64, rfl, rfl, fun _ h => by cases h⟩
theorem tn65 : TnOk Tryd.prog 65 (.fn [.st [.st [.st [.int .i64, .sl 104 (.st [.str, .int .i64, .sl 182 (.st [.int .i64, .sl 3 (.int .i64), .sl 3 (.int .i64)])]), .sl 29 (.st [.int .i64, .int .i64, .bool, .int .i64]), .sl 108 (.st [.sl 186 (.st [.int .i64, .int .i64]), .sl 25 (.sl 3 (.int .i64))]), .sl 3 (.int .i64)], .st [.sl 3 (.int .i64), .sl 3 (.int .i64), .sl 25 (.sl 3 (.int .i64))], .sl 173 (.st [.int .i64, .int .i64, .int .i64]), .sl 169 (.st [.int .i64, .st [.int .i64, .int .i64, .int .i64, .int .i64], .sl 173 (.st [.int .i64, .int .i64, .int .i64])])], .st [.sl 3 (.int .i64), .sl 3 (.int .i64)], .bool, .int .i64, .bool]] (.bool)) := ⟨⟨_, _, _, Tryd.underlying65⟩, fun _ h => (by cases h), Tryd.t65, rfl, rfl, fun _ h => by cases h⟩
theorem tn72 : TnOk Tryd.prog 72 (.fn [.sl 104 (.st [.str, .int .i64, .sl 182 (.st [.int .i64, .sl 3 (.int .i64), .sl 3 (.int .i64)])]), .int .i64] (.int .i64)) := ⟨⟨_, _, _, Tryd.underlying72⟩, fun _ h => (by cases h), Tryd.t72, rfl, rfl, fun _ h => by cases h⟩
theorem tn73 : TnOk Tryd.prog 73 (.fn [.sl 29 (.st [.int .i64, .int .i64, .bool, .int .i64]), .int .i64] (.int .i64)) := ⟨⟨_, _, _, Tryd.underlying73⟩, fun _ h => (by cases h), Tryd.t73, rfl, rfl, fun _ h => by cases h⟩
theorem tn74 : TnOk Tryd.prog 74 (.fn [.sl 108 (.st [.sl 186 (.st [.int .i64, .int .i64]), .sl 25 (.sl 3 (.int .i64))]), .int .i64] (.int .i64)) := ⟨⟨_, _, _, Tryd.underlying74⟩, fun _ h => (by cases h), Tryd.t74, rfl, rfl, fun _ h => by cases h⟩
theorem tn75 : TnOk Tryd.prog 75 (.fn [.sl 3 (.int .i64), .int .i64] (.int .i64)) := ⟨⟨_, _, _, Tryd.underlying75⟩, fun _ h => (by cases h), Tryd.t75, rfl, rfl, fun _ h => by cases h⟩
theorem tn78 : TnOk Tryd.prog 78 (.fn [.sl 104 (.st [.str, .int .i64, .sl 182 (.st [.int .i64, .sl 3 (.int .i64), .sl 3 (.int .i64)])])] (.sl 99 (.st [.str, .int .i64, .sl 121 (.st [.int .i64, .sl 3 (.int .i64), .sl 3 (.int .i64)])]))) := ⟨⟨_, _, _, Tryd.underlying78⟩, fun _ h => (by cases h), Tryd.t78, rfl, rfl, fun _ h => by cases h⟩
theorem tn79 : TnOk Tryd.prog 79 (.fn [.sl 29 (.st [.int .i64, .int .i64, .bool, .int .i64])] (.sl 38 (.st [.int .i64, .int .i64, .bool, .int .i64]))) := ⟨⟨_, _, _, Tryd.underlying79⟩, fun _ h => (by cases h), Tryd.t79, rfl, rfl, fun _ h => by cases h⟩
theorem tn80 : TnOk Tryd.prog 80 (.fn [.sl 108 (.st [.sl 186 (.st [.int .i64, .int .i64]), .sl 25 (.sl 3 (.int .i64))])] (.sl 112 (.st [.sl 124 (.st [.int .i64, .int .i64]), .sl 25 (.sl 3 (.int .i64))]))) := ⟨⟨_, _, _, Tryd.underlying80⟩, fun _ h => (by cases h), Tryd.t80, rfl, rfl, fun _ h => by cases h⟩
theorem tn81 : TnOk Tryd.prog 81 (.fn [.sl 3 (.int .i64)] (.sl 3 (.int .i64))) := ⟨⟨_, _, _, Tryd.underlying81⟩, fun _ h => (by cases h), Tryd.t81, rfl, rfl, fun _ h => by cases h⟩
theorem tn84 : TnOk Tryd.prog 84 (.fn [.sl 99 (.st [.str, .int .i64, .sl 121 (.st [.int .i64, .sl 3 (.int .i64), .sl 3 (.int .i64)])]), .sl 99 (.st [.str, .int .i64, .sl 121 (.st [.int .i64, .sl 3 (.int .i64), .sl 3 (.int .i64)])])] (.bool)) := ⟨⟨_, _, _, Tryd.underlying84⟩, fun _ h => (by cases h), Tryd.t84, rfl, rfl, fun _ h => by cases h⟩
theorem tn85 : TnOk Tryd.prog 85 (.fn [.sl 38 (.st [.int .i64, .int .i64, .bool, .int .i64]), .sl 38 (.st [.int .i64, .int .i64, .bool, .int .i64])] (.bool)) := ⟨⟨_, _, _, Tryd.underlying85⟩, fun _ h => (by cases h), Tryd.t85, rfl, rfl, fun _ h => by cases h⟩
theorem tn86 : TnOk Tryd.prog 86 (.fn [.sl 112 (.st [.sl 124 (.st [.int .i64, .int .i64]), .sl 25 (.sl 3 (.int .i64))]), .sl 112 (.st [.sl 124 (.st [.int .i64, .int .i64]), .sl 25 (.sl 3 (.int .i64))])] (.bool)) := ⟨⟨_, _, _, Tryd.underlying86⟩, fun _ h => (by cases h), Tryd.t86, rfl, rfl, fun _ h => by cases h⟩
theorem tn87 : TnOk Tryd.prog 87 (.fn [.sl 3 (.int .i64), .sl 3 (.int .i64)] (.bool)) := ⟨⟨_, _, _, Tryd.underlying87⟩, fun _ h => (by cases h), Tryd.t87, rfl, rfl, fun _ h => by cases h⟩
theorem tn88 : TnOk Tryd.prog 88 (.fn [.st [.st [.int .i64, .sl 104 (.st [.str, .int .i64, .sl 182 (.st [.int .i64, .sl 3 (.int .i64), .sl 3 (.int .i64)])]), .sl 29 (.st [.int .i64, .int .i64, .bool, .int .i64]), .sl 108 (.st [.sl 186 (.st [.int .i64, .int .i64]), .sl 25 (.sl 3 (.int .i64))]), .sl 3 (.int .i64)], .st [.sl 3 (.int .i64), .sl 3 (.int .i64), .sl 25 (.sl 3 (.int .i64))], .sl 173 (.st [.int .i64, .int .i64, .int .i64]), .sl 169 (.st [.int .i64, .st [.int .i64, .int .i64, .int .i64, .int .i64], .sl 173 (.st [.int .i64, .int .i64, .int .i64])])], .int .i64] (.int .i64)) := ⟨⟨_, _, _, Tryd.underlying88⟩, fun _ h => (by cases h), Tryd.t88, rfl, rfl, fun _ h => by cases h⟩
theorem tn89 : TnOk Tryd.prog 89 (.fn [.st [.sl 3 (.int .i64), .sl 3 (.int .i64)], .int .i64] (.int .i64)) := ⟨⟨_, _, _, Tryd.underlying89⟩, fun _ h => (by cases h), Tryd.t89, rfl, rfl, fun _ h => by cases h⟩
theorem tn90 : TnOk Tryd.prog 90 (.fn [.int .i64] (.str)) := ⟨⟨_, _, _, Tryd.underlying90⟩, fun _ h => (by cases h), Tryd.t90, rfl, rfl, fun _ h => by cases h⟩
theorem tn91 : TnOk Tryd.prog 91 (.fn [.st [.st [.int .i64, .sl 104 (.st [.str, .int .i64, .sl 182 (.st [.int .i64, .sl 3 (.int .i64), .sl 3 (.int .i64)])]), .sl 29 (.st [.int .i64, .int .i64, .bool, .int .i64]), .sl 108 (.st [.sl 186 (.st [.int .i64, .int .i64]), .sl 25 (.sl 3 (.int .i64))]), .sl 3 (.int .i64)], .st [.sl 3 (.int .i64), .sl 3 (.int .i64), .sl 25 (.sl 3 (.int .i64))], .sl 173 (.st [.int .i64, .int .i64, .int .i64]), .sl 169 (.st [.int .i64, .st [.int .i64, .int .i64, .int .i64, .int .i64], .sl 173 (.st [.int .i64, .int .i64, .int .i64])])]] (.st [.st [.int .i64, .sl 99 (.st [.str, .int .i64, .sl 121 (.st [.int .i64, .sl 3 (.int .i64), .sl 3 (.int .i64)])]), .sl 38 (.st [.int .i64, .int .i64, .bool, .int .i64]), .sl 112 (.st [.sl 124 (.st [.int .i64, .int .i64]), .sl 25 (.sl 3 (.int .i64))]), .sl 3 (.int .i64)], .st [.sl 3 (.int .i64), .sl 3 (.int .i64), .sl 25 (.sl 3 (.int .i64))], .sl 171 (.st [.int .i64, .int .i64, .int .i64]), .sl 176 (.st [.int .i64, .st [.int .i64, .int .i64, .int .i64, .int .i64], .sl 171 (.st [.int .i64, .int .i64, .int .i64])])])) := ⟨⟨_, _, _, Tryd.underlying91⟩, fun _ h => (by cases h), Tryd.t91, rfl, rfl, fun _ h => by cases h⟩
theorem tn92 : TnOk Tryd.prog 92 (.fn [.st [.sl 3 (.int .i64), .sl 3 (.int .i64)]] (.st [.sl 3 (.int .i64), .sl 3 (.int .i64)])) := ⟨⟨_, _, _, Tryd.underlying92⟩, fun _ h => (by cases h), Tryd.t92, rfl, rfl, fun _ h => by cases h⟩
theorem tn93 : TnOk Tryd.prog 93 (.fn [.st [.st [.int .i64, .sl 99 (.st [.str, .int .i64, .sl 121 (.st [.int .i64, .sl 3 (.int .i64), .sl 3 (.int .i64)])]), .sl 38 (.st [.int .i64, .int .i64, .bool, .int .i64]), .sl 112 (.st [.sl 124 (.st [.int .i64, .int .i64]), .sl 25 (.sl 3 (.int .i64))]), .sl 3 (.int .i64)], .st [.sl 3 (.int .i64), .sl 3 (.int .i64), .sl 25 (.sl 3 (.int .i64))], .sl 171 (.st [.int .i64, .int .i64, .int .i64]), .sl 176 (.st [.int .i64, .st [.int .i64, .int .i64, .int .i64, .int .i64], .sl 171 (.st [.int .i64, .int .i64, .int .i64])])], .st [.st [.int .i64, .sl 99 (.st [.str, .int .i64, .sl 121 (.st [.int .i64, .sl 3 (.int .i64), .sl 3 (.int .i64)])]), .sl 38 (.st [.int .i64, .int .i64, .bool, .int .i64]), .sl 112 (.st [.sl 124 (.st [.int .i64, .int .i64]), .sl 25 (.sl 3 (.int .i64))]), .sl 3 (.int .i64)], .st [.sl 3 (.int .i64), .sl 3 (.int .i64), .sl 25 (.sl 3 (.int .i64))], .sl 171 (.st [.int .i64, .int .i64, .int .i64]), .sl 176 (.st [.int .i64, .st [.int .i64, .int .i64, .int .i64, .int .i64], .sl 171 (.st [.int .i64, .int .i64, .int .i64])])]] (.bool)) := ⟨⟨_, _, _, Tryd.underlying93⟩, fun _ h => (by cases h), Tryd.t93, rfl, rfl, fun _ h => by cases h⟩
theorem tn94 : TnOk Tryd.prog 94 (.fn [.st [.sl 3 (.int .i64), .sl 3 (.int .i64)], .st [.sl 3 (.int .i64), .sl 3 (.int .i64)]] (.bool)) := ⟨⟨_, _, _, Tryd.underlying94⟩, fun _ h => (by cases h), Tryd.t94, rfl, rfl, fun _ h => by cases h⟩
theorem tn97 : TnOk Tryd.prog 97 (.sl 121 (.st [.int .i64, .sl 3 (.int .i64), .sl 3 (.int .i64)])) := ⟨⟨Tryd.underlying97, Tryd.t121, _, rfl, rfl, rfl, rfl, by decide, by decide, fun _ _ => rfl, fun k h => by cases h⟩, fun _ h => (by cases h), Tryd.t97, rfl, rfl, fun _ _ => rfl⟩
theorem tn98 : TnOk Tryd.prog 98 (.st [.str, .int .i64, .sl 121 (.st [.int .i64, .sl 3 (.int .i64), .sl 3 (.int .i64)])]) := ⟨⟨_, Tryd.underlying98, Tryd.eqGuardType98, Tryd.stoodInHeld98, rfl, fun j τ h => by
    cases j with
    | zero => cases h; exact ⟨_, _, rfl, rfl, by decide, by decide, Tryd.underlying9, rfl, fun us h => by cases h⟩
    | succ j =>
     cases j with
     | zero => cases h; exact ⟨_, _, rfl, rfl, by decide, by decide, Tryd.underlying3, rfl, fun us h => by cases h⟩
     | succ j =>
      cases j with
      | zero => cases h; exact ⟨_, _, rfl, rfl, by decide, by decide, Tryd.underlying97, rfl, fun us h => by cases h⟩
      | succ j =>
       cases h⟩, (fun us hus fs hfs j τ h f hf => by
    cases hus
    rw [Tryd.underlying98] at hfs
    cases hfs
    cases j with
    | zero => cases h; cases hf; exact ⟨fun k e => (by cases e), fun e => (by cases e), fun _ => Tryd.underlying9⟩
    | succ j =>
     cases j with
     | zero => cases h; cases hf; exact ⟨fun k e => by cases e; exact Tryd.underlying3, fun e => (by cases e), fun e => (by cases e)⟩
     | succ j =>
      cases j with
      | zero => cases h; cases hf; exact ⟨fun k e => (by cases e), fun e => (by cases e), fun e => (by cases e)⟩
      | succ j =>
       cases h), Tryd.t98, rfl, rfl, fun _ _ => rfl⟩
theorem tn99 : TnOk Tryd.prog 99 (.st [.str, .int .i64, .sl 121 (.st [.int .i64, .sl 3 (.int .i64), .sl 3 (.int .i64)])]) := ⟨⟨_, Tryd.underlying99, Tryd.eqGuardType99, Tryd.stoodInHeld99, rfl, fun j τ h => by
    cases j with
    | zero => cases h; exact ⟨_, _, rfl, rfl, by decide, by decide, Tryd.underlying9, rfl, fun us h => by cases h⟩
    | succ j =>
     cases j with
     | zero => cases h; exact ⟨_, _, rfl, rfl, by decide, by decide, Tryd.underlying3, rfl, fun us h => by cases h⟩
     | succ j =>
      cases j with
      | zero => cases h; exact ⟨_, _, rfl, rfl, by decide, by decide, Tryd.underlying97, rfl, fun us h => by cases h⟩
      | succ j =>
       cases h⟩, (fun us hus fs hfs j τ h f hf => by
    cases hus
    rw [Tryd.underlying99] at hfs
    cases hfs
    cases j with
    | zero => cases h; cases hf; exact ⟨fun k e => (by cases e), fun e => (by cases e), fun _ => Tryd.underlying9⟩
    | succ j =>
     cases j with
     | zero => cases h; cases hf; exact ⟨fun k e => by cases e; exact Tryd.underlying3, fun e => (by cases e), fun e => (by cases e)⟩
     | succ j =>
      cases j with
      | zero => cases h; cases hf; exact ⟨fun k e => (by cases e), fun e => (by cases e), fun e => (by cases e)⟩
      | succ j =>
       cases h), Tryd.t99, rfl, rfl, fun _ _ => rfl⟩
theorem tn101 : TnOk Tryd.prog 101 (.fn [.st [.str, .int .i64, .sl 182 (.st [.int .i64, .sl 3 (.int .i64), .sl 3 (.int .i64)])], .int .i64] (.int .i64)) := ⟨⟨_, _, _, Tryd.underlying101⟩, fun _ h => (by cases h), Tryd.t101, rfl, rfl, fun _ h => by cases h⟩
theorem tn102 : TnOk Tryd.prog 102 (.sl 182 (.st [.int .i64, .sl 3 (.int .i64), .sl 3 (.int .i64)])) := ⟨⟨Tryd.underlying102, Tryd.t182, _, rfl, rfl, rfl, rfl, by decide, by decide, fun _ _ => rfl, fun k h => by cases h⟩, fun _ h => (by cases h), Tryd.t102, rfl, rfl, fun _ _ => rfl⟩
theorem tn103 : TnOk Tryd.prog 103 (.st [.str, .int .i64, .sl 182 (.st [.int .i64, .sl 3 (.int .i64), .sl 3 (.int .i64)])]) := ⟨⟨_, Tryd.underlying103, Tryd.eqGuardType103, Tryd.stoodInHeld103, rfl, fun j τ h => by
    cases j with
    | zero => cases h; exact ⟨_, _, rfl, rfl, by decide, by decide, Tryd.underlying9, rfl, fun us h => by cases h⟩
    | succ j =>
     cases j with
     | zero => cases h; exact ⟨_, _, rfl, rfl, by decide, by decide, Tryd.underlying3, rfl, fun us h => by cases h⟩
     | succ j =>
      cases j with
      | zero => cases h; exact ⟨_, _, rfl, rfl, by decide, by decide, Tryd.underlying102, rfl, fun us h => by cases h⟩
      | succ j =>
       cases h⟩, (fun us hus fs hfs j τ h f hf => by
    cases hus
    rw [Tryd.underlying103] at hfs
    cases hfs
    cases j with
    | zero => cases h; cases hf; exact ⟨fun k e => (by cases e), fun e => (by cases e), fun _ => Tryd.underlying9⟩
    | succ j =>
     cases j with
     | zero => cases h; cases hf; exact ⟨fun k e => by cases e; exact Tryd.underlying3, fun e => (by cases e), fun e => (by cases e)⟩
     | succ j =>
      cases j with
      | zero => cases h; cases hf; exact ⟨fun k e => (by cases e), fun e => (by cases e), fun e => (by cases e)⟩
      | succ j =>
       cases h), Tryd.t103, rfl, rfl, fun _ _ => rfl⟩
theorem tn104 : TnOk Tryd.prog 104 (.st [.str, .int .i64, .sl 182 (.st [.int .i64, .sl 3 (.int .i64), .sl 3 (.int .i64)])]) := ⟨⟨_, Tryd.underlying104, Tryd.eqGuardType104, Tryd.stoodInHeld104, rfl, fun j τ h => by
    cases j with
    | zero => cases h; exact ⟨_, _, rfl, rfl, by decide, by decide, Tryd.underlying9, rfl, fun us h => by cases h⟩
    | succ j =>
     cases j with
     | zero => cases h; exact ⟨_, _, rfl, rfl, by decide, by decide, Tryd.underlying3, rfl, fun us h => by cases h⟩
     | succ j =>
      cases j with
      | zero => cases h; exact ⟨_, _, rfl, rfl, by decide, by decide, Tryd.underlying102, rfl, fun us h => by cases h⟩
      | succ j =>
       cases h⟩, (fun us hus fs hfs j τ h f hf => by
    cases hus
    rw [Tryd.underlying104] at hfs
    cases hfs
    cases j with
    | zero => cases h; cases hf; exact ⟨fun k e => (by cases e), fun e => (by cases e), fun _ => Tryd.underlying9⟩
    | succ j =>
     cases j with
     | zero => cases h; cases hf; exact ⟨fun k e => by cases e; exact Tryd.underlying3, fun e => (by cases e), fun e => (by cases e)⟩
     | succ j =>
      cases j with
      | zero => cases h; cases hf; exact ⟨fun k e => (by cases e), fun e => (by cases e), fun e => (by cases e)⟩
      | succ j =>
       cases h), Tryd.t104, rfl, rfl, fun _ _ => rfl⟩
theorem tn105 : TnOk Tryd.prog 105 (.fn [.st [.sl 186 (.st [.int .i64, .int .i64]), .sl 25 (.sl 3 (.int .i64))], .int .i64] (.int .i64)) := ⟨⟨_, _, _, Tryd.underlying105⟩, fun _ h => (by cases h), Tryd.t105, rfl, rfl, fun _ h => by cases h⟩
theorem tn106 : TnOk Tryd.prog 106 (.sl 186 (.st [.int .i64, .int .i64])) := ⟨⟨Tryd.underlying106, Tryd.t186, _, rfl, rfl, rfl, rfl, by decide, by decide, fun _ _ => rfl, fun k h => by cases h⟩, fun _ h => (by cases h), Tryd.t106, rfl, rfl, fun _ _ => rfl⟩
theorem tn107 : TnOk Tryd.prog 107 (.st [.sl 186 (.st [.int .i64, .int .i64]), .sl 25 (.sl 3 (.int .i64))]) := ⟨⟨_, Tryd.underlying107, Tryd.eqGuardType107, Tryd.stoodInHeld107, rfl, fun j τ h => by
    cases j with
    | zero => cases h; exact ⟨_, _, rfl, rfl, by decide, by decide, Tryd.underlying106, rfl, fun us h => by cases h⟩
    | succ j =>
     cases j with
     | zero => cases h; exact ⟨_, _, rfl, rfl, by decide, by decide, Tryd.underlying42, rfl, fun us h => by cases h⟩
     | succ j =>
      cases h⟩, (fun us hus fs hfs j τ h f hf => by
    cases hus
    rw [Tryd.underlying107] at hfs
    cases hfs
    cases j with
    | zero => cases h; cases hf; exact ⟨fun k e => (by cases e), fun e => (by cases e), fun e => (by cases e)⟩
    | succ j =>
     cases j with
     | zero => cases h; cases hf; exact ⟨fun k e => (by cases e), fun e => (by cases e), fun e => (by cases e)⟩
     | succ j =>
      cases h), Tryd.t107, rfl, rfl, fun _ _ => rfl⟩
theorem tn108 : TnOk Tryd.prog 108 (.st [.sl 186 (.st [.int .i64, .int .i64]), .sl 25 (.sl 3 (.int .i64))]) := ⟨⟨_, Tryd.underlying108, Tryd.eqGuardType108, Tryd.stoodInHeld108, rfl, fun j τ h => by
    cases j with
    | zero => cases h; exact ⟨_, _, rfl, rfl, by decide, by decide, Tryd.underlying106, rfl, fun us h => by cases h⟩
    | succ j =>
     cases j with
     | zero => cases h; exact ⟨_, _, rfl, rfl, by decide, by decide, Tryd.underlying42, rfl, fun us h => by cases h⟩
     | succ j =>
      cases h⟩, (fun us hus fs hfs j τ h f hf => by
    cases hus
    rw [Tryd.underlying108] at hfs
    cases hfs
    cases j with
    | zero => cases h; cases hf; exact ⟨fun k e => (by cases e), fun e => (by cases e), fun e => (by cases e)⟩
    | succ j =>
     cases j with
     | zero => cases h; cases hf; exact ⟨fun k e => (by cases e), fun e => (by cases e), fun e => (by cases e)⟩
     | succ j =>
      cases h), Tryd.t108, rfl, rfl, fun _ _ => rfl⟩
theorem tn110 : TnOk Tryd.prog 110 (.sl 124 (.st [.int .i64, .int .i64])) := ⟨⟨Tryd.underlying110, Tryd.t124, _, rfl, rfl, rfl, rfl, by decide, by decide, fun _ _ => rfl, fun k h => by cases h⟩, fun _ h => (by cases h), Tryd.t110, rfl, rfl, fun _ _ => rfl⟩
theorem tn111 : TnOk Tryd.prog 111 (.st [.sl 124 (.st [.int .i64, .int .i64]), .sl 25 (.sl 3 (.int .i64))]) := ⟨⟨_, Tryd.underlying111, Tryd.eqGuardType111, Tryd.stoodInHeld111, rfl, fun j τ h => by
    cases j with
    | zero => cases h; exact ⟨_, _, rfl, rfl, by decide, by decide, Tryd.underlying110, rfl, fun us h => by cases h⟩
    | succ j =>
     cases j with
     | zero => cases h; exact ⟨_, _, rfl, rfl, by decide, by decide, Tryd.underlying42, rfl, fun us h => by cases h⟩
     | succ j =>
      cases h⟩, (fun us hus fs hfs j τ h f hf => by
    cases hus
    rw [Tryd.underlying111] at hfs
    cases hfs
    cases j with
    | zero => cases h; cases hf; exact ⟨fun k e => (by cases e), fun e => (by cases e), fun e => (by cases e)⟩
    | succ j =>
     cases j with
     | zero => cases h; cases hf; exact ⟨fun k e => (by cases e), fun e => (by cases e), fun e => (by cases e)⟩
     | succ j =>
      cases h), Tryd.t111, rfl, rfl, fun _ _ => rfl⟩
theorem tn112 : TnOk Tryd.prog 112 (.st [.sl 124 (.st [.int .i64, .int .i64]), .sl 25 (.sl 3 (.int .i64))]) := ⟨⟨_, Tryd.underlying112, Tryd.eqGuardType112, Tryd.stoodInHeld112, rfl, fun j τ h => by
    cases j with
    | zero => cases h; exact ⟨_, _, rfl, rfl, by decide, by decide, Tryd.underlying110, rfl, fun us h => by cases h⟩
    | succ j =>
     cases j with
     | zero => cases h; exact ⟨_, _, rfl, rfl, by decide, by decide, Tryd.underlying42, rfl, fun us h => by cases h⟩
     | succ j =>
      cases h⟩, (fun us hus fs hfs j τ h f hf => by
    cases hus
    rw [Tryd.underlying112] at hfs
    cases hfs
    cases j with
    | zero => cases h; cases hf; exact ⟨fun k e => (by cases e), fun e => (by cases e), fun e => (by cases e)⟩
    | succ j =>
     cases j with
     | zero => cases h; cases hf; exact ⟨fun k e => (by cases e), fun e => (by cases e), fun e => (by cases e)⟩
     | succ j =>
      cases h), Tryd.t112, rfl, rfl, fun _ _ => rfl⟩
theorem tn113 : TnOk Tryd.prog 113 (.fn [.int .i64, .int .i64, .int .i64] (.bool)) := ⟨⟨_, _, _, Tryd.underlying113⟩, fun _ h => (by cases h), Tryd.t113, rfl, rfl, fun _ h => by cases h⟩
theorem tn117 : TnOk Tryd.prog 117 (.fn [.st [.str, .int .i64, .sl 182 (.st [.int .i64, .sl 3 (.int .i64), .sl 3 (.int .i64)])]] (.st [.str, .int .i64, .sl 121 (.st [.int .i64, .sl 3 (.int .i64), .sl 3 (.int .i64)])])) := ⟨⟨_, _, _, Tryd.underlying117⟩, fun _ h => (by cases h), Tryd.t117, rfl, rfl, fun _ h => by cases h⟩
theorem tn118 : TnOk Tryd.prog 118 (.fn [.st [.sl 186 (.st [.int .i64, .int .i64]), .sl 25 (.sl 3 (.int .i64))]] (.st [.sl 124 (.st [.int .i64, .int .i64]), .sl 25 (.sl 3 (.int .i64))])) := ⟨⟨_, _, _, Tryd.underlying118⟩, fun _ h => (by cases h), Tryd.t118, rfl, rfl, fun _ h => by cases h⟩
theorem tn120 : TnOk Tryd.prog 120 (.st [.int .i64, .sl 3 (.int .i64), .sl 3 (.int .i64)]) := ⟨⟨_, Tryd.underlying120, Tryd.eqGuardType120, Tryd.stoodInHeld120, rfl, fun j τ h => by
    cases j with
    | zero => cases h; exact ⟨_, _, rfl, rfl, by decide, by decide, Tryd.underlying3, rfl, fun us h => by cases h⟩
    | succ j =>
     cases j with
     | zero => cases h; exact ⟨_, _, rfl, rfl, by decide, by decide, Tryd.underlying25, rfl, fun us h => by cases h⟩
     | succ j =>
      cases j with
      | zero => cases h; exact ⟨_, _, rfl, rfl, by decide, by decide, Tryd.underlying25, rfl, fun us h => by cases h⟩
      | succ j =>
       cases h⟩, (fun us hus fs hfs j τ h f hf => by
    cases hus
    rw [Tryd.underlying120] at hfs
    cases hfs
    cases j with
    | zero => cases h; cases hf; exact ⟨fun k e => by cases e; exact Tryd.underlying3, fun e => (by cases e), fun e => (by cases e)⟩
    | succ j =>
     cases j with
     | zero => cases h; cases hf; exact ⟨fun k e => (by cases e), fun e => (by cases e), fun e => (by cases e)⟩
     | succ j =>
      cases j with
      | zero => cases h; cases hf; exact ⟨fun k e => (by cases e), fun e => (by cases e), fun e => (by cases e)⟩
      | succ j =>
       cases h), Tryd.t120, rfl, rfl, fun _ _ => rfl⟩
theorem tn121 : TnOk Tryd.prog 121 (.st [.int .i64, .sl 3 (.int .i64), .sl 3 (.int .i64)]) := ⟨⟨_, Tryd.underlying121, Tryd.eqGuardType121, Tryd.stoodInHeld121, rfl, fun j τ h => by
    cases j with
    | zero => cases h; exact ⟨_, _, rfl, rfl, by decide, by decide, Tryd.underlying3, rfl, fun us h => by cases h⟩
    | succ j =>
     cases j with
     | zero => cases h; exact ⟨_, _, rfl, rfl, by decide, by decide, Tryd.underlying25, rfl, fun us h => by cases h⟩
     | succ j =>
      cases j with
      | zero => cases h; exact ⟨_, _, rfl, rfl, by decide, by decide, Tryd.underlying25, rfl, fun us h => by cases h⟩
      | succ j =>
       cases h⟩, (fun us hus fs hfs j τ h f hf => by
    cases hus
    rw [Tryd.underlying121] at hfs
    cases hfs
    cases j with
    | zero => cases h; cases hf; exact ⟨fun k e => by cases e; exact Tryd.underlying3, fun e => (by cases e), fun e => (by cases e)⟩
    | succ j =>
     cases j with
     | zero => cases h; cases hf; exact ⟨fun k e => (by cases e), fun e => (by cases e), fun e => (by cases e)⟩
     | succ j =>
      cases j with
      | zero => cases h; cases hf; exact ⟨fun k e => (by cases e), fun e => (by cases e), fun e => (by cases e)⟩
      | succ j =>
       cases h), Tryd.t121, rfl, rfl, fun _ _ => rfl⟩
theorem tn123 : TnOk Tryd.prog 123 (.st [.int .i64, .int .i64]) := ⟨⟨_, Tryd.underlying123, Tryd.eqGuardType123, Tryd.stoodInHeld123, rfl, fun j τ h => by
    cases j with
    | zero => cases h; exact ⟨_, _, rfl, rfl, by decide, by decide, Tryd.underlying3, rfl, fun us h => by cases h⟩
    | succ j =>
     cases j with
     | zero => cases h; exact ⟨_, _, rfl, rfl, by decide, by decide, Tryd.underlying3, rfl, fun us h => by cases h⟩
     | succ j =>
      cases h⟩, (fun us hus fs hfs j τ h f hf => by
    cases hus
    rw [Tryd.underlying123] at hfs
    cases hfs
    cases j with
    | zero => cases h; cases hf; exact ⟨fun k e => by cases e; exact Tryd.underlying3, fun e => (by cases e), fun e => (by cases e)⟩
    | succ j =>
     cases j with
     | zero => cases h; cases hf; exact ⟨fun k e => by cases e; exact Tryd.underlying3, fun e => (by cases e), fun e => (by cases e)⟩
     | succ j =>
      cases h), Tryd.t123, rfl, rfl, fun _ _ => rfl⟩
theorem tn124 : TnOk Tryd.prog 124 (.st [.int .i64, .int .i64]) := ⟨⟨_, Tryd.underlying124, Tryd.eqGuardType124, Tryd.stoodInHeld124, rfl, fun j τ h => by
    cases j with
    | zero => cases h; exact ⟨_, _, rfl, rfl, by decide, by decide, Tryd.underlying3, rfl, fun us h => by cases h⟩
    | succ j =>
     cases j with
     | zero => cases h; exact ⟨_, _, rfl, rfl, by decide, by decide, Tryd.underlying3, rfl, fun us h => by cases h⟩
     | succ j =>
      cases h⟩, (fun us hus fs hfs j τ h f hf => by
    cases hus
    rw [Tryd.underlying124] at hfs
    cases hfs
    cases j with
    | zero => cases h; cases hf; exact ⟨fun k e => by cases e; exact Tryd.underlying3, fun e => (by cases e), fun e => (by cases e)⟩
    | succ j =>
     cases j with
     | zero => cases h; cases hf; exact ⟨fun k e => by cases e; exact Tryd.underlying3, fun e => (by cases e), fun e => (by cases e)⟩
     | succ j =>
      cases h), Tryd.t124, rfl, rfl, fun _ _ => rfl⟩
theorem tn127 : TnOk Tryd.prog 127 (.fn [.st [.str, .int .i64, .sl 121 (.st [.int .i64, .sl 3 (.int .i64), .sl 3 (.int .i64)])], .st [.str, .int .i64, .sl 121 (.st [.int .i64, .sl 3 (.int .i64), .sl 3 (.int .i64)])]] (.bool)) := ⟨⟨_, _, _, Tryd.underlying127⟩, fun _ h => (by cases h), Tryd.t127, rfl, rfl, fun _ h => by cases h⟩
theorem tn128 : TnOk Tryd.prog 128 (.fn [.st [.int .i64, .int .i64, .bool, .int .i64], .st [.int .i64, .int .i64, .bool, .int .i64]] (.bool)) := ⟨⟨_, _, _, Tryd.underlying128⟩, fun _ h => (by cases h), Tryd.t128, rfl, rfl, fun _ h => by cases h⟩
theorem tn129 : TnOk Tryd.prog 129 (.fn [.st [.sl 124 (.st [.int .i64, .int .i64]), .sl 25 (.sl 3 (.int .i64))], .st [.sl 124 (.st [.int .i64, .int .i64]), .sl 25 (.sl 3 (.int .i64))]] (.bool)) := ⟨⟨_, _, _, Tryd.underlying129⟩, fun _ h => (by cases h), Tryd.t129, rfl, rfl, fun _ h => by cases h⟩
theorem tn130 : TnOk Tryd.prog 130 (.fn [.st [.sl 3 (.int .i64), .sl 3 (.int .i64), .sl 25 (.sl 3 (.int .i64))], .int .i64] (.int .i64)) := ⟨⟨_, _, _, Tryd.underlying130⟩, fun _ h => (by cases h), Tryd.t130, rfl, rfl, fun _ h => by cases h⟩
theorem tn131 : TnOk Tryd.prog 131 (.fn [.sl 173 (.st [.int .i64, .int .i64, .int .i64]), .int .i64] (.int .i64)) := ⟨⟨_, _, _, Tryd.underlying131⟩, fun _ h => (by cases h), Tryd.t131, rfl, rfl, fun _ h => by cases h⟩
theorem tn132 : TnOk Tryd.prog 132 (.fn [.sl 169 (.st [.int .i64, .st [.int .i64, .int .i64, .int .i64, .int .i64], .sl 173 (.st [.int .i64, .int .i64, .int .i64])]), .int .i64] (.int .i64)) := ⟨⟨_, _, _, Tryd.underlying132⟩, fun _ h => (by cases h), Tryd.t132, rfl, rfl, fun _ h => by cases h⟩
theorem tn133 : TnOk Tryd.prog 133 (.sl 5 (.int .u8)) := ⟨⟨Tryd.underlying133, Tryd.t5, _, rfl, rfl, rfl, rfl, by decide, by decide, fun _ _ => rfl, fun k h => by cases h; exact Tryd.underlying5⟩, fun _ h => (by cases h), Tryd.t133, rfl, rfl, fun _ _ => rfl⟩
theorem tn134 : TnOk Tryd.prog 134 (.fn [.st [.sl 3 (.int .i64), .sl 3 (.int .i64), .sl 25 (.sl 3 (.int .i64))]] (.st [.sl 3 (.int .i64), .sl 3 (.int .i64), .sl 25 (.sl 3 (.int .i64))])) := ⟨⟨_, _, _, Tryd.underlying134⟩, fun _ h => (by cases h), Tryd.t134, rfl, rfl, fun _ h => by cases h⟩
theorem tn135 : TnOk Tryd.prog 135 (.fn [.sl 173 (.st [.int .i64, .int .i64, .int .i64])] (.sl 171 (.st [.int .i64, .int .i64, .int .i64]))) := ⟨⟨_, _, _, Tryd.underlying135⟩, fun _ h => (by cases h), Tryd.t135, rfl, rfl, fun _ h => by cases h⟩
theorem tn136 : TnOk Tryd.prog 136 (.fn [.sl 169 (.st [.int .i64, .st [.int .i64, .int .i64, .int .i64, .int .i64], .sl 173 (.st [.int .i64, .int .i64, .int .i64])])] (.sl 176 (.st [.int .i64, .st [.int .i64, .int .i64, .int .i64, .int .i64], .sl 171 (.st [.int .i64, .int .i64, .int .i64])]))) := ⟨⟨_, _, _, Tryd.underlying136⟩, fun _ h => (by cases h), Tryd.t136, rfl, rfl, fun _ h => by cases h⟩
theorem tn137 : TnOk Tryd.prog 137 (.fn [.st [.sl 3 (.int .i64), .sl 3 (.int .i64), .sl 25 (.sl 3 (.int .i64))], .st [.sl 3 (.int .i64), .sl 3 (.int .i64), .sl 25 (.sl 3 (.int .i64))]] (.bool)) := ⟨⟨_, _, _, Tryd.underlying137⟩, fun _ h => (by cases h), Tryd.t137, rfl, rfl, fun _ h => by cases h⟩
theorem tn138 : TnOk Tryd.prog 138 (.fn [.sl 171 (.st [.int .i64, .int .i64, .int .i64]), .sl 171 (.st [.int .i64, .int .i64, .int .i64])] (.bool)) := ⟨⟨_, _, _, Tryd.underlying138⟩, fun _ h => (by cases h), Tryd.t138, rfl, rfl, fun _ h => by cases h⟩
theorem tn139 : TnOk Tryd.prog 139 (.fn [.sl 176 (.st [.int .i64, .st [.int .i64, .int .i64, .int .i64, .int .i64], .sl 171 (.st [.int .i64, .int .i64, .int .i64])]), .sl 176 (.st [.int .i64, .st [.int .i64, .int .i64, .int .i64, .int .i64], .sl 171 (.st [.int .i64, .int .i64, .int .i64])])] (.bool)) := ⟨⟨_, _, _, Tryd.underlying139⟩, fun _ h => (by cases h), Tryd.t139, rfl, rfl, fun _ h => by cases h⟩
theorem tn150 : TnOk Tryd.prog 150 (.fn [.sl 182 (.st [.int .i64, .sl 3 (.int .i64), .sl 3 (.int .i64)]), .int .i64] (.int .i64)) := ⟨⟨_, _, _, Tryd.underlying150⟩, fun _ h => (by cases h), Tryd.t150, rfl, rfl, fun _ h => by cases h⟩
theorem tn151 : TnOk Tryd.prog 151 (.fn [.sl 186 (.st [.int .i64, .int .i64]), .int .i64] (.int .i64)) := ⟨⟨_, _, _, Tryd.underlying151⟩, fun _ h => (by cases h), Tryd.t151, rfl, rfl, fun _ h => by cases h⟩
theorem tn152 : TnOk Tryd.prog 152 (.fn [.sl 25 (.sl 3 (.int .i64)), .int .i64] (.int .i64)) := ⟨⟨_, _, _, Tryd.underlying152⟩, fun _ h => (by cases h), Tryd.t152, rfl, rfl, fun _ h => by cases h⟩
theorem tn156 : TnOk Tryd.prog 156 (.fn [.sl 182 (.st [.int .i64, .sl 3 (.int .i64), .sl 3 (.int .i64)])] (.sl 121 (.st [.int .i64, .sl 3 (.int .i64), .sl 3 (.int .i64)]))) := ⟨⟨_, _, _, Tryd.underlying156⟩, fun _ h => (by cases h), Tryd.t156, rfl, rfl, fun _ h => by cases h⟩
theorem tn157 : TnOk Tryd.prog 157 (.fn [.sl 186 (.st [.int .i64, .int .i64])] (.sl 124 (.st [.int .i64, .int .i64]))) := ⟨⟨_, _, _, Tryd.underlying157⟩, fun _ h => (by cases h), Tryd.t157, rfl, rfl, fun _ h => by cases h⟩
theorem tn158 : TnOk Tryd.prog 158 (.fn [.sl 25 (.sl 3 (.int .i64))] (.sl 25 (.sl 3 (.int .i64)))) := ⟨⟨_, _, _, Tryd.underlying158⟩, fun _ h => (by cases h), Tryd.t158, rfl, rfl, fun _ h => by cases h⟩
theorem tn162 : TnOk Tryd.prog 162 (.fn [.sl 121 (.st [.int .i64, .sl 3 (.int .i64), .sl 3 (.int .i64)]), .sl 121 (.st [.int .i64, .sl 3 (.int .i64), .sl 3 (.int .i64)])] (.bool)) := ⟨⟨_, _, _, Tryd.underlying162⟩, fun _ h => (by cases h), Tryd.t162, rfl, rfl, fun _ h => by cases h⟩
theorem tn163 : TnOk Tryd.prog 163 (.fn [.sl 124 (.st [.int .i64, .int .i64]), .sl 124 (.st [.int .i64, .int .i64])] (.bool)) := ⟨⟨_, _, _, Tryd.underlying163⟩, fun _ h => (by cases h), Tryd.t163, rfl, rfl, fun _ h => by cases h⟩
theorem tn164 : TnOk Tryd.prog 164 (.fn [.sl 25 (.sl 3 (.int .i64)), .sl 25 (.sl 3 (.int .i64))] (.bool)) := ⟨⟨_, _, _, Tryd.underlying164⟩, fun _ h => (by cases h), Tryd.t164, rfl, rfl, fun _ h => by cases h⟩
theorem tn165 : TnOk Tryd.prog 165 (.fn [.st [.int .i64, .st [.int .i64, .int .i64, .int .i64, .int .i64], .sl 173 (.st [.int .i64, .int .i64, .int .i64])], .int .i64] (.int .i64)) := ⟨⟨_, _, _, Tryd.underlying165⟩, fun _ h => (by cases h), Tryd.t165, rfl, rfl, fun _ h => by cases h⟩
theorem tn166 : TnOk Tryd.prog 166 (.st [.int .i64, .int .i64, .int .i64, .int .i64]) := ⟨⟨_, Tryd.underlying166, Tryd.eqGuardType166, Tryd.stoodInHeld166, rfl, fun j τ h => by
    cases j with
    | zero => cases h; exact ⟨_, _, rfl, rfl, by decide, by decide, Tryd.underlying3, rfl, fun us h => by cases h⟩
    | succ j =>
     cases j with
     | zero => cases h; exact ⟨_, _, rfl, rfl, by decide, by decide, Tryd.underlying3, rfl, fun us h => by cases h⟩
     | succ j =>
      cases j with
      | zero => cases h; exact ⟨_, _, rfl, rfl, by decide, by decide, Tryd.underlying3, rfl, fun us h => by cases h⟩
      | succ j =>
       cases j with
       | zero => cases h; exact ⟨_, _, rfl, rfl, by decide, by decide, Tryd.underlying3, rfl, fun us h => by cases h⟩
       | succ j =>
        cases h⟩, (fun us hus fs hfs j τ h f hf => by
    cases hus
    rw [Tryd.underlying166] at hfs
    cases hfs
    cases j with
    | zero => cases h; cases hf; exact ⟨fun k e => by cases e; exact Tryd.underlying3, fun e => (by cases e), fun e => (by cases e)⟩
    | succ j =>
     cases j with
     | zero => cases h; cases hf; exact ⟨fun k e => by cases e; exact Tryd.underlying3, fun e => (by cases e), fun e => (by cases e)⟩
     | succ j =>
      cases j with
      | zero => cases h; cases hf; exact ⟨fun k e => by cases e; exact Tryd.underlying3, fun e => (by cases e), fun e => (by cases e)⟩
      | succ j =>
       cases j with
       | zero => cases h; cases hf; exact ⟨fun k e => by cases e; exact Tryd.underlying3, fun e => (by cases e), fun e => (by cases e)⟩
       | succ j =>
        cases h), Tryd.t166, rfl, rfl, fun _ _ => rfl⟩
theorem tn167 : TnOk Tryd.prog 167 (.st [.int .i64, .int .i64, .int .i64, .int .i64]) := ⟨⟨_, Tryd.underlying167, Tryd.eqGuardType167, Tryd.stoodInHeld167, rfl, fun j τ h => by
    cases j with
    | zero => cases h; exact ⟨_, _, rfl, rfl, by decide, by decide, Tryd.underlying3, rfl, fun us h => by cases h⟩
    | succ j =>
     cases j with
     | zero => cases h; exact ⟨_, _, rfl, rfl, by decide, by decide, Tryd.underlying3, rfl, fun us h => by cases h⟩
     | succ j =>
      cases j with
      | zero => cases h; exact ⟨_, _, rfl, rfl, by decide, by decide, Tryd.underlying3, rfl, fun us h => by cases h⟩
      | succ j =>
       cases j with
       | zero => cases h; exact ⟨_, _, rfl, rfl, by decide, by decide, Tryd.underlying3, rfl, fun us h => by cases h⟩
       | succ j =>
        cases h⟩, (fun us hus fs hfs j τ h f hf => by
    cases hus
    rw [Tryd.underlying167] at hfs
    cases hfs
    cases j with
    | zero => cases h; cases hf; exact ⟨fun k e => by cases e; exact Tryd.underlying3, fun e => (by cases e), fun e => (by cases e)⟩
    | succ j =>
     cases j with
     | zero => cases h; cases hf; exact ⟨fun k e => by cases e; exact Tryd.underlying3, fun e => (by cases e), fun e => (by cases e)⟩
     | succ j =>
      cases j with
      | zero => cases h; cases hf; exact ⟨fun k e => by cases e; exact Tryd.underlying3, fun e => (by cases e), fun e => (by cases e)⟩
      | succ j =>
       cases j with
       | zero => cases h; cases hf; exact ⟨fun k e => by cases e; exact Tryd.underlying3, fun e => (by cases e), fun e => (by cases e)⟩
       | succ j =>
        cases h), Tryd.t167, rfl, rfl, fun _ _ => rfl⟩
theorem tn168 : TnOk Tryd.prog 168 (.st [.int .i64, .st [.int .i64, .int .i64, .int .i64, .int .i64], .sl 173 (.st [.int .i64, .int .i64, .int .i64])]) := ⟨⟨_, Tryd.underlying168, Tryd.eqGuardType168, Tryd.stoodInHeld168, rfl, fun j τ h => by
    cases j with
    | zero => cases h; exact ⟨_, _, rfl, rfl, by decide, by decide, Tryd.underlying3, rfl, fun us h => by cases h⟩
    | succ j =>
     cases j with
     | zero => cases h; exact ⟨_, _, rfl, rfl, by decide, by decide, Tryd.underlying167, rfl, ⟨_, rfl⟩⟩
     | succ j =>
      cases j with
      | zero => cases h; exact ⟨_, _, rfl, rfl, by decide, by decide, Tryd.underlying45, rfl, fun us h => by cases h⟩
      | succ j =>
       cases h⟩, (fun us hus fs hfs j τ h f hf => by
    cases hus
    rw [Tryd.underlying168] at hfs
    cases hfs
    cases j with
    | zero => cases h; cases hf; exact ⟨fun k e => by cases e; exact Tryd.underlying3, fun e => (by cases e), fun e => (by cases e)⟩
    | succ j =>
     cases j with
     | zero => cases h; cases hf; exact ⟨fun k e => (by cases e), fun e => (by cases e), fun e => (by cases e)⟩
     | succ j =>
      cases j with
      | zero => cases h; cases hf; exact ⟨fun k e => (by cases e), fun e => (by cases e), fun e => (by cases e)⟩
      | succ j =>
       cases h), Tryd.t168, rfl, rfl, fun _ _ => rfl⟩
theorem tn169 : TnOk Tryd.prog 169 (.st [.int .i64, .st [.int .i64, .int .i64, .int .i64, .int .i64], .sl 173 (.st [.int .i64, .int .i64, .int .i64])]) := ⟨⟨_, Tryd.underlying169, Tryd.eqGuardType169, Tryd.stoodInHeld169, rfl, fun j τ h => by
    cases j with
    | zero => cases h; exact ⟨_, _, rfl, rfl, by decide, by decide, Tryd.underlying3, rfl, fun us h => by cases h⟩
    | succ j =>
     cases j with
     | zero => cases h; exact ⟨_, _, rfl, rfl, by decide, by decide, Tryd.underlying167, rfl, ⟨_, rfl⟩⟩
     | succ j =>
      cases j with
      | zero => cases h; exact ⟨_, _, rfl, rfl, by decide, by decide, Tryd.underlying45, rfl, fun us h => by cases h⟩
      | succ j =>
       cases h⟩, (fun us hus fs hfs j τ h f hf => by
    cases hus
    rw [Tryd.underlying169] at hfs
    cases hfs
    cases j with
    | zero => cases h; cases hf; exact ⟨fun k e => by cases e; exact Tryd.underlying3, fun e => (by cases e), fun e => (by cases e)⟩
    | succ j =>
     cases j with
     | zero => cases h; cases hf; exact ⟨fun k e => (by cases e), fun e => (by cases e), fun e => (by cases e)⟩
     | succ j =>
      cases j with
      | zero => cases h; cases hf; exact ⟨fun k e => (by cases e), fun e => (by cases e), fun e => (by cases e)⟩
      | succ j =>
       cases h), Tryd.t169, rfl, rfl, fun _ _ => rfl⟩
theorem tn170 : TnOk Tryd.prog 170 (.st [.int .i64, .int .i64, .int .i64]) := ⟨⟨_, Tryd.underlying170, Tryd.eqGuardType170, Tryd.stoodInHeld170, rfl, fun j τ h => by
    cases j with
    | zero => cases h; exact ⟨_, _, rfl, rfl, by decide, by decide, Tryd.underlying3, rfl, fun us h => by cases h⟩
    | succ j =>
     cases j with
     | zero => cases h; exact ⟨_, _, rfl, rfl, by decide, by decide, Tryd.underlying3, rfl, fun us h => by cases h⟩
     | succ j =>
      cases j with
      | zero => cases h; exact ⟨_, _, rfl, rfl, by decide, by decide, Tryd.underlying3, rfl, fun us h => by cases h⟩
      | succ j =>
       cases h⟩, (fun us hus fs hfs j τ h f hf => by
    cases hus
    rw [Tryd.underlying170] at hfs
    cases hfs
    cases j with
    | zero => cases h; cases hf; exact ⟨fun k e => by cases e; exact Tryd.underlying3, fun e => (by cases e), fun e => (by cases e)⟩
    | succ j =>
     cases j with
     | zero => cases h; cases hf; exact ⟨fun k e => by cases e; exact Tryd.underlying3, fun e => (by cases e), fun e => (by cases e)⟩
     | succ j =>
      cases j with
      | zero => cases h; cases hf; exact ⟨fun k e => by cases e; exact Tryd.underlying3, fun e => (by cases e), fun e => (by cases e)⟩
      | succ j =>
       cases h), Tryd.t170, rfl, rfl, fun _ _ => rfl⟩
theorem tn171 : TnOk Tryd.prog 171 (.st [.int .i64, .int .i64, .int .i64]) := ⟨⟨_, Tryd.underlying171, Tryd.eqGuardType171, Tryd.stoodInHeld171, rfl, fun j τ h => by
    cases j with
    | zero => cases h; exact ⟨_, _, rfl, rfl, by decide, by decide, Tryd.underlying3, rfl, fun us h => by cases h⟩
    | succ j =>
     cases j with
     | zero => cases h; exact ⟨_, _, rfl, rfl, by decide, by decide, Tryd.underlying3, rfl, fun us h => by cases h⟩
     | succ j =>
      cases j with
      | zero => cases h; exact ⟨_, _, rfl, rfl, by decide, by decide, Tryd.underlying3, rfl, fun us h => by cases h⟩
      | succ j =>
       cases h⟩, (fun us hus fs hfs j τ h f hf => by
    cases hus
    rw [Tryd.underlying171] at hfs
    cases hfs
    cases j with
    | zero => cases h; cases hf; exact ⟨fun k e => by cases e; exact Tryd.underlying3, fun e => (by cases e), fun e => (by cases e)⟩
    | succ j =>
     cases j with
     | zero => cases h; cases hf; exact ⟨fun k e => by cases e; exact Tryd.underlying3, fun e => (by cases e), fun e => (by cases e)⟩
     | succ j =>
      cases j with
      | zero => cases h; cases hf; exact ⟨fun k e => by cases e; exact Tryd.underlying3, fun e => (by cases e), fun e => (by cases e)⟩
      | succ j =>
       cases h), Tryd.t171, rfl, rfl, fun _ _ => rfl⟩
theorem tn172 : TnOk Tryd.prog 172 (.fn [.st [.int .i64, .int .i64, .int .i64]] (.st [.int .i64, .int .i64, .int .i64])) := ⟨⟨_, _, _, Tryd.underlying172⟩, fun _ h => (by cases h), Tryd.t172, rfl, rfl, fun _ h => by cases h⟩
theorem tn173 : TnOk Tryd.prog 173 (.st [.int .i64, .int .i64, .int .i64]) := ⟨⟨_, Tryd.underlying173, Tryd.eqGuardType173, Tryd.stoodInHeld173, rfl, fun j τ h => by
    cases j with
    | zero => cases h; exact ⟨_, _, rfl, rfl, by decide, by decide, Tryd.underlying3, rfl, fun us h => by cases h⟩
    | succ j =>
     cases j with
     | zero => cases h; exact ⟨_, _, rfl, rfl, by decide, by decide, Tryd.underlying3, rfl, fun us h => by cases h⟩
     | succ j =>
      cases j with
      | zero => cases h; exact ⟨_, _, rfl, rfl, by decide, by decide, Tryd.underlying3, rfl, fun us h => by cases h⟩
      | succ j =>
       cases h⟩, (fun us hus fs hfs j τ h f hf => by
    cases hus
    rw [Tryd.underlying173] at hfs
    cases hfs
    cases j with
    | zero => cases h; cases hf; exact ⟨fun k e => by cases e; exact Tryd.underlying3, fun e => (by cases e), fun e => (by cases e)⟩
    | succ j =>
     cases j with
     | zero => cases h; cases hf; exact ⟨fun k e => by cases e; exact Tryd.underlying3, fun e => (by cases e), fun e => (by cases e)⟩
     | succ j =>
      cases j with
      | zero => cases h; cases hf; exact ⟨fun k e => by cases e; exact Tryd.underlying3, fun e => (by cases e), fun e => (by cases e)⟩
      | succ j =>
       cases h), Tryd.t173, rfl, rfl, fun _ _ => rfl⟩
theorem tn174 : TnOk Tryd.prog 174 (.st [.int .i64, .int .i64, .int .i64, .int .i64]) := ⟨⟨_, Tryd.underlying174, Tryd.eqGuardType174, Tryd.stoodInHeld174, rfl, fun j τ h => by
    cases j with
    | zero => cases h; exact ⟨_, _, rfl, rfl, by decide, by decide, Tryd.underlying3, rfl, fun us h => by cases h⟩
    | succ j =>
     cases j with
     | zero => cases h; exact ⟨_, _, rfl, rfl, by decide, by decide, Tryd.underlying3, rfl, fun us h => by cases h⟩
     | succ j =>
      cases j with
      | zero => cases h; exact ⟨_, _, rfl, rfl, by decide, by decide, Tryd.underlying3, rfl, fun us h => by cases h⟩
      | succ j =>
       cases j with
       | zero => cases h; exact ⟨_, _, rfl, rfl, by decide, by decide, Tryd.underlying3, rfl, fun us h => by cases h⟩
       | succ j =>
        cases h⟩, (fun us hus fs hfs j τ h f hf => by
    cases hus
    rw [Tryd.underlying174] at hfs
    cases hfs
    cases j with
    | zero => cases h; cases hf; exact ⟨fun k e => by cases e; exact Tryd.underlying3, fun e => (by cases e), fun e => (by cases e)⟩
    | succ j =>
     cases j with
     | zero => cases h; cases hf; exact ⟨fun k e => by cases e; exact Tryd.underlying3, fun e => (by cases e), fun e => (by cases e)⟩
     | succ j =>
      cases j with
      | zero => cases h; cases hf; exact ⟨fun k e => by cases e; exact Tryd.underlying3, fun e => (by cases e), fun e => (by cases e)⟩
      | succ j =>
       cases j with
       | zero => cases h; cases hf; exact ⟨fun k e => by cases e; exact Tryd.underlying3, fun e => (by cases e), fun e => (by cases e)⟩
       | succ j =>
        cases h), Tryd.t174, rfl, rfl, fun _ _ => rfl⟩
theorem tn175 : TnOk Tryd.prog 175 (.st [.int .i64, .st [.int .i64, .int .i64, .int .i64, .int .i64], .sl 171 (.st [.int .i64, .int .i64, .int .i64])]) := ⟨⟨_, Tryd.underlying175, Tryd.eqGuardType175, Tryd.stoodInHeld175, rfl, fun j τ h => by
    cases j with
    | zero => cases h; exact ⟨_, _, rfl, rfl, by decide, by decide, Tryd.underlying3, rfl, fun us h => by cases h⟩
    | succ j =>
     cases j with
     | zero => cases h; exact ⟨_, _, rfl, rfl, by decide, by decide, Tryd.underlying174, rfl, ⟨_, rfl⟩⟩
     | succ j =>
      cases j with
      | zero => cases h; exact ⟨_, _, rfl, rfl, by decide, by decide, Tryd.underlying56, rfl, fun us h => by cases h⟩
      | succ j =>
       cases h⟩, (fun us hus fs hfs j τ h f hf => by
    cases hus
    rw [Tryd.underlying175] at hfs
    cases hfs
    cases j with
    | zero => cases h; cases hf; exact ⟨fun k e => by cases e; exact Tryd.underlying3, fun e => (by cases e), fun e => (by cases e)⟩
    | succ j =>
     cases j with
     | zero => cases h; cases hf; exact ⟨fun k e => (by cases e), fun e => (by cases e), fun e => (by cases e)⟩
     | succ j =>
      cases j with
      | zero => cases h; cases hf; exact ⟨fun k e => (by cases e), fun e => (by cases e), fun e => (by cases e)⟩
      | succ j =>
       cases h), Tryd.t175, rfl, rfl, fun _ _ => rfl⟩
theorem tn176 : TnOk Tryd.prog 176 (.st [.int .i64, .st [.int .i64, .int .i64, .int .i64, .int .i64], .sl 171 (.st [.int .i64, .int .i64, .int .i64])]) := ⟨⟨_, Tryd.underlying176, Tryd.eqGuardType176, Tryd.stoodInHeld176, rfl, fun j τ h => by
    cases j with
    | zero => cases h; exact ⟨_, _, rfl, rfl, by decide, by decide, Tryd.underlying3, rfl, fun us h => by cases h⟩
    | succ j =>
     cases j with
     | zero => cases h; exact ⟨_, _, rfl, rfl, by decide, by decide, Tryd.underlying174, rfl, ⟨_, rfl⟩⟩
     | succ j =>
      cases j with
      | zero => cases h; exact ⟨_, _, rfl, rfl, by decide, by decide, Tryd.underlying56, rfl, fun us h => by cases h⟩
      | succ j =>
       cases h⟩, (fun us hus fs hfs j τ h f hf => by
    cases hus
    rw [Tryd.underlying176] at hfs
    cases hfs
    cases j with
    | zero => cases h; cases hf; exact ⟨fun k e => by cases e; exact Tryd.underlying3, fun e => (by cases e), fun e => (by cases e)⟩
    | succ j =>
     cases j with
     | zero => cases h; cases hf; exact ⟨fun k e => (by cases e), fun e => (by cases e), fun e => (by cases e)⟩
     | succ j =>
      cases j with
      | zero => cases h; cases hf; exact ⟨fun k e => (by cases e), fun e => (by cases e), fun e => (by cases e)⟩
      | succ j =>
       cases h), Tryd.t176, rfl, rfl, fun _ _ => rfl⟩
theorem tn177 : TnOk Tryd.prog 177 (.fn [.st [.int .i64, .st [.int .i64, .int .i64, .int .i64, .int .i64], .sl 173 (.st [.int .i64, .int .i64, .int .i64])]] (.st [.int .i64, .st [.int .i64, .int .i64, .int .i64, .int .i64], .sl 171 (.st [.int .i64, .int .i64, .int .i64])])) := ⟨⟨_, _, _, Tryd.underlying177⟩, fun _ h => (by cases h), Tryd.t177, rfl, rfl, fun _ h => by cases h⟩
theorem tn178 : TnOk Tryd.prog 178 (.fn [.st [.int .i64, .int .i64, .int .i64], .st [.int .i64, .int .i64, .int .i64]] (.bool)) := ⟨⟨_, _, _, Tryd.underlying178⟩, fun _ h => (by cases h), Tryd.t178, rfl, rfl, fun _ h => by cases h⟩
theorem tn179 : TnOk Tryd.prog 179 (.fn [.st [.int .i64, .st [.int .i64, .int .i64, .int .i64, .int .i64], .sl 171 (.st [.int .i64, .int .i64, .int .i64])], .st [.int .i64, .st [.int .i64, .int .i64, .int .i64, .int .i64], .sl 171 (.st [.int .i64, .int .i64, .int .i64])]] (.bool)) := ⟨⟨_, _, _, Tryd.underlying179⟩, fun _ h => (by cases h), Tryd.t179, rfl, rfl, fun _ h => by cases h⟩
theorem tn181 : TnOk Tryd.prog 181 (.fn [.st [.int .i64, .sl 3 (.int .i64), .sl 3 (.int .i64)], .int .i64] (.int .i64)) := ⟨⟨_, _, _, Tryd.underlying181⟩, fun _ h => (by cases h), Tryd.t181, rfl, rfl, fun _ h => by cases h⟩
theorem tn182 : TnOk Tryd.prog 182 (.st [.int .i64, .sl 3 (.int .i64), .sl 3 (.int .i64)]) := ⟨⟨_, Tryd.underlying182, Tryd.eqGuardType182, Tryd.stoodInHeld182, rfl, fun j τ h => by
    cases j with
    | zero => cases h; exact ⟨_, _, rfl, rfl, by decide, by decide, Tryd.underlying3, rfl, fun us h => by cases h⟩
    | succ j =>
     cases j with
     | zero => cases h; exact ⟨_, _, rfl, rfl, by decide, by decide, Tryd.underlying25, rfl, fun us h => by cases h⟩
     | succ j =>
      cases j with
      | zero => cases h; exact ⟨_, _, rfl, rfl, by decide, by decide, Tryd.underlying25, rfl, fun us h => by cases h⟩
      | succ j =>
       cases h⟩, (fun us hus fs hfs j τ h f hf => by
    cases hus
    rw [Tryd.underlying182] at hfs
    cases hfs
    cases j with
    | zero => cases h; cases hf; exact ⟨fun k e => by cases e; exact Tryd.underlying3, fun e => (by cases e), fun e => (by cases e)⟩
    | succ j =>
     cases j with
     | zero => cases h; cases hf; exact ⟨fun k e => (by cases e), fun e => (by cases e), fun e => (by cases e)⟩
     | succ j =>
      cases j with
      | zero => cases h; cases hf; exact ⟨fun k e => (by cases e), fun e => (by cases e), fun e => (by cases e)⟩
      | succ j =>
       cases h), Tryd.t182, rfl, rfl, fun _ _ => rfl⟩
theorem tn184 : TnOk Tryd.prog 184 (.fn [.st [.int .i64, .sl 3 (.int .i64), .sl 3 (.int .i64)]] (.st [.int .i64, .sl 3 (.int .i64), .sl 3 (.int .i64)])) := ⟨⟨_, _, _, Tryd.underlying184⟩, fun _ h => (by cases h), Tryd.t184, rfl, rfl, fun _ h => by cases h⟩
theorem tn185 : TnOk Tryd.prog 185 (.fn [.st [.int .i64, .int .i64]] (.st [.int .i64, .int .i64])) := ⟨⟨_, _, _, Tryd.underlying185⟩, fun _ h => (by cases h), Tryd.t185, rfl, rfl, fun _ h => by cases h⟩
theorem tn186 : TnOk Tryd.prog 186 (.st [.int .i64, .int .i64]) := ⟨⟨_, Tryd.underlying186, Tryd.eqGuardType186, Tryd.stoodInHeld186, rfl, fun j τ h => by
    cases j with
    | zero => cases h; exact ⟨_, _, rfl, rfl, by decide, by decide, Tryd.underlying3, rfl, fun us h => by cases h⟩
    | succ j =>
     cases j with
     | zero => cases h; exact ⟨_, _, rfl, rfl, by decide, by decide, Tryd.underlying3, rfl, fun us h => by cases h⟩
     | succ j =>
      cases h⟩, (fun us hus fs hfs j τ h f hf => by
    cases hus
    rw [Tryd.underlying186] at hfs
    cases hfs
    cases j with
    | zero => cases h; cases hf; exact ⟨fun k e => by cases e; exact Tryd.underlying3, fun e => (by cases e), fun e => (by cases e)⟩
    | succ j =>
     cases j with
     | zero => cases h; cases hf; exact ⟨fun k e => by cases e; exact Tryd.underlying3, fun e => (by cases e), fun e => (by cases e)⟩
     | succ j =>
      cases h), Tryd.t186, rfl, rfl, fun _ _ => rfl⟩
theorem tn187 : TnOk Tryd.prog 187 (.fn [.st [.int .i64, .sl 3 (.int .i64), .sl 3 (.int .i64)], .st [.int .i64, .sl 3 (.int .i64), .sl 3 (.int .i64)]] (.bool)) := ⟨⟨_, _, _, Tryd.underlying187⟩, fun _ h => (by cases h), Tryd.t187, rfl, rfl, fun _ h => by cases h⟩
theorem tn188 : TnOk Tryd.prog 188 (.fn [.st [.int .i64, .int .i64], .st [.int .i64, .int .i64]] (.bool)) := ⟨⟨_, _, _, Tryd.underlying188⟩, fun _ h => (by cases h), Tryd.t188, rfl, rfl, fun _ h => by cases h⟩
theorem tn189 : TnOk Tryd.prog 189 (.fn [.st [.int .i64, .int .i64, .int .i64, .int .i64]] (.st [.int .i64, .int .i64, .int .i64, .int .i64])) := ⟨⟨_, _, _, Tryd.underlying189⟩, fun _ h => (by cases h), Tryd.t189, rfl, rfl, fun _ h => by cases h⟩
theorem tn191 : TnOk Tryd.prog 191 (.fn [.st [.int .i64, .int .i64, .int .i64, .int .i64], .st [.int .i64, .int .i64, .int .i64, .int .i64]] (.bool)) := ⟨⟨_, _, _, Tryd.underlying191⟩, fun _ h => (by cases h), Tryd.t191, rfl, rfl, fun _ h => by cases h⟩
def tys : List (Nat × Ty) := [(3, .int .i64), (4, .bool), (5, .int .u8), (9, .str), (22, .sl 104 (.st [.str, .int .i64, .sl 182 (.st [.int .i64, .sl 3 (.int .i64), .sl 3 (.int .i64)])])), (23, .sl 29 (.st [.int .i64, .int .i64, .bool, .int .i64])), (24, .sl 108 (.st [.sl 186 (.st [.int .i64, .int .i64]), .sl 25 (.sl 3 (.int .i64))])), (25, .sl 3 (.int .i64)), (26, .st [.int .i64, .sl 104 (.st [.str, .int .i64, .sl 182 (.st [.int .i64, .sl 3 (.int .i64), .sl 3 (.int .i64)])]), .sl 29 (.st [.int .i64, .int .i64, .bool, .int .i64]), .sl 108 (.st [.sl 186 (.st [.int .i64, .int .i64]), .sl 25 (.sl 3 (.int .i64))]), .sl 3 (.int .i64)]), (27, .st [.int .i64, .sl 104 (.st [.str, .int .i64, .sl 182 (.st [.int .i64, .sl 3 (.int .i64), .sl 3 (.int .i64)])]), .sl 29 (.st [.int .i64, .int .i64, .bool, .int .i64]), .sl 108 (.st [.sl 186 (.st [.int .i64, .int .i64]), .sl 25 (.sl 3 (.int .i64))]), .sl 3 (.int .i64)]), (28, .st [.int .i64, .int .i64, .bool, .int .i64]), (29, .st [.int .i64, .int .i64, .bool, .int .i64]), (30, .fn [.st [.int .i64, .sl 104 (.st [.str, .int .i64, .sl 182 (.st [.int .i64, .sl 3 (.int .i64), .sl 3 (.int .i64)])]), .sl 29 (.st [.int .i64, .int .i64, .bool, .int .i64]), .sl 108 (.st [.sl 186 (.st [.int .i64, .int .i64]), .sl 25 (.sl 3 (.int .i64))]), .sl 3 (.int .i64)], .int .i64] (.int .i64)), (32, .sl 99 (.st [.str, .int .i64, .sl 121 (.st [.int .i64, .sl 3 (.int .i64), .sl 3 (.int .i64)])])), (33, .sl 38 (.st [.int .i64, .int .i64, .bool, .int .i64])), (34, .sl 112 (.st [.sl 124 (.st [.int .i64, .int .i64]), .sl 25 (.sl 3 (.int .i64))])), (35, .st [.int .i64, .sl 99 (.st [.str, .int .i64, .sl 121 (.st [.int .i64, .sl 3 (.int .i64), .sl 3 (.int .i64)])]), .sl 38 (.st [.int .i64, .int .i64, .bool, .int .i64]), .sl 112 (.st [.sl 124 (.st [.int .i64, .int .i64]), .sl 25 (.sl 3 (.int .i64))]), .sl 3 (.int .i64)]), (36, .st [.int .i64, .sl 99 (.st [.str, .int .i64, .sl 121 (.st [.int .i64, .sl 3 (.int .i64), .sl 3 (.int .i64)])]), .sl 38 (.st [.int .i64, .int .i64, .bool, .int .i64]), .sl 112 (.st [.sl 124 (.st [.int .i64, .int .i64]), .sl 25 (.sl 3 (.int .i64))]), .sl 3 (.int .i64)]), (37, .fn [.st [.int .i64, .sl 104 (.st [.str, .int .i64, .sl 182 (.st [.int .i64, .sl 3 (.int .i64), .sl 3 (.int .i64)])]), .sl 29 (.st [.int .i64, .int .i64, .bool, .int .i64]), .sl 108 (.st [.sl 186 (.st [.int .i64, .int .i64]), .sl 25 (.sl 3 (.int .i64))]), .sl 3 (.int .i64)]] (.st [.int .i64, .sl 99 (.st [.str, .int .i64, .sl 121 (.st [.int .i64, .sl 3 (.int .i64), .sl 3 (.int .i64)])]), .sl 38 (.st [.int .i64, .int .i64, .bool, .int .i64]), .sl 112 (.st [.sl 124 (.st [.int .i64, .int .i64]), .sl 25 (.sl 3 (.int .i64))]), .sl 3 (.int .i64)])), (38, .st [.int .i64, .int .i64, .bool, .int .i64]), (39, .fn [.st [.int .i64, .int .i64, .bool, .int .i64]] (.st [.int .i64, .int .i64, .bool, .int .i64])), (40, .fn [.st [.int .i64, .sl 99 (.st [.str, .int .i64, .sl 121 (.st [.int .i64, .sl 3 (.int .i64), .sl 3 (.int .i64)])]), .sl 38 (.st [.int .i64, .int .i64, .bool, .int .i64]), .sl 112 (.st [.sl 124 (.st [.int .i64, .int .i64]), .sl 25 (.sl 3 (.int .i64))]), .sl 3 (.int .i64)], .st [.int .i64, .sl 99 (.st [.str, .int .i64, .sl 121 (.st [.int .i64, .sl 3 (.int .i64), .sl 3 (.int .i64)])]), .sl 38 (.st [.int .i64, .int .i64, .bool, .int .i64]), .sl 112 (.st [.sl 124 (.st [.int .i64, .int .i64]), .sl 25 (.sl 3 (.int .i64))]), .sl 3 (.int .i64)]] (.bool)), (42, .sl 25 (.sl 3 (.int .i64))), (43, .st [.sl 3 (.int .i64), .sl 3 (.int .i64), .sl 25 (.sl 3 (.int .i64))]), (44, .st [.sl 3 (.int .i64), .sl 3 (.int .i64), .sl 25 (.sl 3 (.int .i64))]), (45, .sl 173 (.st [.int .i64, .int .i64, .int .i64])), (46, .sl 169 (.st [.int .i64, .st [.int .i64, .int .i64, .int .i64, .int .i64], .sl 173 (.st [.int .i64, .int .i64, .int .i64])])), (47, .st [.st [.int .i64, .sl 104 (.st [.str, .int .i64, .sl 182 (.st [.int .i64, .sl 3 (.int .i64), .sl 3 (.int .i64)])]), .sl 29 (.st [.int .i64, .int .i64, .bool, .int .i64]), .sl 108 (.st [.sl 186 (.st [.int .i64, .int .i64]), .sl 25 (.sl 3 (.int .i64))]), .sl 3 (.int .i64)], .st [.sl 3 (.int .i64), .sl 3 (.int .i64), .sl 25 (.sl 3 (.int .i64))], .sl 173 (.st [.int .i64, .int .i64, .int .i64]), .sl 169 (.st [.int .i64, .st [.int .i64, .int .i64, .int .i64, .int .i64], .sl 173 (.st [.int .i64, .int .i64, .int .i64])])]), (48, .st [.st [.int .i64, .sl 104 (.st [.str, .int .i64, .sl 182 (.st [.int .i64, .sl 3 (.int .i64), .sl 3 (.int .i64)])]), .sl 29 (.st [.int .i64, .int .i64, .bool, .int .i64]), .sl 108 (.st [.sl 186 (.st [.int .i64, .int .i64]), .sl 25 (.sl 3 (.int .i64))]), .sl 3 (.int .i64)], .st [.sl 3 (.int .i64), .sl 3 (.int .i64), .sl 25 (.sl 3 (.int .i64))], .sl 173 (.st [.int .i64, .int .i64, .int .i64]), .sl 169 (.st [.int .i64, .st [.int .i64, .int .i64, .int .i64, .int .i64], .sl 173 (.st [.int .i64, .int .i64, .int .i64])])]), (49, .st [.sl 3 (.int .i64), .sl 3 (.int .i64)]), (50, .st [.sl 3 (.int .i64), .sl 3 (.int .i64)]), (51, .st [.st [.st [.int .i64, .sl 104 (.st [.str, .int .i64, .sl 182 (.st [.int .i64, .sl 3 (.int .i64), .sl 3 (.int .i64)])]), .sl 29 (.st [.int .i64, .int .i64, .bool, .int .i64]), .sl 108 (.st [.sl 186 (.st [.int .i64, .int .i64]), .sl 25 (.sl 3 (.int .i64))]), .sl 3 (.int .i64)], .st [.sl 3 (.int .i64), .sl 3 (.int .i64), .sl 25 (.sl 3 (.int .i64))], .sl 173 (.st [.int .i64, .int .i64, .int .i64]), .sl 169 (.st [.int .i64, .st [.int .i64, .int .i64, .int .i64, .int .i64], .sl 173 (.st [.int .i64, .int .i64, .int .i64])])], .st [.sl 3 (.int .i64), .sl 3 (.int .i64)], .bool, .int .i64, .bool]), (52, .st [.st [.st [.int .i64, .sl 104 (.st [.str, .int .i64, .sl 182 (.st [.int .i64, .sl 3 (.int .i64), .sl 3 (.int .i64)])]), .sl 29 (.st [.int .i64, .int .i64, .bool, .int .i64]), .sl 108 (.st [.sl 186 (.st [.int .i64, .int .i64]), .sl 25 (.sl 3 (.int .i64))]), .sl 3 (.int .i64)], .st [.sl 3 (.int .i64), .sl 3 (.int .i64), .sl 25 (.sl 3 (.int .i64))], .sl 173 (.st [.int .i64, .int .i64, .int .i64]), .sl 169 (.st [.int .i64, .st [.int .i64, .int .i64, .int .i64, .int .i64], .sl 173 (.st [.int .i64, .int .i64, .int .i64])])], .st [.sl 3 (.int .i64), .sl 3 (.int .i64)], .bool, .int .i64, .bool]), (53, .fn [.st [.st [.st [.int .i64, .sl 104 (.st [.str, .int .i64, .sl 182 (.st [.int .i64, .sl 3 (.int .i64), .sl 3 (.int .i64)])]), .sl 29 (.st [.int .i64, .int .i64, .bool, .int .i64]), .sl 108 (.st [.sl 186 (.st [.int .i64, .int .i64]), .sl 25 (.sl 3 (.int .i64))]), .sl 3 (.int .i64)], .st [.sl 3 (.int .i64), .sl 3 (.int .i64), .sl 25 (.sl 3 (.int .i64))], .sl 173 (.st [.int .i64, .int .i64, .int .i64]), .sl 169 (.st [.int .i64, .st [.int .i64, .int .i64, .int .i64, .int .i64], .sl 173 (.st [.int .i64, .int .i64, .int .i64])])], .st [.sl 3 (.int .i64), .sl 3 (.int .i64)], .bool, .int .i64, .bool], .int .i64] (.int .i64)), (54, .fn [.st [.st [.st [.int .i64, .sl 99 (.st [.str, .int .i64, .sl 121 (.st [.int .i64, .sl 3 (.int .i64), .sl 3 (.int .i64)])]), .sl 38 (.st [.int .i64, .int .i64, .bool, .int .i64]), .sl 112 (.st [.sl 124 (.st [.int .i64, .int .i64]), .sl 25 (.sl 3 (.int .i64))]), .sl 3 (.int .i64)], .st [.sl 3 (.int .i64), .sl 3 (.int .i64), .sl 25 (.sl 3 (.int .i64))], .sl 171 (.st [.int .i64, .int .i64, .int .i64]), .sl 176 (.st [.int .i64, .st [.int .i64, .int .i64, .int .i64, .int .i64], .sl 171 (.st [.int .i64, .int .i64, .int .i64])])], .st [.sl 3 (.int .i64), .sl 3 (.int .i64)], .bool, .int .i64, .bool]] (.str)), (55, .st [.sl 3 (.int .i64), .sl 3 (.int .i64), .sl 25 (.sl 3 (.int .i64))]), (56, .sl 171 (.st [.int .i64, .int .i64, .int .i64])), (57, .sl 176 (.st [.int .i64, .st [.int .i64, .int .i64, .int .i64, .int .i64], .sl 171 (.st [.int .i64, .int .i64, .int .i64])])), (58, .st [.st [.int .i64, .sl 99 (.st [.str, .int .i64, .sl 121 (.st [.int .i64, .sl 3 (.int .i64), .sl 3 (.int .i64)])]), .sl 38 (.st [.int .i64, .int .i64, .bool, .int .i64]), .sl 112 (.st [.sl 124 (.st [.int .i64, .int .i64]), .sl 25 (.sl 3 (.int .i64))]), .sl 3 (.int .i64)], .st [.sl 3 (.int .i64), .sl 3 (.int .i64), .sl 25 (.sl 3 (.int .i64))], .sl 171 (.st [.int .i64, .int .i64, .int .i64]), .sl 176 (.st [.int .i64, .st [.int .i64, .int .i64, .int .i64, .int .i64], .sl 171 (.st [.int .i64, .int .i64, .int .i64])])]), (59, .st [.st [.int .i64, .sl 99 (.st [.str, .int .i64, .sl 121 (.st [.int .i64, .sl 3 (.int .i64), .sl 3 (.int .i64)])]), .sl 38 (.st [.int .i64, .int .i64, .bool, .int .i64]), .sl 112 (.st [.sl 124 (.st [.int .i64, .int .i64]), .sl 25 (.sl 3 (.int .i64))]), .sl 3 (.int .i64)], .st [.sl 3 (.int .i64), .sl 3 (.int .i64), .sl 25 (.sl 3 (.int .i64))], .sl 171 (.st [.int .i64, .int .i64, .int .i64]), .sl 176 (.st [.int .i64, .st [.int .i64, .int .i64, .int .i64, .int .i64], .sl 171 (.st [.int .i64, .int .i64, .int .i64])])]), (60, .st [.sl 3 (.int .i64), .sl 3 (.int .i64)]), (61, .st [.st [.st [.int .i64, .sl 99 (.st [.str, .int .i64, .sl 121 (.st [.int .i64, .sl 3 (.int .i64), .sl 3 (.int .i64)])]), .sl 38 (.st [.int .i64, .int .i64, .bool, .int .i64]), .sl 112 (.st [.sl 124 (.st [.int .i64, .int .i64]), .sl 25 (.sl 3 (.int .i64))]), .sl 3 (.int .i64)], .st [.sl 3 (.int .i64), .sl 3 (.int .i64), .sl 25 (.sl 3 (.int .i64))], .sl 171 (.st [.int .i64, .int .i64, .int .i64]), .sl 176 (.st [.int .i64, .st [.int .i64, .int .i64, .int .i64, .int .i64], .sl 171 (.st [.int .i64, .int .i64, .int .i64])])], .st [.sl 3 (.int .i64), .sl 3 (.int .i64)], .bool, .int .i64, .bool]), (62, .st [.st [.st [.int .i64, .sl 99 (.st [.str, .int .i64, .sl 121 (.st [.int .i64, .sl 3 (.int .i64), .sl 3 (.int .i64)])]), .sl 38 (.st [.int .i64, .int .i64, .bool, .int .i64]), .sl 112 (.st [.sl 124 (.st [.int .i64, .int .i64]), .sl 25 (.sl 3 (.int .i64))]), .sl 3 (.int .i64)], .st [.sl 3 (.int .i64), .sl 3 (.int .i64), .sl 25 (.sl 3 (.int .i64))], .sl 171 (.st [.int .i64, .int .i64, .int .i64]), .sl 176 (.st [.int .i64, .st [.int .i64, .int .i64, .int .i64, .int .i64], .sl 171 (.st [.int .i64, .int .i64, .int .i64])])], .st [.sl 3 (.int .i64), .sl 3 (.int .i64)], .bool, .int .i64, .bool]), (63, .fn [.st [.st [.st [.int .i64, .sl 104 (.st [.str, .int .i64, .sl 182 (.st [.int .i64, .sl 3 (.int .i64), .sl 3 (.int .i64)])]), .sl 29 (.st [.int .i64, .int .i64, .bool, .int .i64]), .sl 108 (.st [.sl 186 (.st [.int .i64, .int .i64]), .sl 25 (.sl 3 (.int .i64))]), .sl 3 (.int .i64)], .st [.sl 3 (.int .i64), .sl 3 (.int .i64), .sl 25 (.sl 3 (.int .i64))], .sl 173 (.st [.int .i64, .int .i64, .int .i64]), .sl 169 (.st [.int .i64, .st [.int .i64, .int .i64, .int .i64, .int .i64], .sl 173 (.st [.int .i64, .int .i64, .int .i64])])], .st [.sl 3 (.int .i64), .sl 3 (.int .i64)], .bool, .int .i64, .bool]] (.st [.st [.st [.int .i64, .sl 99 (.st [.str, .int .i64, .sl 121 (.st [.int .i64, .sl 3 (.int .i64), .sl 3 (.int .i64)])]), .sl 38 (.st [.int .i64, .int .i64, .bool, .int .i64]), .sl 112 (.st [.sl 124 (.st [.int .i64, .int .i64]), .sl 25 (.sl 3 (.int .i64))]), .sl 3 (.int .i64)], .st [.sl 3 (.int .i64), .sl 3 (.int .i64), .sl 25 (.sl 3 (.int .i64))], .sl 171 (.st [.int .i64, .int .i64, .int .i64]), .sl 176 (.st [.int .i64, .st [.int .i64, .int .i64, .int .i64, .int .i64], .sl 171 (.st [.int .i64, .int .i64, .int .i64])])], .st [.sl 3 (.int .i64), .sl 3 (.int .i64)], .bool, .int .i64, .bool])), (64, .fn [.st [.st [.st [.int .i64, .sl 99 (.st [.str, .int .i64, .sl 121 (.st [.int .i64, .sl 3 (.int .i64), .sl 3 (.int .i64)])]), .sl 38 (.st [.int .i64, .int .i64, .bool, .int .i64]), .sl 112 (.st [.sl 124 (.st [.int .i64, .int .i64]), .sl 25 (.sl 3 (.int .i64))]), .sl 3 (.int .i64)], .st [.sl 3 (.int .i64), .sl 3 (.int .i64), .sl 25 (.sl 3 (.int .i64))], .sl 171 (.st [.int .i64, .int .i64, .int .i64]), .sl 176 (.st [.int .i64, .st [.int .i64, .int .i64, .int .i64, .int .i64], .sl 171 (.st [.int .i64, .int .i64, .int .i64])])], .st [.sl 3 (.int .i64), .sl 3 (.int .i64)], .bool, .int .i64, .bool], .st [.st [.st [.int .i64, .sl 99 (.st [.str, .int .i64, .sl 121 (.st [.int .i64, .sl 3 (.int .i64), .sl 3 (.int .i64)])]), .sl 38 (.st [.int .i64, .int .i64, .bool, .int .i64]), .sl 112 (.st [.sl 124 (.st [.int .i64, .int .i64]), .sl 25 (.sl 3 (.int .i64))]), .sl 3 (.int .i64)], .st [.sl 3 (.int .i64), .sl 3 (.int .i64), .sl 25 (.sl 3 (.int .i64))], .sl 171 (.st [.int .i64, .int .i64, .int .i64]), .sl 176 (.st [.int .i64, .st [.int .i64, .int .i64, .int .i64, .int .i64], .sl 171 (.st [.int .i64, .int .i64, .int .i64])])], .st [.sl 3 (.int .i64), .sl 3 (.int .i64)], .bool, .int .i64, .bool]] (.bool)), (65, .fn [.st [.st [.st [.int .i64, .sl 104 (.st [.str, .int .i64, .sl 182 (.st [.int .i64, .sl 3 (.int .i64), .sl 3 (.int .i64)])]), .sl 29 (.st [.int .i64, .int .i64, .bool, .int .i64]), .sl 108 (.st [.sl 186 (.st [.int .i64, .int .i64]), .sl 25 (.sl 3 (.int .i64))]), .sl 3 (.int .i64)], .st [.sl 3 (.int .i64), .sl 3 (.int .i64), .sl 25 (.sl 3 (.int .i64))], .sl 173 (.st [.int .i64, .int .i64, .int .i64]), .sl 169 (.st [.int .i64, .st [.int .i64, .int .i64, .int .i64, .int .i64], .sl 173 (.st [.int .i64, .int .i64, .int .i64])])], .st [.sl 3 (.int .i64), .sl 3 (.int .i64)], .bool, .int .i64, .bool]] (.bool)), (72, .fn [.sl 104 (.st [.str, .int .i64, .sl 182 (.st [.int .i64, .sl 3 (.int .i64), .sl 3 (.int .i64)])]), .int .i64] (.int .i64)), (73, .fn [.sl 29 (.st [.int .i64, .int .i64, .bool, .int .i64]), .int .i64] (.int .i64)), (74, .fn [.sl 108 (.st [.sl 186 (.st [.int .i64, .int .i64]), .sl 25 (.sl 3 (.int .i64))]), .int .i64] (.int .i64)), (75, .fn [.sl 3 (.int .i64), .int .i64] (.int .i64)), (78, .fn [.sl 104 (.st [.str, .int .i64, .sl 182 (.st [.int .i64, .sl 3 (.int .i64), .sl 3 (.int .i64)])])] (.sl 99 (.st [.str, .int .i64, .sl 121 (.st [.int .i64, .sl 3 (.int .i64), .sl 3 (.int .i64)])]))), (79, .fn [.sl 29 (.st [.int .i64, .int .i64, .bool, .int .i64])] (.sl 38 (.st [.int .i64, .int .i64, .bool, .int .i64]))), (80, .fn [.sl 108 (.st [.sl 186 (.st [.int .i64, .int .i64]), .sl 25 (.sl 3 (.int .i64))])] (.sl 112 (.st [.sl 124 (.st [.int .i64, .int .i64]), .sl 25 (.sl 3 (.int .i64))]))), (81, .fn [.sl 3 (.int .i64)] (.sl 3 (.int .i64))), (84, .fn [.sl 99 (.st [.str, .int .i64, .sl 121 (.st [.int .i64, .sl 3 (.int .i64), .sl 3 (.int .i64)])]), .sl 99 (.st [.str, .int .i64, .sl 121 (.st [.int .i64, .sl 3 (.int .i64), .sl 3 (.int .i64)])])] (.bool)), (85, .fn [.sl 38 (.st [.int .i64, .int .i64, .bool, .int .i64]), .sl 38 (.st [.int .i64, .int .i64, .bool, .int .i64])] (.bool)), (86, .fn [.sl 112 (.st [.sl 124 (.st [.int .i64, .int .i64]), .sl 25 (.sl 3 (.int .i64))]), .sl 112 (.st [.sl 124 (.st [.int .i64, .int .i64]), .sl 25 (.sl 3 (.int .i64))])] (.bool)), (87, .fn [.sl 3 (.int .i64), .sl 3 (.int .i64)] (.bool)), (88, .fn [.st [.st [.int .i64, .sl 104 (.st [.str, .int .i64, .sl 182 (.st [.int .i64, .sl 3 (.int .i64), .sl 3 (.int .i64)])]), .sl 29 (.st [.int .i64, .int .i64, .bool, .int .i64]), .sl 108 (.st [.sl 186 (.st [.int .i64, .int .i64]), .sl 25 (.sl 3 (.int .i64))]), .sl 3 (.int .i64)], .st [.sl 3 (.int .i64), .sl 3 (.int .i64), .sl 25 (.sl 3 (.int .i64))], .sl 173 (.st [.int .i64, .int .i64, .int .i64]), .sl 169 (.st [.int .i64, .st [.int .i64, .int .i64, .int .i64, .int .i64], .sl 173 (.st [.int .i64, .int .i64, .int .i64])])], .int .i64] (.int .i64)), (89, .fn [.st [.sl 3 (.int .i64), .sl 3 (.int .i64)], .int .i64] (.int .i64)), (90, .fn [.int .i64] (.str)), (91, .fn [.st [.st [.int .i64, .sl 104 (.st [.str, .int .i64, .sl 182 (.st [.int .i64, .sl 3 (.int .i64), .sl 3 (.int .i64)])]), .sl 29 (.st [.int .i64, .int .i64, .bool, .int .i64]), .sl 108 (.st [.sl 186 (.st [.int .i64, .int .i64]), .sl 25 (.sl 3 (.int .i64))]), .sl 3 (.int .i64)], .st [.sl 3 (.int .i64), .sl 3 (.int .i64), .sl 25 (.sl 3 (.int .i64))], .sl 173 (.st [.int .i64, .int .i64, .int .i64]), .sl 169 (.st [.int .i64, .st [.int .i64, .int .i64, .int .i64, .int .i64], .sl 173 (.st [.int .i64, .int .i64, .int .i64])])]] (.st [.st [.int .i64, .sl 99 (.st [.str, .int .i64, .sl 121 (.st [.int .i64, .sl 3 (.int .i64), .sl 3 (.int .i64)])]), .sl 38 (.st [.int .i64, .int .i64, .bool, .int .i64]), .sl 112 (.st [.sl 124 (.st [.int .i64, .int .i64]), .sl 25 (.sl 3 (.int .i64))]), .sl 3 (.int .i64)], .st [.sl 3 (.int .i64), .sl 3 (.int .i64), .sl 25 (.sl 3 (.int .i64))], .sl 171 (.st [.int .i64, .int .i64, .int .i64]), .sl 176 (.st [.int .i64, .st [.int .i64, .int .i64, .int .i64, .int .i64], .sl 171 (.st [.int .i64, .int .i64, .int .i64])])])), (92, .fn [.st [.sl 3 (.int .i64), .sl 3 (.int .i64)]] (.st [.sl 3 (.int .i64), .sl 3 (.int .i64)])), (93, .fn [.st [.st [.int .i64, .sl 99 (.st [.str, .int .i64, .sl 121 (.st [.int .i64, .sl 3 (.int .i64), .sl 3 (.int .i64)])]), .sl 38 (.st [.int .i64, .int .i64, .bool, .int .i64]), .sl 112 (.st [.sl 124 (.st [.int .i64, .int .i64]), .sl 25 (.sl 3 (.int .i64))]), .sl 3 (.int .i64)], .st [.sl 3 (.int .i64), .sl 3 (.int .i64), .sl 25 (.sl 3 (.int .i64))], .sl 171 (.st [.int .i64, .int .i64, .int .i64]), .sl 176 (.st [.int .i64, .st [.int .i64, .int .i64, .int .i64, .int .i64], .sl 171 (.st [.int .i64, .int .i64, .int .i64])])], .st [.st [.int .i64, .sl 99 (.st [.str, .int .i64, .sl 121 (.st [.int .i64, .sl 3 (.int .i64), .sl 3 (.int .i64)])]), .sl 38 (.st [.int .i64, .int .i64, .bool, .int .i64]), .sl 112 (.st [.sl 124 (.st [.int .i64, .int .i64]), .sl 25 (.sl 3 (.int .i64))]), .sl 3 (.int .i64)], .st [.sl 3 (.int .i64), .sl 3 (.int .i64), .sl 25 (.sl 3 (.int .i64))], .sl 171 (.st [.int .i64, .int .i64, .int .i64]), .sl 176 (.st [.int .i64, .st [.int .i64, .int .i64, .int .i64, .int .i64], .sl 171 (.st [.int .i64, .int .i64, .int .i64])])]] (.bool)), (94, .fn [.st [.sl 3 (.int .i64), .sl 3 (.int .i64)], .st [.sl 3 (.int .i64), .sl 3 (.int .i64)]] (.bool)), (97, .sl 121 (.st [.int .i64, .sl 3 (.int .i64), .sl 3 (.int .i64)])), (98, .st [.str, .int .i64, .sl 121 (.st [.int .i64, .sl 3 (.int .i64), .sl 3 (.int .i64)])]), (99, .st [.str, .int .i64, .sl 121 (.st [.int .i64, .sl 3 (.int .i64), .sl 3 (.int .i64)])]), (101, .fn [.st [.str, .int .i64, .sl 182 (.st [.int .i64, .sl 3 (.int .i64), .sl 3 (.int .i64)])], .int .i64] (.int .i64)), (102, .sl 182 (.st [.int .i64, .sl 3 (.int .i64), .sl 3 (.int .i64)])), (103, .st [.str, .int .i64, .sl 182 (.st [.int .i64, .sl 3 (.int .i64), .sl 3 (.int .i64)])]), (104, .st [.str, .int .i64, .sl 182 (.st [.int .i64, .sl 3 (.int .i64), .sl 3 (.int .i64)])]), (105, .fn [.st [.sl 186 (.st [.int .i64, .int .i64]), .sl 25 (.sl 3 (.int .i64))], .int .i64] (.int .i64)), (106, .sl 186 (.st [.int .i64, .int .i64])), (107, .st [.sl 186 (.st [.int .i64, .int .i64]), .sl 25 (.sl 3 (.int .i64))]), (108, .st [.sl 186 (.st [.int .i64, .int .i64]), .sl 25 (.sl 3 (.int .i64))]), (110, .sl 124 (.st [.int .i64, .int .i64])), (111, .st [.sl 124 (.st [.int .i64, .int .i64]), .sl 25 (.sl 3 (.int .i64))]), (112, .st [.sl 124 (.st [.int .i64, .int .i64]), .sl 25 (.sl 3 (.int .i64))]), (113, .fn [.int .i64, .int .i64, .int .i64] (.bool)), (117, .fn [.st [.str, .int .i64, .sl 182 (.st [.int .i64, .sl 3 (.int .i64), .sl 3 (.int .i64)])]] (.st [.str, .int .i64, .sl 121 (.st [.int .i64, .sl 3 (.int .i64), .sl 3 (.int .i64)])])), (118, .fn [.st [.sl 186 (.st [.int .i64, .int .i64]), .sl 25 (.sl 3 (.int .i64))]] (.st [.sl 124 (.st [.int .i64, .int .i64]), .sl 25 (.sl 3 (.int .i64))])), (120, .st [.int .i64, .sl 3 (.int .i64), .sl 3 (.int .i64)]), (121, .st [.int .i64, .sl 3 (.int .i64), .sl 3 (.int .i64)]), (123, .st [.int .i64, .int .i64]), (124, .st [.int .i64, .int .i64]), (127, .fn [.st [.str, .int .i64, .sl 121 (.st [.int .i64, .sl 3 (.int .i64), .sl 3 (.int .i64)])], .st [.str, .int .i64, .sl 121 (.st [.int .i64, .sl 3 (.int .i64), .sl 3 (.int .i64)])]] (.bool)), (128, .fn [.st [.int .i64, .int .i64, .bool, .int .i64], .st [.int .i64, .int .i64, .bool, .int .i64]] (.bool)), (129, .fn [.st [.sl 124 (.st [.int .i64, .int .i64]), .sl 25 (.sl 3 (.int .i64))], .st [.sl 124 (.st [.int .i64, .int .i64]), .sl 25 (.sl 3 (.int .i64))]] (.bool)), (130, .fn [.st [.sl 3 (.int .i64), .sl 3 (.int .i64), .sl 25 (.sl 3 (.int .i64))], .int .i64] (.int .i64)), (131, .fn [.sl 173 (.st [.int .i64, .int .i64, .int .i64]), .int .i64] (.int .i64)), (132, .fn [.sl 169 (.st [.int .i64, .st [.int .i64, .int .i64, .int .i64, .int .i64], .sl 173 (.st [.int .i64, .int .i64, .int .i64])]), .int .i64] (.int .i64)), (133, .sl 5 (.int .u8)), (134, .fn [.st [.sl 3 (.int .i64), .sl 3 (.int .i64), .sl 25 (.sl 3 (.int .i64))]] (.st [.sl 3 (.int .i64), .sl 3 (.int .i64), .sl 25 (.sl 3 (.int .i64))])), (135, .fn [.sl 173 (.st [.int .i64, .int .i64, .int .i64])] (.sl 171 (.st [.int .i64, .int .i64, .int .i64]))), (136, .fn [.sl 169 (.st [.int .i64, .st [.int .i64, .int .i64, .int .i64, .int .i64], .sl 173 (.st [.int .i64, .int .i64, .int .i64])])] (.sl 176 (.st [.int .i64, .st [.int .i64, .int .i64, .int .i64, .int .i64], .sl 171 (.st [.int .i64, .int .i64, .int .i64])]))), (137, .fn [.st [.sl 3 (.int .i64), .sl 3 (.int .i64), .sl 25 (.sl 3 (.int .i64))], .st [.sl 3 (.int .i64), .sl 3 (.int .i64), .sl 25 (.sl 3 (.int .i64))]] (.bool)), (138, .fn [.sl 171 (.st [.int .i64, .int .i64, .int .i64]), .sl 171 (.st [.int .i64, .int .i64, .int .i64])] (.bool)), (139, .fn [.sl 176 (.st [.int .i64, .st [.int .i64, .int .i64, .int .i64, .int .i64], .sl 171 (.st [.int .i64, .int .i64, .int .i64])]), .sl 176 (.st [.int .i64, .st [.int .i64, .int .i64, .int .i64, .int .i64], .sl 171 (.st [.int .i64, .int .i64, .int .i64])])] (.bool)), (150, .fn [.sl 182 (.st [.int .i64, .sl 3 (.int .i64), .sl 3 (.int .i64)]), .int .i64] (.int .i64)), (151, .fn [.sl 186 (.st [.int .i64, .int .i64]), .int .i64] (.int .i64)), (152, .fn [.sl 25 (.sl 3 (.int .i64)), .int .i64] (.int .i64)), (156, .fn [.sl 182 (.st [.int .i64, .sl 3 (.int .i64), .sl 3 (.int .i64)])] (.sl 121 (.st [.int .i64, .sl 3 (.int .i64), .sl 3 (.int .i64)]))), (157, .fn [.sl 186 (.st [.int .i64, .int .i64])] (.sl 124 (.st [.int .i64, .int .i64]))), (158, .fn [.sl 25 (.sl 3 (.int .i64))] (.sl 25 (.sl 3 (.int .i64)))), (162, .fn [.sl 121 (.st [.int .i64, .sl 3 (.int .i64), .sl 3 (.int .i64)]), .sl 121 (.st [.int .i64, .sl 3 (.int .i64), .sl 3 (.int .i64)])] (.bool)), (163, .fn [.sl 124 (.st [.int .i64, .int .i64]), .sl 124 (.st [.int .i64, .int .i64])] (.bool)), (164, .fn [.sl 25 (.sl 3 (.int .i64)), .sl 25 (.sl 3 (.int .i64))] (.bool)), (165, .fn [.st [.int .i64, .st [.int .i64, .int .i64, .int .i64, .int .i64], .sl 173 (.st [.int .i64, .int .i64, .int .i64])], .int .i64] (.int .i64)), (166, .st [.int .i64, .int .i64, .int .i64, .int .i64]), (167, .st [.int .i64, .int .i64, .int .i64, .int .i64]), (168, .st [.int .i64, .st [.int .i64, .int .i64, .int .i64, .int .i64], .sl 173 (.st [.int .i64, .int .i64, .int .i64])]), (169, .st [.int .i64, .st [.int .i64, .int .i64, .int .i64, .int .i64], .sl 173 (.st [.int .i64, .int .i64, .int .i64])]), (170, .st [.int .i64, .int .i64, .int .i64]), (171, .st [.int .i64, .int .i64, .int .i64]), (172, .fn [.st [.int .i64, .int .i64, .int .i64]] (.st [.int .i64, .int .i64, .int .i64])), (173, .st [.int .i64, .int .i64, .int .i64]), (174, .st [.int .i64, .int .i64, .int .i64, .int .i64]), (175, .st [.int .i64, .st [.int .i64, .int .i64, .int .i64, .int .i64], .sl 171 (.st [.int .i64, .int .i64, .int .i64])]), (176, .st [.int .i64, .st [.int .i64, .int .i64, .int .i64, .int .i64], .sl 171 (.st [.int .i64, .int .i64, .int .i64])]), (177, .fn [.st [.int .i64, .st [.int .i64, .int .i64, .int .i64, .int .i64], .sl 173 (.st [.int .i64, .int .i64, .int .i64])]] (.st [.int .i64, .st [.int .i64, .int .i64, .int .i64, .int .i64], .sl 171 (.st [.int .i64, .int .i64, .int .i64])])), (178, .fn [.st [.int .i64, .int .i64, .int .i64], .st [.int .i64, .int .i64, .int .i64]] (.bool)), (179, .fn [.st [.int .i64, .st [.int .i64, .int .i64, .int .i64, .int .i64], .sl 171 (.st [.int .i64, .int .i64, .int .i64])], .st [.int .i64, .st [.int .i64, .int .i64, .int .i64, .int .i64], .sl 171 (.st [.int .i64, .int .i64, .int .i64])]] (.bool)), (181, .fn [.st [.int .i64, .sl 3 (.int .i64), .sl 3 (.int .i64)], .int .i64] (.int .i64)), (182, .st [.int .i64, .sl 3 (.int .i64), .sl 3 (.int .i64)]), (184, .fn [.st [.int .i64, .sl 3 (.int .i64), .sl 3 (.int .i64)]] (.st [.int .i64, .sl 3 (.int .i64), .sl 3 (.int .i64)])), (185, .fn [.st [.int .i64, .int .i64]] (.st [.int .i64, .int .i64])), (186, .st [.int .i64, .int .i64]), (187, .fn [.st [.int .i64, .sl 3 (.int .i64), .sl 3 (.int .i64)], .st [.int .i64, .sl 3 (.int .i64), .sl 3 (.int .i64)]] (.bool)), (188, .fn [.st [.int .i64, .int .i64], .st [.int .i64, .int .i64]] (.bool)), (189, .fn [.st [.int .i64, .int .i64, .int .i64, .int .i64]] (.st [.int .i64, .int .i64, .int .i64, .int .i64])), (191, .fn [.st [.int .i64, .int .i64, .int .i64, .int .i64], .st [.int .i64, .int .i64, .int .i64, .int .i64]] (.bool))]
theorem tysOk : LkAll (TnOk Tryd.prog) tys := ⟨tn3, tn4, tn5, tn9, tn22, tn23, tn24, tn25, tn26, tn27, tn28, tn29, tn30, tn32, tn33, tn34, tn35, tn36, tn37, tn38, tn39, tn40, tn42, tn43, tn44, tn45, tn46, tn47, tn48, tn49, tn50, tn51, tn52, tn53, tn54, tn55, tn56, tn57, tn58, tn59, tn60, tn61, tn62, tn63, tn64, tn65, tn72, tn73, tn74, tn75, tn78, tn79, tn80, tn81, tn84, tn85, tn86, tn87, tn88, tn89, tn90, tn91, tn92, tn93, tn94, tn97, tn98, tn99, tn101, tn102, tn103, tn104, tn105, tn106, tn107, tn108, tn110, tn111, tn112, tn113, tn117, tn118, tn120, tn121, tn123, tn124, tn127, tn128, tn129, tn130, tn131, tn132, tn133, tn134, tn135, tn136, tn137, tn138, tn139, tn150, tn151, tn152, tn156, tn157, tn158, tn162, tn163, tn164, tn165, tn166, tn167, tn168, tn169, tn170, tn171, tn172, tn173, tn174, tn175, tn176, tn177, tn178, tn179, tn181, tn182, tn184, tn185, tn186, tn187, tn188, tn189, tn191, trivial⟩
noncomputable def tabName : String := ((Tryd.prog.globals[1]?).map (·.name)).getD (show String from default)
noncomputable def base_ : Base := [(tabName, Lib.pow10Tab.map fun z => Value.int .u64 z)]
theorem base_tab (w : World) (P : Prot) (h : BaseOk Tryd.prog base_ w P) : Lib.TabIs Tryd.prog w tabName .u64 Lib.pow10Tab := varAt_tab (h _ (List.mem_singleton.2 rfl))
def laws_szIntS (x : ((List Int) × (Int × Unit))) (c : Unit) : (Option (Int × Unit)) :=
  (if (ltZ (subZ .i64 x.2.1 (lenI x.1)) 0) = true then (some ((-1), ())) else (some ((subZ .i64 x.2.1 (lenI x.1)), ())))
def H_laws_szIntS : Hd := ⟨[.sl 3 (.int .i64), .int .i64], [], none, .p, .int .i64, .p, []⟩
def T_laws_szIntS : FSig := ⟨H_laws_szIntS.ps, H_laws_szIntS.cs, H_laws_szIntS.io, H_laws_szIntS.im, H_laws_szIntS.R, H_laws_szIntS.m, laws_szIntS⟩
theorem E_laws_szIntS : fnOf tys [] Tryd.f23 H_laws_szIntS = T_laws_szIntS := by kernel_rfl
theorem K_laws_szIntS : SigB base_ Tryd.prog 23 T_laws_szIntS := (congrArg (SigB base_ Tryd.prog 23) E_laws_szIntS).mp (fnOf_ok rfl tysOk trivial Tryd.func23 (by decide) rfl (fun _ h => by cases h) (nilEq_of (by kernel_rfl)))
def laws_szMode (x : (D_Mode × (Int × Unit))) (c : Unit) : (Option (Int × Unit)) :=
  (Option.bind ((Option.bind (laws_szIntS (x.1.2.1, (x.2.1, ())) ()) fun v0 => (some v0.1)) : (Option Int)) fun v1 => (if (ltZ v1 0) = true then (some ((-1), ())) else (Option.bind ((Option.bind (laws_szIntS (x.1.2.2.1, (v1, ())) ()) fun v2 => (some v2.1)) : (Option Int)) fun v3 => (if (ltZ v3 0) = true then (some ((-1), ())) else (some (v3, ()))))))
def H_laws_szMode : Hd := ⟨[.st [.int .i64, .sl 3 (.int .i64), .sl 3 (.int .i64)], .int .i64], [], none, .p, .int .i64, .p, []⟩
def T_laws_szMode : FSig := ⟨H_laws_szMode.ps, H_laws_szMode.cs, H_laws_szMode.io, H_laws_szMode.im, H_laws_szMode.R, H_laws_szMode.m, laws_szMode⟩
theorem E_laws_szMode : fnOf tys [(23, T_laws_szIntS)] Tryd.f114 H_laws_szMode = T_laws_szMode := by kernel_rfl
theorem K_laws_szMode : SigB base_ Tryd.prog 114 T_laws_szMode := (congrArg (SigB base_ Tryd.prog 114) E_laws_szMode).mp (fnOf_ok rfl tysOk ⟨K_laws_szIntS, trivial⟩ Tryd.func114 (by decide) rfl (fun _ h => by cases h) (nilEq_of (by kernel_rfl)))
def laws_szModeS_L0 : (Int × ((List D_Mode) × (Int × Unit))) → Option (Out (Int × ((List D_Mode) × (Int × Unit))) ((Bool × (Int × ((List D_Mode) × (Int × Unit)))) ⊕ Empty) (Int × Unit)) :=
  (fun v0 => (if (ltZ v0.1 (lenI v0.2.1)) = true then (Option.bind (getI v0.2.1 v0.1) fun v1 => (Option.bind ((Option.bind (laws_szMode (v1, (v0.2.2.1, ())) ()) fun v2 => (some v2.1)) : (Option Int)) fun v3 => (if (ltZ v3 0) = true then (some (Out.ret ((-1), ()))) else (some (Out.norm ((addZ .i64 v0.1 1), (v0.2.1, (v3, ())))))))) else (some (Out.exit (Sum.inl ((ltZ v0.1 (lenI v0.2.1)), (v0.1, (v0.2.1, (v0.2.2.1, ())))))))))
def laws_szModeS (x : ((List D_Mode) × (Int × Unit))) (c : Unit) : (Option (Int × Unit)) :=
  (if (ltZ (subZ .i64 x.2.1 (lenI x.1)) 0) = true then (some ((-1), ())) else (Option.bind (loopN (A := (Int × ((List D_Mode) × (Int × Unit)))) big laws_szModeS_L0 (0, (x.1, ((subZ .i64 x.2.1 (lenI x.1)), ())))) fun v4 => (match v4 with | Out.norm v5 => none | Out.exit v6 => (match ((match v6 with | Sum.inl v9 => (Sum.inl (v9.2.2.2.1, ())) | Sum.inr v10 => (Empty.elim v10)) : ((Int × Unit) ⊕ Empty)) with | Sum.inl v7 => (some (v7.1, ())) | Sum.inr v8 => none) | Out.ret v11 => (some v11))))
def H_laws_szModeS : Hd := ⟨[.sl 182 (.st [.int .i64, .sl 3 (.int .i64), .sl 3 (.int .i64)]), .int .i64], [], none, .p, .int .i64, .p, []⟩
def T_laws_szModeS : FSig := ⟨H_laws_szModeS.ps, H_laws_szModeS.cs, H_laws_szModeS.io, H_laws_szModeS.im, H_laws_szModeS.R, H_laws_szModeS.m, laws_szModeS⟩
theorem E_laws_szModeS : fnOf tys [(114, T_laws_szMode)] Tryd.f88 H_laws_szModeS = T_laws_szModeS := by kernel_rfl
theorem K_laws_szModeS : SigB base_ Tryd.prog 88 T_laws_szModeS := (congrArg (SigB base_ Tryd.prog 88) E_laws_szModeS).mp (fnOf_ok rfl tysOk ⟨K_laws_szMode, trivial⟩ Tryd.func88 (by decide) rfl (fun _ h => by cases h) (nilEq_of (by kernel_rfl)))
def laws_szActivity (x : (D_Activity × (Int × Unit))) (c : Unit) : (Option (Int × Unit)) :=
  (if (ltZ (subZ .i64 x.2.1 (lenI x.1.1)) 0) = true then (some ((-1), ())) else (Option.bind ((Option.bind (laws_szModeS (x.1.2.2.1, ((subZ .i64 x.2.1 (lenI x.1.1)), ())) ()) fun v0 => (some v0.1)) : (Option Int)) fun v1 => (if (ltZ v1 0) = true then (some ((-1), ())) else (some (v1, ())))))
def H_laws_szActivity : Hd := ⟨[.st [.str, .int .i64, .sl 182 (.st [.int .i64, .sl 3 (.int .i64), .sl 3 (.int .i64)])], .int .i64], [], none, .p, .int .i64, .p, []⟩
def T_laws_szActivity : FSig := ⟨H_laws_szActivity.ps, H_laws_szActivity.cs, H_laws_szActivity.io, H_laws_szActivity.im, H_laws_szActivity.R, H_laws_szActivity.m, laws_szActivity⟩
theorem E_laws_szActivity : fnOf tys [(88, T_laws_szModeS)] Tryd.f50 H_laws_szActivity = T_laws_szActivity := by kernel_rfl
theorem K_laws_szActivity : SigB base_ Tryd.prog 50 T_laws_szActivity := (congrArg (SigB base_ Tryd.prog 50) E_laws_szActivity).mp (fnOf_ok rfl tysOk ⟨K_laws_szModeS, trivial⟩ Tryd.func50 (by decide) rfl (fun _ h => by cases h) (nilEq_of (by kernel_rfl)))
def laws_szActivityS_L0 : (Int × ((List D_Activity) × (Int × Unit))) → Option (Out (Int × ((List D_Activity) × (Int × Unit))) ((Bool × (Int × ((List D_Activity) × (Int × Unit)))) ⊕ Empty) (Int × Unit)) :=
  (fun v0 => (if (ltZ v0.1 (lenI v0.2.1)) = true then (Option.bind (getI v0.2.1 v0.1) fun v1 => (Option.bind ((Option.bind (laws_szActivity (v1, (v0.2.2.1, ())) ()) fun v2 => (some v2.1)) : (Option Int)) fun v3 => (if (ltZ v3 0) = true then (some (Out.ret ((-1), ()))) else (some (Out.norm ((addZ .i64 v0.1 1), (v0.2.1, (v3, ())))))))) else (some (Out.exit (Sum.inl ((ltZ v0.1 (lenI v0.2.1)), (v0.1, (v0.2.1, (v0.2.2.1, ())))))))))
def laws_szActivityS (x : ((List D_Activity) × (Int × Unit))) (c : Unit) : (Option (Int × Unit)) :=
  (if (ltZ (subZ .i64 x.2.1 (lenI x.1)) 0) = true then (some ((-1), ())) else (Option.bind (loopN (A := (Int × ((List D_Activity) × (Int × Unit)))) big laws_szActivityS_L0 (0, (x.1, ((subZ .i64 x.2.1 (lenI x.1)), ())))) fun v4 => (match v4 with | Out.norm v5 => none | Out.exit v6 => (match ((match v6 with | Sum.inl v9 => (Sum.inl (v9.2.2.2.1, ())) | Sum.inr v10 => (Empty.elim v10)) : ((Int × Unit) ⊕ Empty)) with | Sum.inl v7 => (some (v7.1, ())) | Sum.inr v8 => none) | Out.ret v11 => (some v11))))
def H_laws_szActivityS : Hd := ⟨[.sl 104 (.st [.str, .int .i64, .sl 182 (.st [.int .i64, .sl 3 (.int .i64), .sl 3 (.int .i64)])]), .int .i64], [], none, .p, .int .i64, .p, []⟩
def T_laws_szActivityS : FSig := ⟨H_laws_szActivityS.ps, H_laws_szActivityS.cs, H_laws_szActivityS.io, H_laws_szActivityS.im, H_laws_szActivityS.R, H_laws_szActivityS.m, laws_szActivityS⟩
theorem E_laws_szActivityS : fnOf tys [(50, T_laws_szActivity)] Tryd.f20 H_laws_szActivityS = T_laws_szActivityS := by kernel_rfl
theorem K_laws_szActivityS : SigB base_ Tryd.prog 20 T_laws_szActivityS := (congrArg (SigB base_ Tryd.prog 20) E_laws_szActivityS).mp (fnOf_ok rfl tysOk ⟨K_laws_szActivity, trivial⟩ Tryd.func20 (by decide) rfl (fun _ h => by cases h) (nilEq_of (by kernel_rfl)))
def laws_szLinkS (x : ((List D_Link) × (Int × Unit))) (c : Unit) : (Option (Int × Unit)) :=
  (if (ltZ (subZ .i64 x.2.1 (lenI x.1)) 0) = true then (some ((-1), ())) else (some ((subZ .i64 x.2.1 (lenI x.1)), ())))
def H_laws_szLinkS : Hd := ⟨[.sl 29 (.st [.int .i64, .int .i64, .bool, .int .i64]), .int .i64], [], none, .p, .int .i64, .p, []⟩
def T_laws_szLinkS : FSig := ⟨H_laws_szLinkS.ps, H_laws_szLinkS.cs, H_laws_szLinkS.io, H_laws_szLinkS.im, H_laws_szLinkS.R, H_laws_szLinkS.m, laws_szLinkS⟩
theorem E_laws_szLinkS : fnOf tys [] Tryd.f21 H_laws_szLinkS = T_laws_szLinkS := by kernel_rfl
theorem K_laws_szLinkS : SigB base_ Tryd.prog 21 T_laws_szLinkS := (congrArg (SigB base_ Tryd.prog 21) E_laws_szLinkS).mp (fnOf_ok rfl tysOk trivial Tryd.func21 (by decide) rfl (fun _ h => by cases h) (nilEq_of (by kernel_rfl)))
def laws_szStepS (x : ((List D_Step) × (Int × Unit))) (c : Unit) : (Option (Int × Unit)) :=
  (if (ltZ (subZ .i64 x.2.1 (lenI x.1)) 0) = true then (some ((-1), ())) else (some ((subZ .i64 x.2.1 (lenI x.1)), ())))
def H_laws_szStepS : Hd := ⟨[.sl 186 (.st [.int .i64, .int .i64]), .int .i64], [], none, .p, .int .i64, .p, []⟩
def T_laws_szStepS : FSig := ⟨H_laws_szStepS.ps, H_laws_szStepS.cs, H_laws_szStepS.io, H_laws_szStepS.im, H_laws_szStepS.R, H_laws_szStepS.m, laws_szStepS⟩
theorem E_laws_szStepS : fnOf tys [] Tryd.f89 H_laws_szStepS = T_laws_szStepS := by kernel_rfl
theorem K_laws_szStepS : SigB base_ Tryd.prog 89 T_laws_szStepS := (congrArg (SigB base_ Tryd.prog 89) E_laws_szStepS).mp (fnOf_ok rfl tysOk trivial Tryd.func89 (by decide) rfl (fun _ h => by cases h) (nilEq_of (by kernel_rfl)))
def laws_szIntSS_L0 : (Int × ((List (List Int)) × (Int × Unit))) → Option (Out (Int × ((List (List Int)) × (Int × Unit))) ((Bool × (Int × ((List (List Int)) × (Int × Unit)))) ⊕ Empty) (Int × Unit)) :=
  (fun v0 => (if (ltZ v0.1 (lenI v0.2.1)) = true then (Option.bind (getI v0.2.1 v0.1) fun v1 => (Option.bind ((Option.bind (laws_szIntS (v1, (v0.2.2.1, ())) ()) fun v2 => (some v2.1)) : (Option Int)) fun v3 => (if (ltZ v3 0) = true then (some (Out.ret ((-1), ()))) else (some (Out.norm ((addZ .i64 v0.1 1), (v0.2.1, (v3, ())))))))) else (some (Out.exit (Sum.inl ((ltZ v0.1 (lenI v0.2.1)), (v0.1, (v0.2.1, (v0.2.2.1, ())))))))))
def laws_szIntSS (x : ((List (List Int)) × (Int × Unit))) (c : Unit) : (Option (Int × Unit)) :=
  (if (ltZ (subZ .i64 x.2.1 (lenI x.1)) 0) = true then (some ((-1), ())) else (Option.bind (loopN (A := (Int × ((List (List Int)) × (Int × Unit)))) big laws_szIntSS_L0 (0, (x.1, ((subZ .i64 x.2.1 (lenI x.1)), ())))) fun v4 => (match v4 with | Out.norm v5 => none | Out.exit v6 => (match ((match v6 with | Sum.inl v9 => (Sum.inl (v9.2.2.2.1, ())) | Sum.inr v10 => (Empty.elim v10)) : ((Int × Unit) ⊕ Empty)) with | Sum.inl v7 => (some (v7.1, ())) | Sum.inr v8 => none) | Out.ret v11 => (some v11))))
def H_laws_szIntSS : Hd := ⟨[.sl 25 (.sl 3 (.int .i64)), .int .i64], [], none, .p, .int .i64, .p, []⟩
def T_laws_szIntSS : FSig := ⟨H_laws_szIntSS.ps, H_laws_szIntSS.cs, H_laws_szIntSS.io, H_laws_szIntSS.im, H_laws_szIntSS.R, H_laws_szIntSS.m, laws_szIntSS⟩
theorem E_laws_szIntSS : fnOf tys [(23, T_laws_szIntS)] Tryd.f90 H_laws_szIntSS = T_laws_szIntSS := by kernel_rfl
theorem K_laws_szIntSS : SigB base_ Tryd.prog 90 T_laws_szIntSS := (congrArg (SigB base_ Tryd.prog 90) E_laws_szIntSS).mp (fnOf_ok rfl tysOk ⟨K_laws_szIntS, trivial⟩ Tryd.func90 (by decide) rfl (fun _ h => by cases h) (nilEq_of (by kernel_rfl)))
def laws_szResource (x : (D_Resource × (Int × Unit))) (c : Unit) : (Option (Int × Unit)) :=
  (Option.bind ((Option.bind (laws_szStepS (x.1.1, (x.2.1, ())) ()) fun v0 => (some v0.1)) : (Option Int)) fun v1 => (if (ltZ v1 0) = true then (some ((-1), ())) else (Option.bind ((Option.bind (laws_szIntSS (x.1.2.1, (v1, ())) ()) fun v2 => (some v2.1)) : (Option Int)) fun v3 => (if (ltZ v3 0) = true then (some ((-1), ())) else (some (v3, ()))))))
def H_laws_szResource : Hd := ⟨[.st [.sl 186 (.st [.int .i64, .int .i64]), .sl 25 (.sl 3 (.int .i64))], .int .i64], [], none, .p, .int .i64, .p, []⟩
def T_laws_szResource : FSig := ⟨H_laws_szResource.ps, H_laws_szResource.cs, H_laws_szResource.io, H_laws_szResource.im, H_laws_szResource.R, H_laws_szResource.m, laws_szResource⟩
theorem E_laws_szResource : fnOf tys [(89, T_laws_szStepS), (90, T_laws_szIntSS)] Tryd.f51 H_laws_szResource = T_laws_szResource := by kernel_rfl
theorem K_laws_szResource : SigB base_ Tryd.prog 51 T_laws_szResource := (congrArg (SigB base_ Tryd.prog 51) E_laws_szResource).mp (fnOf_ok rfl tysOk ⟨K_laws_szStepS, K_laws_szIntSS, trivial⟩ Tryd.func51 (by decide) rfl (fun _ h => by cases h) (nilEq_of (by kernel_rfl)))
def laws_szResourceS_L0 : (Int × ((List D_Resource) × (Int × Unit))) → Option (Out (Int × ((List D_Resource) × (Int × Unit))) ((Bool × (Int × ((List D_Resource) × (Int × Unit)))) ⊕ Empty) (Int × Unit)) :=
  (fun v0 => (if (ltZ v0.1 (lenI v0.2.1)) = true then (Option.bind (getI v0.2.1 v0.1) fun v1 => (Option.bind ((Option.bind (laws_szResource (v1, (v0.2.2.1, ())) ()) fun v2 => (some v2.1)) : (Option Int)) fun v3 => (if (ltZ v3 0) = true then (some (Out.ret ((-1), ()))) else (some (Out.norm ((addZ .i64 v0.1 1), (v0.2.1, (v3, ())))))))) else (some (Out.exit (Sum.inl ((ltZ v0.1 (lenI v0.2.1)), (v0.1, (v0.2.1, (v0.2.2.1, ())))))))))
def laws_szResourceS (x : ((List D_Resource) × (Int × Unit))) (c : Unit) : (Option (Int × Unit)) :=
  (if (ltZ (subZ .i64 x.2.1 (lenI x.1)) 0) = true then (some ((-1), ())) else (Option.bind (loopN (A := (Int × ((List D_Resource) × (Int × Unit)))) big laws_szResourceS_L0 (0, (x.1, ((subZ .i64 x.2.1 (lenI x.1)), ())))) fun v4 => (match v4 with | Out.norm v5 => none | Out.exit v6 => (match ((match v6 with | Sum.inl v9 => (Sum.inl (v9.2.2.2.1, ())) | Sum.inr v10 => (Empty.elim v10)) : ((Int × Unit) ⊕ Empty)) with | Sum.inl v7 => (some (v7.1, ())) | Sum.inr v8 => none) | Out.ret v11 => (some v11))))
def H_laws_szResourceS : Hd := ⟨[.sl 108 (.st [.sl 186 (.st [.int .i64, .int .i64]), .sl 25 (.sl 3 (.int .i64))]), .int .i64], [], none, .p, .int .i64, .p, []⟩
def T_laws_szResourceS : FSig := ⟨H_laws_szResourceS.ps, H_laws_szResourceS.cs, H_laws_szResourceS.io, H_laws_szResourceS.im, H_laws_szResourceS.R, H_laws_szResourceS.m, laws_szResourceS⟩
theorem E_laws_szResourceS : fnOf tys [(51, T_laws_szResource)] Tryd.f22 H_laws_szResourceS = T_laws_szResourceS := by kernel_rfl
theorem K_laws_szResourceS : SigB base_ Tryd.prog 22 T_laws_szResourceS := (congrArg (SigB base_ Tryd.prog 22) E_laws_szResourceS).mp (fnOf_ok rfl tysOk ⟨K_laws_szResource, trivial⟩ Tryd.func22 (by decide) rfl (fun _ h => by cases h) (nilEq_of (by kernel_rfl)))
def laws_szProject (x : (D_Project × (Int × Unit))) (c : Unit) : (Option (Int × Unit)) :=
  (Option.bind ((Option.bind (laws_szActivityS (x.1.2.1, (x.2.1, ())) ()) fun v0 => (some v0.1)) : (Option Int)) fun v1 => (if (ltZ v1 0) = true then (some ((-1), ())) else (Option.bind ((Option.bind (laws_szLinkS (x.1.2.2.1, (v1, ())) ()) fun v2 => (some v2.1)) : (Option Int)) fun v3 => (if (ltZ v3 0) = true then (some ((-1), ())) else (Option.bind ((Option.bind (laws_szResourceS (x.1.2.2.2.1, (v3, ())) ()) fun v4 => (some v4.1)) : (Option Int)) fun v5 => (if (ltZ v5 0) = true then (some ((-1), ())) else (Option.bind ((Option.bind (laws_szIntS (x.1.2.2.2.2.1, (v5, ())) ()) fun v6 => (some v6.1)) : (Option Int)) fun v7 => (if (ltZ v7 0) = true then (some ((-1), ())) else (some (v7, ()))))))))))
def H_laws_szProject : Hd := ⟨[.st [.int .i64, .sl 104 (.st [.str, .int .i64, .sl 182 (.st [.int .i64, .sl 3 (.int .i64), .sl 3 (.int .i64)])]), .sl 29 (.st [.int .i64, .int .i64, .bool, .int .i64]), .sl 108 (.st [.sl 186 (.st [.int .i64, .int .i64]), .sl 25 (.sl 3 (.int .i64))]), .sl 3 (.int .i64)], .int .i64], [], none, .p, .int .i64, .p, []⟩
def T_laws_szProject : FSig := ⟨H_laws_szProject.ps, H_laws_szProject.cs, H_laws_szProject.io, H_laws_szProject.im, H_laws_szProject.R, H_laws_szProject.m, laws_szProject⟩
theorem E_laws_szProject : fnOf tys [(20, T_laws_szActivityS), (21, T_laws_szLinkS), (22, T_laws_szResourceS), (23, T_laws_szIntS)] Tryd.f6 H_laws_szProject = T_laws_szProject := by kernel_rfl
theorem K_laws_szProject : SigB base_ Tryd.prog 6 T_laws_szProject := (congrArg (SigB base_ Tryd.prog 6) E_laws_szProject).mp (fnOf_ok rfl tysOk ⟨K_laws_szActivityS, K_laws_szLinkS, K_laws_szResourceS, K_laws_szIntS, trivial⟩ Tryd.func6 (by decide) rfl (fun _ h => by cases h) (nilEq_of (by kernel_rfl)))
def spec_l01In (x : D_Literal) (c : Unit) : (Option (Bool × Unit)) :=
  (Option.bind ((if (leZ x.2.1 x.1) = true then (some ((leZ x.1 x.2.2.1), ())) else (some (false, ()))) : (Option (Bool × Unit))) fun v0 => (some (v0.1, ())))
def H_spec_l01In : Hd := ⟨[.int .i64, .int .i64, .int .i64], [], none, .p, .bool, .p, []⟩
def T_spec_l01In : FSig := ⟨H_spec_l01In.ps, H_spec_l01In.cs, H_spec_l01In.io, H_spec_l01In.im, H_spec_l01In.R, H_spec_l01In.m, spec_l01In⟩
theorem E_spec_l01In : fnOf tys [] Tryd.f53 H_spec_l01In = T_spec_l01In := by kernel_rfl
theorem K_spec_l01In : SigB base_ Tryd.prog 53 T_spec_l01In := (congrArg (SigB base_ Tryd.prog 53) E_spec_l01In).mp (fnOf_ok rfl tysOk trivial Tryd.func53 (by decide) rfl (fun _ h => by cases h) (nilEq_of (by kernel_rfl)))
def H_spec_FormatInt : Hd := ⟨[.int .i64], [], none, .p, .str, .p, []⟩
def spec_FormatInt_r0 : (Int × Unit) → Unit → Option ((List UInt8) × Unit) := fun _ _ => none
def T_spec_FormatInt_r0 : FSig := ⟨H_spec_FormatInt.ps, H_spec_FormatInt.cs, H_spec_FormatInt.io, H_spec_FormatInt.im, H_spec_FormatInt.R, H_spec_FormatInt.m, spec_FormatInt_r0⟩
theorem K_spec_FormatInt_r0 : SigB base_ Tryd.prog 40 T_spec_FormatInt_r0 := ⟨⟨Tryd.f40, Tryd.func40, by decide, rfl⟩, fun _ _ _ _ _ _ _ _ _ _ _ _ _ _ h => by cases h⟩
def spec_FormatInt_r1_L0 : (Int × ((List UInt8) × Unit)) → Option (Out (Int × ((List UInt8) × Unit)) ((Bool × (Int × ((List UInt8) × Unit))) ⊕ Empty) ((List UInt8) × Unit)) :=
  (fun v5 => (if (ltZ 9 v5.1) = true then (Option.bind (remZ v5.1 10) fun v6 => (Option.bind (addI (ofBytes ((wrapI .u8 (addZ .i64 48 v6)) :: [])) v5.2.1) fun v7 => (Option.bind (quoZ .i64 v5.1 10) fun v8 => (some (Out.norm (v8, (v7, ()))))))) else (some (Out.exit (Sum.inl ((ltZ 9 v5.1), (v5.1, (v5.2.1, ()))))))))
def spec_FormatInt_r1 (x : (Int × Unit)) (c : Unit) : (Option ((List UInt8) × Unit)) :=
  (Option.bind ((Option.bind (spec_l01In (x.1, ((-100000), (100000, ()))) ()) fun v0 => (some v0.1)) : (Option Bool)) fun v1 => (if (notB v1) = true then (some ([], ())) else (if (ltZ x.1 0) = true then (Option.bind ((Option.bind (spec_FormatInt_r0 ((subZ .i64 0 x.1), ()) ()) fun v2 => (some v2.1)) : (Option (List UInt8))) fun v3 => (Option.bind (addI ([45] : List UInt8) v3) fun v4 => (some (v4, ())))) else (Option.bind (loopN (A := (Int × ((List UInt8) × Unit))) big spec_FormatInt_r1_L0 (x.1, ([], ()))) fun v9 => (match v9 with | Out.norm v10 => none | Out.exit v11 => (match ((match v11 with | Sum.inl v15 => (Sum.inl (v15.2.1, (v15.2.2.1, ()))) | Sum.inr v16 => (Empty.elim v16)) : ((Int × ((List UInt8) × Unit)) ⊕ Empty)) with | Sum.inl v12 => (Option.bind (addI (ofBytes ((wrapI .u8 (addZ .i64 48 v12.1)) :: [])) v12.2.1) fun v13 => (some (v13, ()))) | Sum.inr v14 => none) | Out.ret v17 => (some v17))))))
def T_spec_FormatInt_r1 : FSig := ⟨H_spec_FormatInt.ps, H_spec_FormatInt.cs, H_spec_FormatInt.io, H_spec_FormatInt.im, H_spec_FormatInt.R, H_spec_FormatInt.m, spec_FormatInt_r1⟩
theorem E_spec_FormatInt_r1 : fnOf tys [(40, T_spec_FormatInt_r0), (53, T_spec_l01In)] Tryd.f40 H_spec_FormatInt = T_spec_FormatInt_r1 := by kernel_rfl
theorem K_spec_FormatInt_r1 : SigB base_ Tryd.prog 40 T_spec_FormatInt_r1 := (congrArg (SigB base_ Tryd.prog 40) E_spec_FormatInt_r1).mp (fnOf_ok rfl tysOk ⟨K_spec_FormatInt_r0, K_spec_l01In, trivial⟩ Tryd.func40 (by decide) rfl (fun _ h => by cases h) (nilEq_of (by kernel_rfl)))
def spec_FormatInt_L0 : (Int × ((List UInt8) × Unit)) → Option (Out (Int × ((List UInt8) × Unit)) ((Bool × (Int × ((List UInt8) × Unit))) ⊕ Empty) ((List UInt8) × Unit)) :=
  (fun v5 => (if (ltZ 9 v5.1) = true then (Option.bind (remZ v5.1 10) fun v6 => (Option.bind (addI (ofBytes ((wrapI .u8 (addZ .i64 48 v6)) :: [])) v5.2.1) fun v7 => (Option.bind (quoZ .i64 v5.1 10) fun v8 => (some (Out.norm (v8, (v7, ()))))))) else (some (Out.exit (Sum.inl ((ltZ 9 v5.1), (v5.1, (v5.2.1, ()))))))))
def spec_FormatInt (x : (Int × Unit)) (c : Unit) : (Option ((List UInt8) × Unit)) :=
  (Option.bind ((Option.bind (spec_l01In (x.1, ((-100000), (100000, ()))) ()) fun v0 => (some v0.1)) : (Option Bool)) fun v1 => (if (notB v1) = true then (some ([], ())) else (if (ltZ x.1 0) = true then (Option.bind ((Option.bind (spec_FormatInt_r1 ((subZ .i64 0 x.1), ()) ()) fun v2 => (some v2.1)) : (Option (List UInt8))) fun v3 => (Option.bind (addI ([45] : List UInt8) v3) fun v4 => (some (v4, ())))) else (Option.bind (loopN (A := (Int × ((List UInt8) × Unit))) big spec_FormatInt_L0 (x.1, ([], ()))) fun v9 => (match v9 with | Out.norm v10 => none | Out.exit v11 => (match ((match v11 with | Sum.inl v15 => (Sum.inl (v15.2.1, (v15.2.2.1, ()))) | Sum.inr v16 => (Empty.elim v16)) : ((Int × ((List UInt8) × Unit)) ⊕ Empty)) with | Sum.inl v12 => (Option.bind (addI (ofBytes ((wrapI .u8 (addZ .i64 48 v12.1)) :: [])) v12.2.1) fun v13 => (some (v13, ()))) | Sum.inr v14 => none) | Out.ret v17 => (some v17))))))
def T_spec_FormatInt : FSig := ⟨H_spec_FormatInt.ps, H_spec_FormatInt.cs, H_spec_FormatInt.io, H_spec_FormatInt.im, H_spec_FormatInt.R, H_spec_FormatInt.m, spec_FormatInt⟩
theorem E_spec_FormatInt : fnOf tys [(40, T_spec_FormatInt_r1), (53, T_spec_l01In)] Tryd.f40 H_spec_FormatInt = T_spec_FormatInt := by kernel_rfl
theorem K_spec_FormatInt : SigB base_ Tryd.prog 40 T_spec_FormatInt := (congrArg (SigB base_ Tryd.prog 40) E_spec_FormatInt).mp (fnOf_ok rfl tysOk ⟨K_spec_FormatInt_r1, K_spec_l01In, trivial⟩ Tryd.func40 (by decide) rfl (fun _ h => by cases h) (nilEq_of (by kernel_rfl)))
def laws_toIntS_L0 : D_Mode → Option (Out D_Mode ((Bool × D_Mode) ⊕ Empty) ((List Int) × Unit)) :=
  (fun v1 => (if (ltZ v1.1 (lenI v1.2.1)) = true then (Option.bind (getI v1.2.1 v1.1) fun v2 => (Option.bind ((Option.bind (getI v1.2.2.1 v1.1) fun v3 => (some ())) : (Option Unit)) fun v4 => (Option.bind ((Option.bind ((Option.bind (getI v1.2.2.1 v1.1) fun v5 => (some v5)) : (Option Int)) fun v6 => (some v2)) : (Option Int)) fun v7 => (some (Out.norm ((addZ .i64 v1.1 1), (v1.2.1, ((setI v1.2.2.1 v1.1 (fun v8 => v7)), ())))))))) else (some (Out.exit (Sum.inl ((ltZ v1.1 (lenI v1.2.1)), (v1.1, (v1.2.1, (v1.2.2.1, ())))))))))
def laws_toIntS (x : ((List Int) × Unit)) (c : Unit) : (Option ((List Int) × Unit)) :=
  (Option.bind ((if (eqZ (lenI x.1) (lenI x.1)) = true then (zerosI (lenI x.1) 0) else none) : (Option (List Int))) fun v0 => (Option.bind (loopN (A := D_Mode) big laws_toIntS_L0 (0, (x.1, (v0, ())))) fun v9 => (match v9 with | Out.norm v10 => none | Out.exit v11 => (match ((match v11 with | Sum.inl v14 => (Sum.inl (v14.2.2.2.1, ())) | Sum.inr v15 => (Empty.elim v15)) : (((List Int) × Unit) ⊕ Empty)) with | Sum.inl v12 => (some (v12.1, ())) | Sum.inr v13 => none) | Out.ret v16 => (some v16))))
def H_laws_toIntS : Hd := ⟨[.sl 3 (.int .i64)], [], none, .p, .sl 3 (.int .i64), (Ty.all (.sl 3 (.int .i64))), []⟩
def T_laws_toIntS : FSig := ⟨H_laws_toIntS.ps, H_laws_toIntS.cs, H_laws_toIntS.io, H_laws_toIntS.im, H_laws_toIntS.R, H_laws_toIntS.m, laws_toIntS⟩
theorem E_laws_toIntS : fnOf tys [] Tryd.f30 H_laws_toIntS = T_laws_toIntS := by kernel_rfl
theorem K_laws_toIntS : SigB base_ Tryd.prog 30 T_laws_toIntS := (congrArg (SigB base_ Tryd.prog 30) E_laws_toIntS).mp (fnOf_ok rfl tysOk trivial Tryd.func30 (by decide) rfl (fun _ h => by cases h) (nilEq_of (by kernel_rfl)))
def laws_toMode (x : (D_Mode × Unit)) (c : Unit) : (Option (D_Mode × Unit)) :=
  (Option.bind ((Option.bind (laws_toIntS (x.1.2.1, ()) ()) fun v0 => (some v0.1)) : (Option (List Int))) fun v1 => (Option.bind ((Option.bind (laws_toIntS (x.1.2.2.1, ()) ()) fun v2 => (some v2.1)) : (Option (List Int))) fun v3 => (some ((x.1.1, (v1, (v3, ()))), ()))))
def H_laws_toMode : Hd := ⟨[.st [.int .i64, .sl 3 (.int .i64), .sl 3 (.int .i64)]], [], none, .p, .st [.int .i64, .sl 3 (.int .i64), .sl 3 (.int .i64)], (Ty.all (.st [.int .i64, .sl 3 (.int .i64), .sl 3 (.int .i64)])), []⟩
def T_laws_toMode : FSig := ⟨H_laws_toMode.ps, H_laws_toMode.cs, H_laws_toMode.io, H_laws_toMode.im, H_laws_toMode.R, H_laws_toMode.m, laws_toMode⟩
theorem E_laws_toMode : fnOf tys [(30, T_laws_toIntS)] Tryd.f116 H_laws_toMode = T_laws_toMode := by kernel_rfl
theorem K_laws_toMode : SigB base_ Tryd.prog 116 T_laws_toMode := (congrArg (SigB base_ Tryd.prog 116) E_laws_toMode).mp (fnOf_ok rfl tysOk ⟨K_laws_toIntS, trivial⟩ Tryd.func116 (by decide) rfl (fun _ h => by cases h) (nilEq_of (by kernel_rfl)))
def laws_toModeS_L0 : (Int × ((List D_Mode) × ((List D_Mode) × Unit))) → Option (Out (Int × ((List D_Mode) × ((List D_Mode) × Unit))) ((Bool × (Int × ((List D_Mode) × ((List D_Mode) × Unit)))) ⊕ Empty) ((List D_Mode) × Unit)) :=
  (fun v1 => (if (ltZ v1.1 (lenI v1.2.1)) = true then (Option.bind (getI v1.2.1 v1.1) fun v2 => (Option.bind ((Option.bind (laws_toMode (v2, ()) ()) fun v3 => (some v3.1)) : (Option D_Mode)) fun v4 => (Option.bind ((Option.bind (getI v1.2.2.1 v1.1) fun v5 => (some ())) : (Option Unit)) fun v6 => (Option.bind ((Option.bind ((Option.bind (getI v1.2.2.1 v1.1) fun v7 => (some v7)) : (Option D_Mode)) fun v8 => (some v4)) : (Option D_Mode)) fun v9 => (some (Out.norm ((addZ .i64 v1.1 1), (v1.2.1, ((setI v1.2.2.1 v1.1 (fun v10 => v9)), ()))))))))) else (some (Out.exit (Sum.inl ((ltZ v1.1 (lenI v1.2.1)), (v1.1, (v1.2.1, (v1.2.2.1, ())))))))))
def laws_toModeS (x : ((List D_Mode) × Unit)) (c : Unit) : (Option ((List D_Mode) × Unit)) :=
  (Option.bind ((if (eqZ (lenI x.1) (lenI x.1)) = true then (zerosI (lenI x.1) (0, ([], ([], ())))) else none) : (Option (List D_Mode))) fun v0 => (Option.bind (loopN (A := (Int × ((List D_Mode) × ((List D_Mode) × Unit)))) big laws_toModeS_L0 (0, (x.1, (v0, ())))) fun v11 => (match v11 with | Out.norm v12 => none | Out.exit v13 => (match ((match v13 with | Sum.inl v16 => (Sum.inl (v16.2.2.2.1, ())) | Sum.inr v17 => (Empty.elim v17)) : (((List D_Mode) × Unit) ⊕ Empty)) with | Sum.inl v14 => (some (v14.1, ())) | Sum.inr v15 => none) | Out.ret v18 => (some v18))))
def H_laws_toModeS : Hd := ⟨[.sl 182 (.st [.int .i64, .sl 3 (.int .i64), .sl 3 (.int .i64)])], [], none, .p, .sl 121 (.st [.int .i64, .sl 3 (.int .i64), .sl 3 (.int .i64)]), (Ty.all (.sl 121 (.st [.int .i64, .sl 3 (.int .i64), .sl 3 (.int .i64)]))), []⟩
def T_laws_toModeS : FSig := ⟨H_laws_toModeS.ps, H_laws_toModeS.cs, H_laws_toModeS.io, H_laws_toModeS.im, H_laws_toModeS.R, H_laws_toModeS.m, laws_toModeS⟩
theorem E_laws_toModeS : fnOf tys [(116, T_laws_toMode)] Tryd.f94 H_laws_toModeS = T_laws_toModeS := by kernel_rfl
theorem K_laws_toModeS : SigB base_ Tryd.prog 94 T_laws_toModeS := (congrArg (SigB base_ Tryd.prog 94) E_laws_toModeS).mp (fnOf_ok rfl tysOk ⟨K_laws_toMode, trivial⟩ Tryd.func94 (by decide) rfl (fun _ h => by cases h) (nilEq_of (by kernel_rfl)))
def laws_toActivity (x : (D_Activity × Unit)) (c : Unit) : (Option (D_Activity × Unit)) :=
  (Option.bind ((Option.bind (laws_toModeS (x.1.2.2.1, ()) ()) fun v0 => (some v0.1)) : (Option (List D_Mode))) fun v1 => (some ((x.1.1, (x.1.2.1, (v1, ()))), ())))
def H_laws_toActivity : Hd := ⟨[.st [.str, .int .i64, .sl 182 (.st [.int .i64, .sl 3 (.int .i64), .sl 3 (.int .i64)])]], [], none, .p, .st [.str, .int .i64, .sl 121 (.st [.int .i64, .sl 3 (.int .i64), .sl 3 (.int .i64)])], (Ty.all (.st [.str, .int .i64, .sl 121 (.st [.int .i64, .sl 3 (.int .i64), .sl 3 (.int .i64)])])), []⟩
def T_laws_toActivity : FSig := ⟨H_laws_toActivity.ps, H_laws_toActivity.cs, H_laws_toActivity.io, H_laws_toActivity.im, H_laws_toActivity.R, H_laws_toActivity.m, laws_toActivity⟩
theorem E_laws_toActivity : fnOf tys [(94, T_laws_toModeS)] Tryd.f57 H_laws_toActivity = T_laws_toActivity := by kernel_rfl
theorem K_laws_toActivity : SigB base_ Tryd.prog 57 T_laws_toActivity := (congrArg (SigB base_ Tryd.prog 57) E_laws_toActivity).mp (fnOf_ok rfl tysOk ⟨K_laws_toModeS, trivial⟩ Tryd.func57 (by decide) rfl (fun _ h => by cases h) (nilEq_of (by kernel_rfl)))
def laws_toActivityS_L0 : (Int × ((List D_Activity) × ((List D_Activity) × Unit))) → Option (Out (Int × ((List D_Activity) × ((List D_Activity) × Unit))) ((Bool × (Int × ((List D_Activity) × ((List D_Activity) × Unit)))) ⊕ Empty) ((List D_Activity) × Unit)) :=
  (fun v1 => (if (ltZ v1.1 (lenI v1.2.1)) = true then (Option.bind (getI v1.2.1 v1.1) fun v2 => (Option.bind ((Option.bind (laws_toActivity (v2, ()) ()) fun v3 => (some v3.1)) : (Option D_Activity)) fun v4 => (Option.bind ((Option.bind (getI v1.2.2.1 v1.1) fun v5 => (some ())) : (Option Unit)) fun v6 => (Option.bind ((Option.bind ((Option.bind (getI v1.2.2.1 v1.1) fun v7 => (some v7)) : (Option D_Activity)) fun v8 => (some v4)) : (Option D_Activity)) fun v9 => (some (Out.norm ((addZ .i64 v1.1 1), (v1.2.1, ((setI v1.2.2.1 v1.1 (fun v10 => v9)), ()))))))))) else (some (Out.exit (Sum.inl ((ltZ v1.1 (lenI v1.2.1)), (v1.1, (v1.2.1, (v1.2.2.1, ())))))))))
def laws_toActivityS (x : ((List D_Activity) × Unit)) (c : Unit) : (Option ((List D_Activity) × Unit)) :=
  (Option.bind ((if (eqZ (lenI x.1) (lenI x.1)) = true then (zerosI (lenI x.1) ([], (0, ([], ())))) else none) : (Option (List D_Activity))) fun v0 => (Option.bind (loopN (A := (Int × ((List D_Activity) × ((List D_Activity) × Unit)))) big laws_toActivityS_L0 (0, (x.1, (v0, ())))) fun v11 => (match v11 with | Out.norm v12 => none | Out.exit v13 => (match ((match v13 with | Sum.inl v16 => (Sum.inl (v16.2.2.2.1, ())) | Sum.inr v17 => (Empty.elim v17)) : (((List D_Activity) × Unit) ⊕ Empty)) with | Sum.inl v14 => (some (v14.1, ())) | Sum.inr v15 => none) | Out.ret v18 => (some v18))))
def H_laws_toActivityS : Hd := ⟨[.sl 104 (.st [.str, .int .i64, .sl 182 (.st [.int .i64, .sl 3 (.int .i64), .sl 3 (.int .i64)])])], [], none, .p, .sl 99 (.st [.str, .int .i64, .sl 121 (.st [.int .i64, .sl 3 (.int .i64), .sl 3 (.int .i64)])]), (Ty.all (.sl 99 (.st [.str, .int .i64, .sl 121 (.st [.int .i64, .sl 3 (.int .i64), .sl 3 (.int .i64)])]))), []⟩
def T_laws_toActivityS : FSig := ⟨H_laws_toActivityS.ps, H_laws_toActivityS.cs, H_laws_toActivityS.io, H_laws_toActivityS.im, H_laws_toActivityS.R, H_laws_toActivityS.m, laws_toActivityS⟩
theorem E_laws_toActivityS : fnOf tys [(57, T_laws_toActivity)] Tryd.f27 H_laws_toActivityS = T_laws_toActivityS := by kernel_rfl
theorem K_laws_toActivityS : SigB base_ Tryd.prog 27 T_laws_toActivityS := (congrArg (SigB base_ Tryd.prog 27) E_laws_toActivityS).mp (fnOf_ok rfl tysOk ⟨K_laws_toActivity, trivial⟩ Tryd.func27 (by decide) rfl (fun _ h => by cases h) (nilEq_of (by kernel_rfl)))
def laws_toLink (x : (D_Link × Unit)) (c : Unit) : (Option (D_Link × Unit)) :=
  (some ((x.1.1, (x.1.2.1, (x.1.2.2.1, (x.1.2.2.2.1, ())))), ()))
def H_laws_toLink : Hd := ⟨[.st [.int .i64, .int .i64, .bool, .int .i64]], [], none, .p, .st [.int .i64, .int .i64, .bool, .int .i64], .p, []⟩
def T_laws_toLink : FSig := ⟨H_laws_toLink.ps, H_laws_toLink.cs, H_laws_toLink.io, H_laws_toLink.im, H_laws_toLink.R, H_laws_toLink.m, laws_toLink⟩
theorem E_laws_toLink : fnOf tys [] Tryd.f9 H_laws_toLink = T_laws_toLink := by kernel_rfl
theorem K_laws_toLink : SigB base_ Tryd.prog 9 T_laws_toLink := (congrArg (SigB base_ Tryd.prog 9) E_laws_toLink).mp (fnOf_ok rfl tysOk trivial Tryd.func9 (by decide) rfl (fun _ h => by cases h) (nilEq_of (by kernel_rfl)))
def laws_toLinkS_L0 : (Int × ((List D_Link) × ((List D_Link) × Unit))) → Option (Out (Int × ((List D_Link) × ((List D_Link) × Unit))) ((Bool × (Int × ((List D_Link) × ((List D_Link) × Unit)))) ⊕ Empty) ((List D_Link) × Unit)) :=
  (fun v1 => (if (ltZ v1.1 (lenI v1.2.1)) = true then (Option.bind (getI v1.2.1 v1.1) fun v2 => (Option.bind ((Option.bind (laws_toLink (v2, ()) ()) fun v3 => (some v3.1)) : (Option D_Link)) fun v4 => (Option.bind ((Option.bind (getI v1.2.2.1 v1.1) fun v5 => (some ())) : (Option Unit)) fun v6 => (Option.bind ((Option.bind ((Option.bind (getI v1.2.2.1 v1.1) fun v7 => (some v7)) : (Option D_Link)) fun v8 => (some v4)) : (Option D_Link)) fun v9 => (some (Out.norm ((addZ .i64 v1.1 1), (v1.2.1, ((setI v1.2.2.1 v1.1 (fun v10 => v9)), ()))))))))) else (some (Out.exit (Sum.inl ((ltZ v1.1 (lenI v1.2.1)), (v1.1, (v1.2.1, (v1.2.2.1, ())))))))))
def laws_toLinkS (x : ((List D_Link) × Unit)) (c : Unit) : (Option ((List D_Link) × Unit)) :=
  (Option.bind ((if (eqZ (lenI x.1) (lenI x.1)) = true then (zerosI (lenI x.1) (0, (0, (false, (0, ()))))) else none) : (Option (List D_Link))) fun v0 => (Option.bind (loopN (A := (Int × ((List D_Link) × ((List D_Link) × Unit)))) big laws_toLinkS_L0 (0, (x.1, (v0, ())))) fun v11 => (match v11 with | Out.norm v12 => none | Out.exit v13 => (match ((match v13 with | Sum.inl v16 => (Sum.inl (v16.2.2.2.1, ())) | Sum.inr v17 => (Empty.elim v17)) : (((List D_Link) × Unit) ⊕ Empty)) with | Sum.inl v14 => (some (v14.1, ())) | Sum.inr v15 => none) | Out.ret v18 => (some v18))))
def H_laws_toLinkS : Hd := ⟨[.sl 29 (.st [.int .i64, .int .i64, .bool, .int .i64])], [], none, .p, .sl 38 (.st [.int .i64, .int .i64, .bool, .int .i64]), (Ty.all (.sl 38 (.st [.int .i64, .int .i64, .bool, .int .i64]))), []⟩
def T_laws_toLinkS : FSig := ⟨H_laws_toLinkS.ps, H_laws_toLinkS.cs, H_laws_toLinkS.io, H_laws_toLinkS.im, H_laws_toLinkS.R, H_laws_toLinkS.m, laws_toLinkS⟩
theorem E_laws_toLinkS : fnOf tys [(9, T_laws_toLink)] Tryd.f28 H_laws_toLinkS = T_laws_toLinkS := by kernel_rfl
theorem K_laws_toLinkS : SigB base_ Tryd.prog 28 T_laws_toLinkS := (congrArg (SigB base_ Tryd.prog 28) E_laws_toLinkS).mp (fnOf_ok rfl tysOk ⟨K_laws_toLink, trivial⟩ Tryd.func28 (by decide) rfl (fun _ h => by cases h) (nilEq_of (by kernel_rfl)))
def laws_toStep (x : (D_Step × Unit)) (c : Unit) : (Option (D_Step × Unit)) :=
  (some ((x.1.1, (x.1.2.1, ())), ()))
def H_laws_toStep : Hd := ⟨[.st [.int .i64, .int .i64]], [], none, .p, .st [.int .i64, .int .i64], .p, []⟩
def T_laws_toStep : FSig := ⟨H_laws_toStep.ps, H_laws_toStep.cs, H_laws_toStep.io, H_laws_toStep.im, H_laws_toStep.R, H_laws_toStep.m, laws_toStep⟩
theorem E_laws_toStep : fnOf tys [] Tryd.f117 H_laws_toStep = T_laws_toStep := by kernel_rfl
theorem K_laws_toStep : SigB base_ Tryd.prog 117 T_laws_toStep := (congrArg (SigB base_ Tryd.prog 117) E_laws_toStep).mp (fnOf_ok rfl tysOk trivial Tryd.func117 (by decide) rfl (fun _ h => by cases h) (nilEq_of (by kernel_rfl)))
def laws_toStepS_L0 : (Int × ((List D_Step) × ((List D_Step) × Unit))) → Option (Out (Int × ((List D_Step) × ((List D_Step) × Unit))) ((Bool × (Int × ((List D_Step) × ((List D_Step) × Unit)))) ⊕ Empty) ((List D_Step) × Unit)) :=
  (fun v1 => (if (ltZ v1.1 (lenI v1.2.1)) = true then (Option.bind (getI v1.2.1 v1.1) fun v2 => (Option.bind ((Option.bind (laws_toStep (v2, ()) ()) fun v3 => (some v3.1)) : (Option D_Step)) fun v4 => (Option.bind ((Option.bind (getI v1.2.2.1 v1.1) fun v5 => (some ())) : (Option Unit)) fun v6 => (Option.bind ((Option.bind ((Option.bind (getI v1.2.2.1 v1.1) fun v7 => (some v7)) : (Option D_Step)) fun v8 => (some v4)) : (Option D_Step)) fun v9 => (some (Out.norm ((addZ .i64 v1.1 1), (v1.2.1, ((setI v1.2.2.1 v1.1 (fun v10 => v9)), ()))))))))) else (some (Out.exit (Sum.inl ((ltZ v1.1 (lenI v1.2.1)), (v1.1, (v1.2.1, (v1.2.2.1, ())))))))))
def laws_toStepS (x : ((List D_Step) × Unit)) (c : Unit) : (Option ((List D_Step) × Unit)) :=
  (Option.bind ((if (eqZ (lenI x.1) (lenI x.1)) = true then (zerosI (lenI x.1) (0, (0, ()))) else none) : (Option (List D_Step))) fun v0 => (Option.bind (loopN (A := (Int × ((List D_Step) × ((List D_Step) × Unit)))) big laws_toStepS_L0 (0, (x.1, (v0, ())))) fun v11 => (match v11 with | Out.norm v12 => none | Out.exit v13 => (match ((match v13 with | Sum.inl v16 => (Sum.inl (v16.2.2.2.1, ())) | Sum.inr v17 => (Empty.elim v17)) : (((List D_Step) × Unit) ⊕ Empty)) with | Sum.inl v14 => (some (v14.1, ())) | Sum.inr v15 => none) | Out.ret v18 => (some v18))))
def H_laws_toStepS : Hd := ⟨[.sl 186 (.st [.int .i64, .int .i64])], [], none, .p, .sl 124 (.st [.int .i64, .int .i64]), (Ty.all (.sl 124 (.st [.int .i64, .int .i64]))), []⟩
def T_laws_toStepS : FSig := ⟨H_laws_toStepS.ps, H_laws_toStepS.cs, H_laws_toStepS.io, H_laws_toStepS.im, H_laws_toStepS.R, H_laws_toStepS.m, laws_toStepS⟩
theorem E_laws_toStepS : fnOf tys [(117, T_laws_toStep)] Tryd.f95 H_laws_toStepS = T_laws_toStepS := by kernel_rfl
theorem K_laws_toStepS : SigB base_ Tryd.prog 95 T_laws_toStepS := (congrArg (SigB base_ Tryd.prog 95) E_laws_toStepS).mp (fnOf_ok rfl tysOk ⟨K_laws_toStep, trivial⟩ Tryd.func95 (by decide) rfl (fun _ h => by cases h) (nilEq_of (by kernel_rfl)))
def laws_toIntSS_L0 : (Int × ((List (List Int)) × ((List (List Int)) × Unit))) → Option (Out (Int × ((List (List Int)) × ((List (List Int)) × Unit))) ((Bool × (Int × ((List (List Int)) × ((List (List Int)) × Unit)))) ⊕ Empty) ((List (List Int)) × Unit)) :=
  (fun v1 => (if (ltZ v1.1 (lenI v1.2.1)) = true then (Option.bind (getI v1.2.1 v1.1) fun v2 => (Option.bind ((Option.bind (laws_toIntS (v2, ()) ()) fun v3 => (some v3.1)) : (Option (List Int))) fun v4 => (Option.bind ((Option.bind (getI v1.2.2.1 v1.1) fun v5 => (some ())) : (Option Unit)) fun v6 => (Option.bind ((Option.bind ((Option.bind (getI v1.2.2.1 v1.1) fun v7 => (some v7)) : (Option (List Int))) fun v8 => (some v4)) : (Option (List Int))) fun v9 => (some (Out.norm ((addZ .i64 v1.1 1), (v1.2.1, ((setI v1.2.2.1 v1.1 (fun v10 => v9)), ()))))))))) else (some (Out.exit (Sum.inl ((ltZ v1.1 (lenI v1.2.1)), (v1.1, (v1.2.1, (v1.2.2.1, ())))))))))
def laws_toIntSS (x : ((List (List Int)) × Unit)) (c : Unit) : (Option ((List (List Int)) × Unit)) :=
  (Option.bind ((if (eqZ (lenI x.1) (lenI x.1)) = true then (zerosI (lenI x.1) []) else none) : (Option (List (List Int)))) fun v0 => (Option.bind (loopN (A := (Int × ((List (List Int)) × ((List (List Int)) × Unit)))) big laws_toIntSS_L0 (0, (x.1, (v0, ())))) fun v11 => (match v11 with | Out.norm v12 => none | Out.exit v13 => (match ((match v13 with | Sum.inl v16 => (Sum.inl (v16.2.2.2.1, ())) | Sum.inr v17 => (Empty.elim v17)) : (((List (List Int)) × Unit) ⊕ Empty)) with | Sum.inl v14 => (some (v14.1, ())) | Sum.inr v15 => none) | Out.ret v18 => (some v18))))
def H_laws_toIntSS : Hd := ⟨[.sl 25 (.sl 3 (.int .i64))], [], none, .p, .sl 25 (.sl 3 (.int .i64)), (Ty.all (.sl 25 (.sl 3 (.int .i64)))), []⟩
def T_laws_toIntSS : FSig := ⟨H_laws_toIntSS.ps, H_laws_toIntSS.cs, H_laws_toIntSS.io, H_laws_toIntSS.im, H_laws_toIntSS.R, H_laws_toIntSS.m, laws_toIntSS⟩
theorem E_laws_toIntSS : fnOf tys [(30, T_laws_toIntS)] Tryd.f96 H_laws_toIntSS = T_laws_toIntSS := by kernel_rfl
theorem K_laws_toIntSS : SigB base_ Tryd.prog 96 T_laws_toIntSS := (congrArg (SigB base_ Tryd.prog 96) E_laws_toIntSS).mp (fnOf_ok rfl tysOk ⟨K_laws_toIntS, trivial⟩ Tryd.func96 (by decide) rfl (fun _ h => by cases h) (nilEq_of (by kernel_rfl)))
def laws_toResource (x : (D_Resource × Unit)) (c : Unit) : (Option (D_Resource × Unit)) :=
  (Option.bind ((Option.bind (laws_toStepS (x.1.1, ()) ()) fun v0 => (some v0.1)) : (Option (List D_Step))) fun v1 => (Option.bind ((Option.bind (laws_toIntSS (x.1.2.1, ()) ()) fun v2 => (some v2.1)) : (Option (List (List Int)))) fun v3 => (some ((v1, (v3, ())), ()))))
def H_laws_toResource : Hd := ⟨[.st [.sl 186 (.st [.int .i64, .int .i64]), .sl 25 (.sl 3 (.int .i64))]], [], none, .p, .st [.sl 124 (.st [.int .i64, .int .i64]), .sl 25 (.sl 3 (.int .i64))], (Ty.all (.st [.sl 124 (.st [.int .i64, .int .i64]), .sl 25 (.sl 3 (.int .i64))])), []⟩
def T_laws_toResource : FSig := ⟨H_laws_toResource.ps, H_laws_toResource.cs, H_laws_toResource.io, H_laws_toResource.im, H_laws_toResource.R, H_laws_toResource.m, laws_toResource⟩
theorem E_laws_toResource : fnOf tys [(95, T_laws_toStepS), (96, T_laws_toIntSS)] Tryd.f58 H_laws_toResource = T_laws_toResource := by kernel_rfl
theorem K_laws_toResource : SigB base_ Tryd.prog 58 T_laws_toResource := (congrArg (SigB base_ Tryd.prog 58) E_laws_toResource).mp (fnOf_ok rfl tysOk ⟨K_laws_toStepS, K_laws_toIntSS, trivial⟩ Tryd.func58 (by decide) rfl (fun _ h => by cases h) (nilEq_of (by kernel_rfl)))
def laws_toResourceS_L0 : (Int × ((List D_Resource) × ((List D_Resource) × Unit))) → Option (Out (Int × ((List D_Resource) × ((List D_Resource) × Unit))) ((Bool × (Int × ((List D_Resource) × ((List D_Resource) × Unit)))) ⊕ Empty) ((List D_Resource) × Unit)) :=
  (fun v1 => (if (ltZ v1.1 (lenI v1.2.1)) = true then (Option.bind (getI v1.2.1 v1.1) fun v2 => (Option.bind ((Option.bind (laws_toResource (v2, ()) ()) fun v3 => (some v3.1)) : (Option D_Resource)) fun v4 => (Option.bind ((Option.bind (getI v1.2.2.1 v1.1) fun v5 => (some ())) : (Option Unit)) fun v6 => (Option.bind ((Option.bind ((Option.bind (getI v1.2.2.1 v1.1) fun v7 => (some v7)) : (Option D_Resource)) fun v8 => (some v4)) : (Option D_Resource)) fun v9 => (some (Out.norm ((addZ .i64 v1.1 1), (v1.2.1, ((setI v1.2.2.1 v1.1 (fun v10 => v9)), ()))))))))) else (some (Out.exit (Sum.inl ((ltZ v1.1 (lenI v1.2.1)), (v1.1, (v1.2.1, (v1.2.2.1, ())))))))))
def laws_toResourceS (x : ((List D_Resource) × Unit)) (c : Unit) : (Option ((List D_Resource) × Unit)) :=
  (Option.bind ((if (eqZ (lenI x.1) (lenI x.1)) = true then (zerosI (lenI x.1) ([], ([], ()))) else none) : (Option (List D_Resource))) fun v0 => (Option.bind (loopN (A := (Int × ((List D_Resource) × ((List D_Resource) × Unit)))) big laws_toResourceS_L0 (0, (x.1, (v0, ())))) fun v11 => (match v11 with | Out.norm v12 => none | Out.exit v13 => (match ((match v13 with | Sum.inl v16 => (Sum.inl (v16.2.2.2.1, ())) | Sum.inr v17 => (Empty.elim v17)) : (((List D_Resource) × Unit) ⊕ Empty)) with | Sum.inl v14 => (some (v14.1, ())) | Sum.inr v15 => none) | Out.ret v18 => (some v18))))
def H_laws_toResourceS : Hd := ⟨[.sl 108 (.st [.sl 186 (.st [.int .i64, .int .i64]), .sl 25 (.sl 3 (.int .i64))])], [], none, .p, .sl 112 (.st [.sl 124 (.st [.int .i64, .int .i64]), .sl 25 (.sl 3 (.int .i64))]), (Ty.all (.sl 112 (.st [.sl 124 (.st [.int .i64, .int .i64]), .sl 25 (.sl 3 (.int .i64))]))), []⟩
def T_laws_toResourceS : FSig := ⟨H_laws_toResourceS.ps, H_laws_toResourceS.cs, H_laws_toResourceS.io, H_laws_toResourceS.im, H_laws_toResourceS.R, H_laws_toResourceS.m, laws_toResourceS⟩
theorem E_laws_toResourceS : fnOf tys [(58, T_laws_toResource)] Tryd.f29 H_laws_toResourceS = T_laws_toResourceS := by kernel_rfl
theorem K_laws_toResourceS : SigB base_ Tryd.prog 29 T_laws_toResourceS := (congrArg (SigB base_ Tryd.prog 29) E_laws_toResourceS).mp (fnOf_ok rfl tysOk ⟨K_laws_toResource, trivial⟩ Tryd.func29 (by decide) rfl (fun _ h => by cases h) (nilEq_of (by kernel_rfl)))
def laws_toProject (x : (D_Project × Unit)) (c : Unit) : (Option (D_Project × Unit)) :=
  (Option.bind ((Option.bind (laws_toActivityS (x.1.2.1, ()) ()) fun v0 => (some v0.1)) : (Option (List D_Activity))) fun v1 => (Option.bind ((Option.bind (laws_toLinkS (x.1.2.2.1, ()) ()) fun v2 => (some v2.1)) : (Option (List D_Link))) fun v3 => (Option.bind ((Option.bind (laws_toResourceS (x.1.2.2.2.1, ()) ()) fun v4 => (some v4.1)) : (Option (List D_Resource))) fun v5 => (Option.bind ((Option.bind (laws_toIntS (x.1.2.2.2.2.1, ()) ()) fun v6 => (some v6.1)) : (Option (List Int))) fun v7 => (some ((x.1.1, (v1, (v3, (v5, (v7, ()))))), ()))))))
def H_laws_toProject : Hd := ⟨[.st [.int .i64, .sl 104 (.st [.str, .int .i64, .sl 182 (.st [.int .i64, .sl 3 (.int .i64), .sl 3 (.int .i64)])]), .sl 29 (.st [.int .i64, .int .i64, .bool, .int .i64]), .sl 108 (.st [.sl 186 (.st [.int .i64, .int .i64]), .sl 25 (.sl 3 (.int .i64))]), .sl 3 (.int .i64)]], [], none, .p, .st [.int .i64, .sl 99 (.st [.str, .int .i64, .sl 121 (.st [.int .i64, .sl 3 (.int .i64), .sl 3 (.int .i64)])]), .sl 38 (.st [.int .i64, .int .i64, .bool, .int .i64]), .sl 112 (.st [.sl 124 (.st [.int .i64, .int .i64]), .sl 25 (.sl 3 (.int .i64))]), .sl 3 (.int .i64)], (Ty.all (.st [.int .i64, .sl 99 (.st [.str, .int .i64, .sl 121 (.st [.int .i64, .sl 3 (.int .i64), .sl 3 (.int .i64)])]), .sl 38 (.st [.int .i64, .int .i64, .bool, .int .i64]), .sl 112 (.st [.sl 124 (.st [.int .i64, .int .i64]), .sl 25 (.sl 3 (.int .i64))]), .sl 3 (.int .i64)])), []⟩
def T_laws_toProject : FSig := ⟨H_laws_toProject.ps, H_laws_toProject.cs, H_laws_toProject.io, H_laws_toProject.im, H_laws_toProject.R, H_laws_toProject.m, laws_toProject⟩
theorem E_laws_toProject : fnOf tys [(27, T_laws_toActivityS), (28, T_laws_toLinkS), (29, T_laws_toResourceS), (30, T_laws_toIntS)] Tryd.f8 H_laws_toProject = T_laws_toProject := by kernel_rfl
theorem K_laws_toProject : SigB base_ Tryd.prog 8 T_laws_toProject := (congrArg (SigB base_ Tryd.prog 8) E_laws_toProject).mp (fnOf_ok rfl tysOk ⟨K_laws_toActivityS, K_laws_toLinkS, K_laws_toResourceS, K_laws_toIntS, trivial⟩ Tryd.func8 (by decide) rfl (fun _ h => by cases h) (nilEq_of (by kernel_rfl)))
def impl_within (x : D_Literal) (c : Unit) : (Option (Bool × Unit)) :=
  (Option.bind ((if (leZ x.2.1 x.1) = true then (some ((leZ x.1 x.2.2.1), ())) else (some (false, ()))) : (Option (Bool × Unit))) fun v0 => (some (v0.1, ())))
def H_impl_within : Hd := ⟨[.int .i64, .int .i64, .int .i64], [], none, .p, .bool, .p, []⟩
def T_impl_within : FSig := ⟨H_impl_within.ps, H_impl_within.cs, H_impl_within.io, H_impl_within.im, H_impl_within.R, H_impl_within.m, impl_within⟩
theorem E_impl_within : fnOf tys [] Tryd.f62 H_impl_within = T_impl_within := by kernel_rfl
theorem K_impl_within : SigB base_ Tryd.prog 62 T_impl_within := (congrArg (SigB base_ Tryd.prog 62) E_impl_within).mp (fnOf_ok rfl tysOk trivial Tryd.func62 (by decide) rfl (fun _ h => by cases h) (nilEq_of (by kernel_rfl)))
def H_strconv_Itoa : Hd := ⟨[.int .i64], [], none, .p, .str, .p, []⟩
def strconv_Itoa : (Int × Unit) → Unit → Option (List UInt8 × Unit) := itoaF
def T_strconv_Itoa : FSig := ⟨H_strconv_Itoa.ps, H_strconv_Itoa.cs, H_strconv_Itoa.io, H_strconv_Itoa.im, H_strconv_Itoa.R, H_strconv_Itoa.m, strconv_Itoa⟩
theorem K_strconv_Itoa : SigB base_ Tryd.prog 78 T_strconv_Itoa := itoa_ok ⟨Tryd.f78, Tryd.func78, by decide, rfl⟩ base_tab (fun n h0 h1 w h => Any.strconv_Itoa Tryd.laysM171 n h0 h1 w (tab_cast h (by kernel_rfl)))
def impl_FormatInt (x : (Int × Unit)) (c : Unit) : (Option ((List UInt8) × Unit)) :=
  (Option.bind ((Option.bind (impl_within (x.1, ((-100000), (100000, ()))) ()) fun v0 => (some v0.1)) : (Option Bool)) fun v1 => (if (notB v1) = true then (some ([], ())) else (Option.bind ((Option.bind (strconv_Itoa (x.1, ()) ()) fun v2 => (some v2.1)) : (Option (List UInt8))) fun v3 => (some (v3, ())))))
def H_impl_FormatInt : Hd := ⟨[.int .i64], [], none, .p, .str, .p, []⟩
def T_impl_FormatInt : FSig := ⟨H_impl_FormatInt.ps, H_impl_FormatInt.cs, H_impl_FormatInt.io, H_impl_FormatInt.im, H_impl_FormatInt.R, H_impl_FormatInt.m, impl_FormatInt⟩
theorem E_impl_FormatInt : fnOf tys [(62, T_impl_within), (78, T_strconv_Itoa)] Tryd.f43 H_impl_FormatInt = T_impl_FormatInt := by kernel_rfl
theorem K_impl_FormatInt : SigB base_ Tryd.prog 43 T_impl_FormatInt := (congrArg (SigB base_ Tryd.prog 43) E_impl_FormatInt).mp (fnOf_ok rfl tysOk ⟨K_impl_within, K_strconv_Itoa, trivial⟩ Tryd.func43 (by decide) rfl (fun _ h => by cases h) (nilEq_of (by kernel_rfl)))
def laws_eqIntS_L0 : D_Mode → Option (Out D_Mode ((Bool × D_Mode) ⊕ Empty) (Bool × Unit)) :=
  (fun v0 => (if (ltZ v0.1 (lenI v0.2.1)) = true then (Option.bind (getI v0.2.1 v0.1) fun v1 => (Option.bind (getI v0.2.2.1 v0.1) fun v2 => (if (notB (eqZ v1 v2)) = true then (some (Out.ret (false, ()))) else (some (Out.norm ((addZ .i64 v0.1 1), (v0.2.1, (v0.2.2.1, ())))))))) else (some (Out.exit (Sum.inl ((ltZ v0.1 (lenI v0.2.1)), (v0.1, (v0.2.1, (v0.2.2.1, ())))))))))
def laws_eqIntS (x : D_Schedule) (c : Unit) : (Option (Bool × Unit)) :=
  (if (notB (eqZ (lenI x.1) (lenI x.2.1))) = true then (some (false, ())) else (Option.bind (loopN (A := D_Mode) big laws_eqIntS_L0 (0, (x.1, (x.2.1, ())))) fun v3 => (match v3 with | Out.norm v4 => none | Out.exit v5 => (match ((match v5 with | Sum.inl v8 => (Sum.inl ()) | Sum.inr v9 => (Empty.elim v9)) : (Unit ⊕ Empty)) with | Sum.inl v6 => (some (true, ())) | Sum.inr v7 => none) | Out.ret v10 => (some v10))))
def H_laws_eqIntS : Hd := ⟨[.sl 3 (.int .i64), .sl 3 (.int .i64)], [], none, .p, .bool, .p, []⟩
def T_laws_eqIntS : FSig := ⟨H_laws_eqIntS.ps, H_laws_eqIntS.cs, H_laws_eqIntS.io, H_laws_eqIntS.im, H_laws_eqIntS.R, H_laws_eqIntS.m, laws_eqIntS⟩
theorem E_laws_eqIntS : fnOf tys [] Tryd.f37 H_laws_eqIntS = T_laws_eqIntS := by kernel_rfl
theorem K_laws_eqIntS : SigB base_ Tryd.prog 37 T_laws_eqIntS := (congrArg (SigB base_ Tryd.prog 37) E_laws_eqIntS).mp (fnOf_ok rfl tysOk trivial Tryd.func37 (by decide) rfl (fun _ h => by cases h) (nilEq_of (by kernel_rfl)))
def laws_eqMode (x : (D_Mode × (D_Mode × Unit))) (c : Unit) : (Option (Bool × Unit)) :=
  (if (notB (eqZ x.1.1 x.2.1.1)) = true then (some (false, ())) else (Option.bind ((Option.bind (laws_eqIntS (x.1.2.1, (x.2.1.2.1, ())) ()) fun v0 => (some v0.1)) : (Option Bool)) fun v1 => (if (notB v1) = true then (some (false, ())) else (Option.bind ((Option.bind (laws_eqIntS (x.1.2.2.1, (x.2.1.2.2.1, ())) ()) fun v2 => (some v2.1)) : (Option Bool)) fun v3 => (if (notB v3) = true then (some (false, ())) else (some (true, ())))))))
def H_laws_eqMode : Hd := ⟨[.st [.int .i64, .sl 3 (.int .i64), .sl 3 (.int .i64)], .st [.int .i64, .sl 3 (.int .i64), .sl 3 (.int .i64)]], [], none, .p, .bool, .p, []⟩
def T_laws_eqMode : FSig := ⟨H_laws_eqMode.ps, H_laws_eqMode.cs, H_laws_eqMode.io, H_laws_eqMode.im, H_laws_eqMode.R, H_laws_eqMode.m, laws_eqMode⟩
theorem E_laws_eqMode : fnOf tys [(37, T_laws_eqIntS)] Tryd.f120 H_laws_eqMode = T_laws_eqMode := by kernel_rfl
theorem K_laws_eqMode : SigB base_ Tryd.prog 120 T_laws_eqMode := (congrArg (SigB base_ Tryd.prog 120) E_laws_eqMode).mp (fnOf_ok rfl tysOk ⟨K_laws_eqIntS, trivial⟩ Tryd.func120 (by decide) rfl (fun _ h => by cases h) (nilEq_of (by kernel_rfl)))
def laws_eqModeS_L0 : (Int × ((List D_Mode) × ((List D_Mode) × Unit))) → Option (Out (Int × ((List D_Mode) × ((List D_Mode) × Unit))) ((Bool × (Int × ((List D_Mode) × ((List D_Mode) × Unit)))) ⊕ Empty) (Bool × Unit)) :=
  (fun v0 => (if (ltZ v0.1 (lenI v0.2.1)) = true then (Option.bind (getI v0.2.1 v0.1) fun v1 => (Option.bind (getI v0.2.2.1 v0.1) fun v2 => (Option.bind ((Option.bind (laws_eqMode (v1, (v2, ())) ()) fun v3 => (some v3.1)) : (Option Bool)) fun v4 => (if (notB v4) = true then (some (Out.ret (false, ()))) else (some (Out.norm ((addZ .i64 v0.1 1), (v0.2.1, (v0.2.2.1, ()))))))))) else (some (Out.exit (Sum.inl ((ltZ v0.1 (lenI v0.2.1)), (v0.1, (v0.2.1, (v0.2.2.1, ())))))))))
def laws_eqModeS (x : ((List D_Mode) × ((List D_Mode) × Unit))) (c : Unit) : (Option (Bool × Unit)) :=
  (if (notB (eqZ (lenI x.1) (lenI x.2.1))) = true then (some (false, ())) else (Option.bind (loopN (A := (Int × ((List D_Mode) × ((List D_Mode) × Unit)))) big laws_eqModeS_L0 (0, (x.1, (x.2.1, ())))) fun v5 => (match v5 with | Out.norm v6 => none | Out.exit v7 => (match ((match v7 with | Sum.inl v10 => (Sum.inl ()) | Sum.inr v11 => (Empty.elim v11)) : (Unit ⊕ Empty)) with | Sum.inl v8 => (some (true, ())) | Sum.inr v9 => none) | Out.ret v12 => (some v12))))
def H_laws_eqModeS : Hd := ⟨[.sl 121 (.st [.int .i64, .sl 3 (.int .i64), .sl 3 (.int .i64)]), .sl 121 (.st [.int .i64, .sl 3 (.int .i64), .sl 3 (.int .i64)])], [], none, .p, .bool, .p, []⟩
def T_laws_eqModeS : FSig := ⟨H_laws_eqModeS.ps, H_laws_eqModeS.cs, H_laws_eqModeS.io, H_laws_eqModeS.im, H_laws_eqModeS.R, H_laws_eqModeS.m, laws_eqModeS⟩
theorem E_laws_eqModeS : fnOf tys [(120, T_laws_eqMode)] Tryd.f103 H_laws_eqModeS = T_laws_eqModeS := by kernel_rfl
theorem K_laws_eqModeS : SigB base_ Tryd.prog 103 T_laws_eqModeS := (congrArg (SigB base_ Tryd.prog 103) E_laws_eqModeS).mp (fnOf_ok rfl tysOk ⟨K_laws_eqMode, trivial⟩ Tryd.func103 (by decide) rfl (fun _ h => by cases h) (nilEq_of (by kernel_rfl)))
def laws_eqActivity (x : (D_Activity × (D_Activity × Unit))) (c : Unit) : (Option (Bool × Unit)) :=
  (if (notB (eqS x.1.1 x.2.1.1)) = true then (some (false, ())) else (if (notB (eqZ x.1.2.1 x.2.1.2.1)) = true then (some (false, ())) else (Option.bind ((Option.bind (laws_eqModeS (x.1.2.2.1, (x.2.1.2.2.1, ())) ()) fun v0 => (some v0.1)) : (Option Bool)) fun v1 => (if (notB v1) = true then (some (false, ())) else (some (true, ()))))))
def H_laws_eqActivity : Hd := ⟨[.st [.str, .int .i64, .sl 121 (.st [.int .i64, .sl 3 (.int .i64), .sl 3 (.int .i64)])], .st [.str, .int .i64, .sl 121 (.st [.int .i64, .sl 3 (.int .i64), .sl 3 (.int .i64)])]], [], none, .p, .bool, .p, []⟩
def T_laws_eqActivity : FSig := ⟨H_laws_eqActivity.ps, H_laws_eqActivity.cs, H_laws_eqActivity.io, H_laws_eqActivity.im, H_laws_eqActivity.R, H_laws_eqActivity.m, laws_eqActivity⟩
theorem E_laws_eqActivity : fnOf tys [(103, T_laws_eqModeS)] Tryd.f69 H_laws_eqActivity = T_laws_eqActivity := by kernel_rfl
theorem K_laws_eqActivity : SigB base_ Tryd.prog 69 T_laws_eqActivity := (congrArg (SigB base_ Tryd.prog 69) E_laws_eqActivity).mp (fnOf_ok rfl tysOk ⟨K_laws_eqModeS, trivial⟩ Tryd.func69 (by decide) rfl (fun _ h => by cases h) (nilEq_of (by kernel_rfl)))
def laws_eqActivityS_L0 : (Int × ((List D_Activity) × ((List D_Activity) × Unit))) → Option (Out (Int × ((List D_Activity) × ((List D_Activity) × Unit))) ((Bool × (Int × ((List D_Activity) × ((List D_Activity) × Unit)))) ⊕ Empty) (Bool × Unit)) :=
  (fun v0 => (if (ltZ v0.1 (lenI v0.2.1)) = true then (Option.bind (getI v0.2.1 v0.1) fun v1 => (Option.bind (getI v0.2.2.1 v0.1) fun v2 => (Option.bind ((Option.bind (laws_eqActivity (v1, (v2, ())) ()) fun v3 => (some v3.1)) : (Option Bool)) fun v4 => (if (notB v4) = true then (some (Out.ret (false, ()))) else (some (Out.norm ((addZ .i64 v0.1 1), (v0.2.1, (v0.2.2.1, ()))))))))) else (some (Out.exit (Sum.inl ((ltZ v0.1 (lenI v0.2.1)), (v0.1, (v0.2.1, (v0.2.2.1, ())))))))))
def laws_eqActivityS (x : ((List D_Activity) × ((List D_Activity) × Unit))) (c : Unit) : (Option (Bool × Unit)) :=
  (if (notB (eqZ (lenI x.1) (lenI x.2.1))) = true then (some (false, ())) else (Option.bind (loopN (A := (Int × ((List D_Activity) × ((List D_Activity) × Unit)))) big laws_eqActivityS_L0 (0, (x.1, (x.2.1, ())))) fun v5 => (match v5 with | Out.norm v6 => none | Out.exit v7 => (match ((match v7 with | Sum.inl v10 => (Sum.inl ()) | Sum.inr v11 => (Empty.elim v11)) : (Unit ⊕ Empty)) with | Sum.inl v8 => (some (true, ())) | Sum.inr v9 => none) | Out.ret v12 => (some v12))))
def H_laws_eqActivityS : Hd := ⟨[.sl 99 (.st [.str, .int .i64, .sl 121 (.st [.int .i64, .sl 3 (.int .i64), .sl 3 (.int .i64)])]), .sl 99 (.st [.str, .int .i64, .sl 121 (.st [.int .i64, .sl 3 (.int .i64), .sl 3 (.int .i64)])])], [], none, .p, .bool, .p, []⟩
def T_laws_eqActivityS : FSig := ⟨H_laws_eqActivityS.ps, H_laws_eqActivityS.cs, H_laws_eqActivityS.io, H_laws_eqActivityS.im, H_laws_eqActivityS.R, H_laws_eqActivityS.m, laws_eqActivityS⟩
theorem E_laws_eqActivityS : fnOf tys [(69, T_laws_eqActivity)] Tryd.f34 H_laws_eqActivityS = T_laws_eqActivityS := by kernel_rfl
theorem K_laws_eqActivityS : SigB base_ Tryd.prog 34 T_laws_eqActivityS := (congrArg (SigB base_ Tryd.prog 34) E_laws_eqActivityS).mp (fnOf_ok rfl tysOk ⟨K_laws_eqActivity, trivial⟩ Tryd.func34 (by decide) rfl (fun _ h => by cases h) (nilEq_of (by kernel_rfl)))
def laws_eqLink (x : (D_Link × (D_Link × Unit))) (c : Unit) : (Option (Bool × Unit)) :=
  (if (notB (eqZ x.1.1 x.2.1.1)) = true then (some (false, ())) else (if (notB (eqZ x.1.2.1 x.2.1.2.1)) = true then (some (false, ())) else (if (notB (eqB x.1.2.2.1 x.2.1.2.2.1)) = true then (some (false, ())) else (if (notB (eqZ x.1.2.2.2.1 x.2.1.2.2.2.1)) = true then (some (false, ())) else (some (true, ()))))))
def H_laws_eqLink : Hd := ⟨[.st [.int .i64, .int .i64, .bool, .int .i64], .st [.int .i64, .int .i64, .bool, .int .i64]], [], none, .p, .bool, .p, []⟩
def T_laws_eqLink : FSig := ⟨H_laws_eqLink.ps, H_laws_eqLink.cs, H_laws_eqLink.io, H_laws_eqLink.im, H_laws_eqLink.R, H_laws_eqLink.m, laws_eqLink⟩
theorem E_laws_eqLink : fnOf tys [] Tryd.f70 H_laws_eqLink = T_laws_eqLink := by kernel_rfl
theorem K_laws_eqLink : SigB base_ Tryd.prog 70 T_laws_eqLink := (congrArg (SigB base_ Tryd.prog 70) E_laws_eqLink).mp (fnOf_ok rfl tysOk trivial Tryd.func70 (by decide) rfl (fun _ h => by cases h) (nilEq_of (by kernel_rfl)))
def laws_eqLinkS_L0 : (Int × ((List D_Link) × ((List D_Link) × Unit))) → Option (Out (Int × ((List D_Link) × ((List D_Link) × Unit))) ((Bool × (Int × ((List D_Link) × ((List D_Link) × Unit)))) ⊕ Empty) (Bool × Unit)) :=
  (fun v0 => (if (ltZ v0.1 (lenI v0.2.1)) = true then (Option.bind (getI v0.2.1 v0.1) fun v1 => (Option.bind (getI v0.2.2.1 v0.1) fun v2 => (Option.bind ((Option.bind (laws_eqLink (v1, (v2, ())) ()) fun v3 => (some v3.1)) : (Option Bool)) fun v4 => (if (notB v4) = true then (some (Out.ret (false, ()))) else (some (Out.norm ((addZ .i64 v0.1 1), (v0.2.1, (v0.2.2.1, ()))))))))) else (some (Out.exit (Sum.inl ((ltZ v0.1 (lenI v0.2.1)), (v0.1, (v0.2.1, (v0.2.2.1, ())))))))))
def laws_eqLinkS (x : ((List D_Link) × ((List D_Link) × Unit))) (c : Unit) : (Option (Bool × Unit)) :=
  (if (notB (eqZ (lenI x.1) (lenI x.2.1))) = true then (some (false, ())) else (Option.bind (loopN (A := (Int × ((List D_Link) × ((List D_Link) × Unit)))) big laws_eqLinkS_L0 (0, (x.1, (x.2.1, ())))) fun v5 => (match v5 with | Out.norm v6 => none | Out.exit v7 => (match ((match v7 with | Sum.inl v10 => (Sum.inl ()) | Sum.inr v11 => (Empty.elim v11)) : (Unit ⊕ Empty)) with | Sum.inl v8 => (some (true, ())) | Sum.inr v9 => none) | Out.ret v12 => (some v12))))
def H_laws_eqLinkS : Hd := ⟨[.sl 38 (.st [.int .i64, .int .i64, .bool, .int .i64]), .sl 38 (.st [.int .i64, .int .i64, .bool, .int .i64])], [], none, .p, .bool, .p, []⟩
def T_laws_eqLinkS : FSig := ⟨H_laws_eqLinkS.ps, H_laws_eqLinkS.cs, H_laws_eqLinkS.io, H_laws_eqLinkS.im, H_laws_eqLinkS.R, H_laws_eqLinkS.m, laws_eqLinkS⟩
theorem E_laws_eqLinkS : fnOf tys [(70, T_laws_eqLink)] Tryd.f35 H_laws_eqLinkS = T_laws_eqLinkS := by kernel_rfl
theorem K_laws_eqLinkS : SigB base_ Tryd.prog 35 T_laws_eqLinkS := (congrArg (SigB base_ Tryd.prog 35) E_laws_eqLinkS).mp (fnOf_ok rfl tysOk ⟨K_laws_eqLink, trivial⟩ Tryd.func35 (by decide) rfl (fun _ h => by cases h) (nilEq_of (by kernel_rfl)))
def laws_eqStep (x : (D_Step × (D_Step × Unit))) (c : Unit) : (Option (Bool × Unit)) :=
  (if (notB (eqZ x.1.1 x.2.1.1)) = true then (some (false, ())) else (if (notB (eqZ x.1.2.1 x.2.1.2.1)) = true then (some (false, ())) else (some (true, ()))))
def H_laws_eqStep : Hd := ⟨[.st [.int .i64, .int .i64], .st [.int .i64, .int .i64]], [], none, .p, .bool, .p, []⟩
def T_laws_eqStep : FSig := ⟨H_laws_eqStep.ps, H_laws_eqStep.cs, H_laws_eqStep.io, H_laws_eqStep.im, H_laws_eqStep.R, H_laws_eqStep.m, laws_eqStep⟩
theorem E_laws_eqStep : fnOf tys [] Tryd.f121 H_laws_eqStep = T_laws_eqStep := by kernel_rfl
theorem K_laws_eqStep : SigB base_ Tryd.prog 121 T_laws_eqStep := (congrArg (SigB base_ Tryd.prog 121) E_laws_eqStep).mp (fnOf_ok rfl tysOk trivial Tryd.func121 (by decide) rfl (fun _ h => by cases h) (nilEq_of (by kernel_rfl)))
def laws_eqStepS_L0 : (Int × ((List D_Step) × ((List D_Step) × Unit))) → Option (Out (Int × ((List D_Step) × ((List D_Step) × Unit))) ((Bool × (Int × ((List D_Step) × ((List D_Step) × Unit)))) ⊕ Empty) (Bool × Unit)) :=
  (fun v0 => (if (ltZ v0.1 (lenI v0.2.1)) = true then (Option.bind (getI v0.2.1 v0.1) fun v1 => (Option.bind (getI v0.2.2.1 v0.1) fun v2 => (Option.bind ((Option.bind (laws_eqStep (v1, (v2, ())) ()) fun v3 => (some v3.1)) : (Option Bool)) fun v4 => (if (notB v4) = true then (some (Out.ret (false, ()))) else (some (Out.norm ((addZ .i64 v0.1 1), (v0.2.1, (v0.2.2.1, ()))))))))) else (some (Out.exit (Sum.inl ((ltZ v0.1 (lenI v0.2.1)), (v0.1, (v0.2.1, (v0.2.2.1, ())))))))))
def laws_eqStepS (x : ((List D_Step) × ((List D_Step) × Unit))) (c : Unit) : (Option (Bool × Unit)) :=
  (if (notB (eqZ (lenI x.1) (lenI x.2.1))) = true then (some (false, ())) else (Option.bind (loopN (A := (Int × ((List D_Step) × ((List D_Step) × Unit)))) big laws_eqStepS_L0 (0, (x.1, (x.2.1, ())))) fun v5 => (match v5 with | Out.norm v6 => none | Out.exit v7 => (match ((match v7 with | Sum.inl v10 => (Sum.inl ()) | Sum.inr v11 => (Empty.elim v11)) : (Unit ⊕ Empty)) with | Sum.inl v8 => (some (true, ())) | Sum.inr v9 => none) | Out.ret v12 => (some v12))))
def H_laws_eqStepS : Hd := ⟨[.sl 124 (.st [.int .i64, .int .i64]), .sl 124 (.st [.int .i64, .int .i64])], [], none, .p, .bool, .p, []⟩
def T_laws_eqStepS : FSig := ⟨H_laws_eqStepS.ps, H_laws_eqStepS.cs, H_laws_eqStepS.io, H_laws_eqStepS.im, H_laws_eqStepS.R, H_laws_eqStepS.m, laws_eqStepS⟩
theorem E_laws_eqStepS : fnOf tys [(121, T_laws_eqStep)] Tryd.f104 H_laws_eqStepS = T_laws_eqStepS := by kernel_rfl
theorem K_laws_eqStepS : SigB base_ Tryd.prog 104 T_laws_eqStepS := (congrArg (SigB base_ Tryd.prog 104) E_laws_eqStepS).mp (fnOf_ok rfl tysOk ⟨K_laws_eqStep, trivial⟩ Tryd.func104 (by decide) rfl (fun _ h => by cases h) (nilEq_of (by kernel_rfl)))
def laws_eqIntSS_L0 : (Int × ((List (List Int)) × ((List (List Int)) × Unit))) → Option (Out (Int × ((List (List Int)) × ((List (List Int)) × Unit))) ((Bool × (Int × ((List (List Int)) × ((List (List Int)) × Unit)))) ⊕ Empty) (Bool × Unit)) :=
  (fun v0 => (if (ltZ v0.1 (lenI v0.2.1)) = true then (Option.bind (getI v0.2.1 v0.1) fun v1 => (Option.bind (getI v0.2.2.1 v0.1) fun v2 => (Option.bind ((Option.bind (laws_eqIntS (v1, (v2, ())) ()) fun v3 => (some v3.1)) : (Option Bool)) fun v4 => (if (notB v4) = true then (some (Out.ret (false, ()))) else (some (Out.norm ((addZ .i64 v0.1 1), (v0.2.1, (v0.2.2.1, ()))))))))) else (some (Out.exit (Sum.inl ((ltZ v0.1 (lenI v0.2.1)), (v0.1, (v0.2.1, (v0.2.2.1, ())))))))))
def laws_eqIntSS (x : ((List (List Int)) × ((List (List Int)) × Unit))) (c : Unit) : (Option (Bool × Unit)) :=
  (if (notB (eqZ (lenI x.1) (lenI x.2.1))) = true then (some (false, ())) else (Option.bind (loopN (A := (Int × ((List (List Int)) × ((List (List Int)) × Unit)))) big laws_eqIntSS_L0 (0, (x.1, (x.2.1, ())))) fun v5 => (match v5 with | Out.norm v6 => none | Out.exit v7 => (match ((match v7 with | Sum.inl v10 => (Sum.inl ()) | Sum.inr v11 => (Empty.elim v11)) : (Unit ⊕ Empty)) with | Sum.inl v8 => (some (true, ())) | Sum.inr v9 => none) | Out.ret v12 => (some v12))))
def H_laws_eqIntSS : Hd := ⟨[.sl 25 (.sl 3 (.int .i64)), .sl 25 (.sl 3 (.int .i64))], [], none, .p, .bool, .p, []⟩
def T_laws_eqIntSS : FSig := ⟨H_laws_eqIntSS.ps, H_laws_eqIntSS.cs, H_laws_eqIntSS.io, H_laws_eqIntSS.im, H_laws_eqIntSS.R, H_laws_eqIntSS.m, laws_eqIntSS⟩
theorem E_laws_eqIntSS : fnOf tys [(37, T_laws_eqIntS)] Tryd.f105 H_laws_eqIntSS = T_laws_eqIntSS := by kernel_rfl
theorem K_laws_eqIntSS : SigB base_ Tryd.prog 105 T_laws_eqIntSS := (congrArg (SigB base_ Tryd.prog 105) E_laws_eqIntSS).mp (fnOf_ok rfl tysOk ⟨K_laws_eqIntS, trivial⟩ Tryd.func105 (by decide) rfl (fun _ h => by cases h) (nilEq_of (by kernel_rfl)))
def laws_eqResource (x : (D_Resource × (D_Resource × Unit))) (c : Unit) : (Option (Bool × Unit)) :=
  (Option.bind ((Option.bind (laws_eqStepS (x.1.1, (x.2.1.1, ())) ()) fun v0 => (some v0.1)) : (Option Bool)) fun v1 => (if (notB v1) = true then (some (false, ())) else (Option.bind ((Option.bind (laws_eqIntSS (x.1.2.1, (x.2.1.2.1, ())) ()) fun v2 => (some v2.1)) : (Option Bool)) fun v3 => (if (notB v3) = true then (some (false, ())) else (some (true, ()))))))
def H_laws_eqResource : Hd := ⟨[.st [.sl 124 (.st [.int .i64, .int .i64]), .sl 25 (.sl 3 (.int .i64))], .st [.sl 124 (.st [.int .i64, .int .i64]), .sl 25 (.sl 3 (.int .i64))]], [], none, .p, .bool, .p, []⟩
def T_laws_eqResource : FSig := ⟨H_laws_eqResource.ps, H_laws_eqResource.cs, H_laws_eqResource.io, H_laws_eqResource.im, H_laws_eqResource.R, H_laws_eqResource.m, laws_eqResource⟩
theorem E_laws_eqResource : fnOf tys [(104, T_laws_eqStepS), (105, T_laws_eqIntSS)] Tryd.f71 H_laws_eqResource = T_laws_eqResource := by kernel_rfl
theorem K_laws_eqResource : SigB base_ Tryd.prog 71 T_laws_eqResource := (congrArg (SigB base_ Tryd.prog 71) E_laws_eqResource).mp (fnOf_ok rfl tysOk ⟨K_laws_eqStepS, K_laws_eqIntSS, trivial⟩ Tryd.func71 (by decide) rfl (fun _ h => by cases h) (nilEq_of (by kernel_rfl)))
def laws_eqResourceS_L0 : (Int × ((List D_Resource) × ((List D_Resource) × Unit))) → Option (Out (Int × ((List D_Resource) × ((List D_Resource) × Unit))) ((Bool × (Int × ((List D_Resource) × ((List D_Resource) × Unit)))) ⊕ Empty) (Bool × Unit)) :=
  (fun v0 => (if (ltZ v0.1 (lenI v0.2.1)) = true then (Option.bind (getI v0.2.1 v0.1) fun v1 => (Option.bind (getI v0.2.2.1 v0.1) fun v2 => (Option.bind ((Option.bind (laws_eqResource (v1, (v2, ())) ()) fun v3 => (some v3.1)) : (Option Bool)) fun v4 => (if (notB v4) = true then (some (Out.ret (false, ()))) else (some (Out.norm ((addZ .i64 v0.1 1), (v0.2.1, (v0.2.2.1, ()))))))))) else (some (Out.exit (Sum.inl ((ltZ v0.1 (lenI v0.2.1)), (v0.1, (v0.2.1, (v0.2.2.1, ())))))))))
def laws_eqResourceS (x : ((List D_Resource) × ((List D_Resource) × Unit))) (c : Unit) : (Option (Bool × Unit)) :=
  (if (notB (eqZ (lenI x.1) (lenI x.2.1))) = true then (some (false, ())) else (Option.bind (loopN (A := (Int × ((List D_Resource) × ((List D_Resource) × Unit)))) big laws_eqResourceS_L0 (0, (x.1, (x.2.1, ())))) fun v5 => (match v5 with | Out.norm v6 => none | Out.exit v7 => (match ((match v7 with | Sum.inl v10 => (Sum.inl ()) | Sum.inr v11 => (Empty.elim v11)) : (Unit ⊕ Empty)) with | Sum.inl v8 => (some (true, ())) | Sum.inr v9 => none) | Out.ret v12 => (some v12))))
def H_laws_eqResourceS : Hd := ⟨[.sl 112 (.st [.sl 124 (.st [.int .i64, .int .i64]), .sl 25 (.sl 3 (.int .i64))]), .sl 112 (.st [.sl 124 (.st [.int .i64, .int .i64]), .sl 25 (.sl 3 (.int .i64))])], [], none, .p, .bool, .p, []⟩
def T_laws_eqResourceS : FSig := ⟨H_laws_eqResourceS.ps, H_laws_eqResourceS.cs, H_laws_eqResourceS.io, H_laws_eqResourceS.im, H_laws_eqResourceS.R, H_laws_eqResourceS.m, laws_eqResourceS⟩
theorem E_laws_eqResourceS : fnOf tys [(71, T_laws_eqResource)] Tryd.f36 H_laws_eqResourceS = T_laws_eqResourceS := by kernel_rfl
theorem K_laws_eqResourceS : SigB base_ Tryd.prog 36 T_laws_eqResourceS := (congrArg (SigB base_ Tryd.prog 36) E_laws_eqResourceS).mp (fnOf_ok rfl tysOk ⟨K_laws_eqResource, trivial⟩ Tryd.func36 (by decide) rfl (fun _ h => by cases h) (nilEq_of (by kernel_rfl)))
def laws_eqProject (x : (D_Project × (D_Project × Unit))) (c : Unit) : (Option (Bool × Unit)) :=
  (if (notB (eqZ x.1.1 x.2.1.1)) = true then (some (false, ())) else (Option.bind ((Option.bind (laws_eqActivityS (x.1.2.1, (x.2.1.2.1, ())) ()) fun v0 => (some v0.1)) : (Option Bool)) fun v1 => (if (notB v1) = true then (some (false, ())) else (Option.bind ((Option.bind (laws_eqLinkS (x.1.2.2.1, (x.2.1.2.2.1, ())) ()) fun v2 => (some v2.1)) : (Option Bool)) fun v3 => (if (notB v3) = true then (some (false, ())) else (Option.bind ((Option.bind (laws_eqResourceS (x.1.2.2.2.1, (x.2.1.2.2.2.1, ())) ()) fun v4 => (some v4.1)) : (Option Bool)) fun v5 => (if (notB v5) = true then (some (false, ())) else (Option.bind ((Option.bind (laws_eqIntS (x.1.2.2.2.2.1, (x.2.1.2.2.2.2.1, ())) ()) fun v6 => (some v6.1)) : (Option Bool)) fun v7 => (if (notB v7) = true then (some (false, ())) else (some (true, ())))))))))))
def H_laws_eqProject : Hd := ⟨[.st [.int .i64, .sl 99 (.st [.str, .int .i64, .sl 121 (.st [.int .i64, .sl 3 (.int .i64), .sl 3 (.int .i64)])]), .sl 38 (.st [.int .i64, .int .i64, .bool, .int .i64]), .sl 112 (.st [.sl 124 (.st [.int .i64, .int .i64]), .sl 25 (.sl 3 (.int .i64))]), .sl 3 (.int .i64)], .st [.int .i64, .sl 99 (.st [.str, .int .i64, .sl 121 (.st [.int .i64, .sl 3 (.int .i64), .sl 3 (.int .i64)])]), .sl 38 (.st [.int .i64, .int .i64, .bool, .int .i64]), .sl 112 (.st [.sl 124 (.st [.int .i64, .int .i64]), .sl 25 (.sl 3 (.int .i64))]), .sl 3 (.int .i64)]], [], none, .p, .bool, .p, []⟩
def T_laws_eqProject : FSig := ⟨H_laws_eqProject.ps, H_laws_eqProject.cs, H_laws_eqProject.io, H_laws_eqProject.im, H_laws_eqProject.R, H_laws_eqProject.m, laws_eqProject⟩
theorem E_laws_eqProject : fnOf tys [(34, T_laws_eqActivityS), (35, T_laws_eqLinkS), (36, T_laws_eqResourceS), (37, T_laws_eqIntS)] Tryd.f11 H_laws_eqProject = T_laws_eqProject := by kernel_rfl
theorem K_laws_eqProject : SigB base_ Tryd.prog 11 T_laws_eqProject := (congrArg (SigB base_ Tryd.prog 11) E_laws_eqProject).mp (fnOf_ok rfl tysOk ⟨K_laws_eqActivityS, K_laws_eqLinkS, K_laws_eqResourceS, K_laws_eqIntS, trivial⟩ Tryd.func11 (by decide) rfl (fun _ h => by cases h) (nilEq_of (by kernel_rfl)))
def laws_szDomain (x : (D_Domain × (Int × Unit))) (c : Unit) : (Option (Int × Unit)) :=
  (Option.bind ((Option.bind (laws_szIntS (x.1.1, (x.2.1, ())) ()) fun v0 => (some v0.1)) : (Option Int)) fun v1 => (if (ltZ v1 0) = true then (some ((-1), ())) else (Option.bind ((Option.bind (laws_szIntS (x.1.2.1, (v1, ())) ()) fun v2 => (some v2.1)) : (Option Int)) fun v3 => (if (ltZ v3 0) = true then (some ((-1), ())) else (Option.bind ((Option.bind (laws_szIntSS (x.1.2.2.1, (v3, ())) ()) fun v4 => (some v4.1)) : (Option Int)) fun v5 => (if (ltZ v5 0) = true then (some ((-1), ())) else (some (v5, ()))))))))
def H_laws_szDomain : Hd := ⟨[.st [.sl 3 (.int .i64), .sl 3 (.int .i64), .sl 25 (.sl 3 (.int .i64))], .int .i64], [], none, .p, .int .i64, .p, []⟩
def T_laws_szDomain : FSig := ⟨H_laws_szDomain.ps, H_laws_szDomain.cs, H_laws_szDomain.io, H_laws_szDomain.im, H_laws_szDomain.R, H_laws_szDomain.m, laws_szDomain⟩
theorem E_laws_szDomain : fnOf tys [(23, T_laws_szIntS), (90, T_laws_szIntSS)] Tryd.f72 H_laws_szDomain = T_laws_szDomain := by kernel_rfl
theorem K_laws_szDomain : SigB base_ Tryd.prog 72 T_laws_szDomain := (congrArg (SigB base_ Tryd.prog 72) E_laws_szDomain).mp (fnOf_ok rfl tysOk ⟨K_laws_szIntS, K_laws_szIntSS, trivial⟩ Tryd.func72 (by decide) rfl (fun _ h => by cases h) (nilEq_of (by kernel_rfl)))
def laws_szLiteralS (x : ((List D_Literal) × (Int × Unit))) (c : Unit) : (Option (Int × Unit)) :=
  (if (ltZ (subZ .i64 x.2.1 (lenI x.1)) 0) = true then (some ((-1), ())) else (some ((subZ .i64 x.2.1 (lenI x.1)), ())))
def H_laws_szLiteralS : Hd := ⟨[.sl 173 (.st [.int .i64, .int .i64, .int .i64]), .int .i64], [], none, .p, .int .i64, .p, []⟩
def T_laws_szLiteralS : FSig := ⟨H_laws_szLiteralS.ps, H_laws_szLiteralS.cs, H_laws_szLiteralS.io, H_laws_szLiteralS.im, H_laws_szLiteralS.R, H_laws_szLiteralS.m, laws_szLiteralS⟩
theorem E_laws_szLiteralS : fnOf tys [] Tryd.f73 H_laws_szLiteralS = T_laws_szLiteralS := by kernel_rfl
theorem K_laws_szLiteralS : SigB base_ Tryd.prog 73 T_laws_szLiteralS := (congrArg (SigB base_ Tryd.prog 73) E_laws_szLiteralS).mp (fnOf_ok rfl tysOk trivial Tryd.func73 (by decide) rfl (fun _ h => by cases h) (nilEq_of (by kernel_rfl)))
def laws_szLine (x : (D_Line × (Int × Unit))) (c : Unit) : (Option (Int × Unit)) :=
  (Option.bind ((Option.bind (laws_szLiteralS (x.1.2.2.1, (x.2.1, ())) ()) fun v0 => (some v0.1)) : (Option Int)) fun v1 => (if (ltZ v1 0) = true then (some ((-1), ())) else (some (v1, ()))))
def H_laws_szLine : Hd := ⟨[.st [.int .i64, .st [.int .i64, .int .i64, .int .i64, .int .i64], .sl 173 (.st [.int .i64, .int .i64, .int .i64])], .int .i64], [], none, .p, .int .i64, .p, []⟩
def T_laws_szLine : FSig := ⟨H_laws_szLine.ps, H_laws_szLine.cs, H_laws_szLine.io, H_laws_szLine.im, H_laws_szLine.R, H_laws_szLine.m, laws_szLine⟩
theorem E_laws_szLine : fnOf tys [(73, T_laws_szLiteralS)] Tryd.f106 H_laws_szLine = T_laws_szLine := by kernel_rfl
theorem K_laws_szLine : SigB base_ Tryd.prog 106 T_laws_szLine := (congrArg (SigB base_ Tryd.prog 106) E_laws_szLine).mp (fnOf_ok rfl tysOk ⟨K_laws_szLiteralS, trivial⟩ Tryd.func106 (by decide) rfl (fun _ h => by cases h) (nilEq_of (by kernel_rfl)))
def laws_szLineS_L0 : (Int × ((List D_Line) × (Int × Unit))) → Option (Out (Int × ((List D_Line) × (Int × Unit))) ((Bool × (Int × ((List D_Line) × (Int × Unit)))) ⊕ Empty) (Int × Unit)) :=
  (fun v0 => (if (ltZ v0.1 (lenI v0.2.1)) = true then (Option.bind (getI v0.2.1 v0.1) fun v1 => (Option.bind ((Option.bind (laws_szLine (v1, (v0.2.2.1, ())) ()) fun v2 => (some v2.1)) : (Option Int)) fun v3 => (if (ltZ v3 0) = true then (some (Out.ret ((-1), ()))) else (some (Out.norm ((addZ .i64 v0.1 1), (v0.2.1, (v3, ())))))))) else (some (Out.exit (Sum.inl ((ltZ v0.1 (lenI v0.2.1)), (v0.1, (v0.2.1, (v0.2.2.1, ())))))))))
def laws_szLineS (x : ((List D_Line) × (Int × Unit))) (c : Unit) : (Option (Int × Unit)) :=
  (if (ltZ (subZ .i64 x.2.1 (lenI x.1)) 0) = true then (some ((-1), ())) else (Option.bind (loopN (A := (Int × ((List D_Line) × (Int × Unit)))) big laws_szLineS_L0 (0, (x.1, ((subZ .i64 x.2.1 (lenI x.1)), ())))) fun v4 => (match v4 with | Out.norm v5 => none | Out.exit v6 => (match ((match v6 with | Sum.inl v9 => (Sum.inl (v9.2.2.2.1, ())) | Sum.inr v10 => (Empty.elim v10)) : ((Int × Unit) ⊕ Empty)) with | Sum.inl v7 => (some (v7.1, ())) | Sum.inr v8 => none) | Out.ret v11 => (some v11))))
def H_laws_szLineS : Hd := ⟨[.sl 169 (.st [.int .i64, .st [.int .i64, .int .i64, .int .i64, .int .i64], .sl 173 (.st [.int .i64, .int .i64, .int .i64])]), .int .i64], [], none, .p, .int .i64, .p, []⟩
def T_laws_szLineS : FSig := ⟨H_laws_szLineS.ps, H_laws_szLineS.cs, H_laws_szLineS.io, H_laws_szLineS.im, H_laws_szLineS.R, H_laws_szLineS.m, laws_szLineS⟩
theorem E_laws_szLineS : fnOf tys [(106, T_laws_szLine)] Tryd.f74 H_laws_szLineS = T_laws_szLineS := by kernel_rfl
theorem K_laws_szLineS : SigB base_ Tryd.prog 74 T_laws_szLineS := (congrArg (SigB base_ Tryd.prog 74) E_laws_szLineS).mp (fnOf_ok rfl tysOk ⟨K_laws_szLine, trivial⟩ Tryd.func74 (by decide) rfl (fun _ h => by cases h) (nilEq_of (by kernel_rfl)))
def laws_szLog (x : (D_Log × (Int × Unit))) (c : Unit) : (Option (Int × Unit)) :=
  (Option.bind ((Option.bind (laws_szProject (x.1.1, (x.2.1, ())) ()) fun v0 => (some v0.1)) : (Option Int)) fun v1 => (if (ltZ v1 0) = true then (some ((-1), ())) else (Option.bind ((Option.bind (laws_szDomain (x.1.2.1, (v1, ())) ()) fun v2 => (some v2.1)) : (Option Int)) fun v3 => (if (ltZ v3 0) = true then (some ((-1), ())) else (Option.bind ((Option.bind (laws_szLiteralS (x.1.2.2.1, (v3, ())) ()) fun v4 => (some v4.1)) : (Option Int)) fun v5 => (if (ltZ v5 0) = true then (some ((-1), ())) else (Option.bind ((Option.bind (laws_szLineS (x.1.2.2.2.1, (v5, ())) ()) fun v6 => (some v6.1)) : (Option Int)) fun v7 => (if (ltZ v7 0) = true then (some ((-1), ())) else (some (v7, ()))))))))))
def H_laws_szLog : Hd := ⟨[.st [.st [.int .i64, .sl 104 (.st [.str, .int .i64, .sl 182 (.st [.int .i64, .sl 3 (.int .i64), .sl 3 (.int .i64)])]), .sl 29 (.st [.int .i64, .int .i64, .bool, .int .i64]), .sl 108 (.st [.sl 186 (.st [.int .i64, .int .i64]), .sl 25 (.sl 3 (.int .i64))]), .sl 3 (.int .i64)], .st [.sl 3 (.int .i64), .sl 3 (.int .i64), .sl 25 (.sl 3 (.int .i64))], .sl 173 (.st [.int .i64, .int .i64, .int .i64]), .sl 169 (.st [.int .i64, .st [.int .i64, .int .i64, .int .i64, .int .i64], .sl 173 (.st [.int .i64, .int .i64, .int .i64])])], .int .i64], [], none, .p, .int .i64, .p, []⟩
def T_laws_szLog : FSig := ⟨H_laws_szLog.ps, H_laws_szLog.cs, H_laws_szLog.io, H_laws_szLog.im, H_laws_szLog.R, H_laws_szLog.m, laws_szLog⟩
theorem E_laws_szLog : fnOf tys [(6, T_laws_szProject), (72, T_laws_szDomain), (73, T_laws_szLiteralS), (74, T_laws_szLineS)] Tryd.f38 H_laws_szLog = T_laws_szLog := by kernel_rfl
theorem K_laws_szLog : SigB base_ Tryd.prog 38 T_laws_szLog := (congrArg (SigB base_ Tryd.prog 38) E_laws_szLog).mp (fnOf_ok rfl tysOk ⟨K_laws_szProject, K_laws_szDomain, K_laws_szLiteralS, K_laws_szLineS, trivial⟩ Tryd.func38 (by decide) rfl (fun _ h => by cases h) (nilEq_of (by kernel_rfl)))
def laws_szSchedule (x : (D_Schedule × (Int × Unit))) (c : Unit) : (Option (Int × Unit)) :=
  (Option.bind ((Option.bind (laws_szIntS (x.1.1, (x.2.1, ())) ()) fun v0 => (some v0.1)) : (Option Int)) fun v1 => (if (ltZ v1 0) = true then (some ((-1), ())) else (Option.bind ((Option.bind (laws_szIntS (x.1.2.1, (v1, ())) ()) fun v2 => (some v2.1)) : (Option Int)) fun v3 => (if (ltZ v3 0) = true then (some ((-1), ())) else (some (v3, ()))))))
def H_laws_szSchedule : Hd := ⟨[.st [.sl 3 (.int .i64), .sl 3 (.int .i64)], .int .i64], [], none, .p, .int .i64, .p, []⟩
def T_laws_szSchedule : FSig := ⟨H_laws_szSchedule.ps, H_laws_szSchedule.cs, H_laws_szSchedule.io, H_laws_szSchedule.im, H_laws_szSchedule.R, H_laws_szSchedule.m, laws_szSchedule⟩
theorem E_laws_szSchedule : fnOf tys [(23, T_laws_szIntS)] Tryd.f39 H_laws_szSchedule = T_laws_szSchedule := by kernel_rfl
theorem K_laws_szSchedule : SigB base_ Tryd.prog 39 T_laws_szSchedule := (congrArg (SigB base_ Tryd.prog 39) E_laws_szSchedule).mp (fnOf_ok rfl tysOk ⟨K_laws_szIntS, trivial⟩ Tryd.func39 (by decide) rfl (fun _ h => by cases h) (nilEq_of (by kernel_rfl)))
def laws_szSearchResult (x : (D_SearchResult × (Int × Unit))) (c : Unit) : (Option (Int × Unit)) :=
  (Option.bind ((Option.bind (laws_szLog (x.1.1, (x.2.1, ())) ()) fun v0 => (some v0.1)) : (Option Int)) fun v1 => (if (ltZ v1 0) = true then (some ((-1), ())) else (Option.bind ((Option.bind (laws_szSchedule (x.1.2.1, (v1, ())) ()) fun v2 => (some v2.1)) : (Option Int)) fun v3 => (if (ltZ v3 0) = true then (some ((-1), ())) else (some (v3, ()))))))
def H_laws_szSearchResult : Hd := ⟨[.st [.st [.st [.int .i64, .sl 104 (.st [.str, .int .i64, .sl 182 (.st [.int .i64, .sl 3 (.int .i64), .sl 3 (.int .i64)])]), .sl 29 (.st [.int .i64, .int .i64, .bool, .int .i64]), .sl 108 (.st [.sl 186 (.st [.int .i64, .int .i64]), .sl 25 (.sl 3 (.int .i64))]), .sl 3 (.int .i64)], .st [.sl 3 (.int .i64), .sl 3 (.int .i64), .sl 25 (.sl 3 (.int .i64))], .sl 173 (.st [.int .i64, .int .i64, .int .i64]), .sl 169 (.st [.int .i64, .st [.int .i64, .int .i64, .int .i64, .int .i64], .sl 173 (.st [.int .i64, .int .i64, .int .i64])])], .st [.sl 3 (.int .i64), .sl 3 (.int .i64)], .bool, .int .i64, .bool], .int .i64], [], none, .p, .int .i64, .p, []⟩
def T_laws_szSearchResult : FSig := ⟨H_laws_szSearchResult.ps, H_laws_szSearchResult.cs, H_laws_szSearchResult.io, H_laws_szSearchResult.im, H_laws_szSearchResult.R, H_laws_szSearchResult.m, laws_szSearchResult⟩
theorem E_laws_szSearchResult : fnOf tys [(38, T_laws_szLog), (39, T_laws_szSchedule)] Tryd.f12 H_laws_szSearchResult = T_laws_szSearchResult := by kernel_rfl
theorem K_laws_szSearchResult : SigB base_ Tryd.prog 12 T_laws_szSearchResult := (congrArg (SigB base_ Tryd.prog 12) E_laws_szSearchResult).mp (fnOf_ok rfl tysOk ⟨K_laws_szLog, K_laws_szSchedule, trivial⟩ Tryd.func12 (by decide) rfl (fun _ h => by cases h) (nilEq_of (by kernel_rfl)))
def spec_FormatSearch (x : (D_SearchResult × Unit)) (c : Unit) : (Option ((List UInt8) × Unit)) :=
  (Option.bind ((if x.1.2.2.1 = true then (some (Out.norm (([102, 111, 117, 110, 100, 32] : List UInt8), (x.1, ())))) else (some (Out.norm (([110, 111, 110, 101, 32] : List UInt8), (x.1, ()))))) : (Option (Out ((List UInt8) × (D_SearchResult × Unit)) Empty ((List UInt8) × Unit)))) fun v0 => (match ((match v0 with | Out.norm v14 => (Out.norm v14) | Out.exit v15 => (Out.exit v15) | Out.ret v16 => (Out.ret v16)) : (Out ((List UInt8) × (D_SearchResult × Unit)) Empty ((List UInt8) × Unit))) with | Out.norm v1 => (Option.bind ((if v1.2.1.2.2.2.2.1 = true then (some (Out.norm (([115, 116, 111, 112, 112, 101, 100, 32] : List UInt8), (v1.2.1, ())))) else (some (Out.norm (v1.1, (v1.2.1, ()))))) : (Option (Out ((List UInt8) × (D_SearchResult × Unit)) Empty ((List UInt8) × Unit)))) fun v2 => (match ((match v2 with | Out.norm v9 => (Out.norm v9) | Out.exit v10 => (Out.exit v10) | Out.ret v11 => (Out.ret v11)) : (Out ((List UInt8) × (D_SearchResult × Unit)) Empty ((List UInt8) × Unit))) with | Out.norm v3 => (Option.bind ((Option.bind (spec_FormatInt (v3.2.1.2.2.2.1, ()) ()) fun v4 => (some v4.1)) : (Option (List UInt8))) fun v5 => (Option.bind (addI v3.1 v5) fun v6 => (some (v6, ())))) | Out.exit v7 => none | Out.ret v8 => (some v8))) | Out.exit v12 => none | Out.ret v13 => (some v13)))
def H_spec_FormatSearch : Hd := ⟨[.st [.st [.st [.int .i64, .sl 99 (.st [.str, .int .i64, .sl 121 (.st [.int .i64, .sl 3 (.int .i64), .sl 3 (.int .i64)])]), .sl 38 (.st [.int .i64, .int .i64, .bool, .int .i64]), .sl 112 (.st [.sl 124 (.st [.int .i64, .int .i64]), .sl 25 (.sl 3 (.int .i64))]), .sl 3 (.int .i64)], .st [.sl 3 (.int .i64), .sl 3 (.int .i64), .sl 25 (.sl 3 (.int .i64))], .sl 171 (.st [.int .i64, .int .i64, .int .i64]), .sl 176 (.st [.int .i64, .st [.int .i64, .int .i64, .int .i64, .int .i64], .sl 171 (.st [.int .i64, .int .i64, .int .i64])])], .st [.sl 3 (.int .i64), .sl 3 (.int .i64)], .bool, .int .i64, .bool]], [], none, .p, .str, .p, []⟩
def T_spec_FormatSearch : FSig := ⟨H_spec_FormatSearch.ps, H_spec_FormatSearch.cs, H_spec_FormatSearch.io, H_spec_FormatSearch.im, H_spec_FormatSearch.R, H_spec_FormatSearch.m, spec_FormatSearch⟩
theorem E_spec_FormatSearch : fnOf tys [(40, T_spec_FormatInt)] Tryd.f13 H_spec_FormatSearch = T_spec_FormatSearch := by kernel_rfl
theorem K_spec_FormatSearch : SigB base_ Tryd.prog 13 T_spec_FormatSearch := (congrArg (SigB base_ Tryd.prog 13) E_spec_FormatSearch).mp (fnOf_ok rfl tysOk ⟨K_spec_FormatInt, trivial⟩ Tryd.func13 (by decide) rfl (fun _ h => by cases h) (nilEq_of (by kernel_rfl)))
def laws_toDomain (x : (D_Domain × Unit)) (c : Unit) : (Option (D_Domain × Unit)) :=
  (Option.bind ((Option.bind (laws_toIntS (x.1.1, ()) ()) fun v0 => (some v0.1)) : (Option (List Int))) fun v1 => (Option.bind ((Option.bind (laws_toIntS (x.1.2.1, ()) ()) fun v2 => (some v2.1)) : (Option (List Int))) fun v3 => (Option.bind ((Option.bind (laws_toIntSS (x.1.2.2.1, ()) ()) fun v4 => (some v4.1)) : (Option (List (List Int)))) fun v5 => (some ((v1, (v3, (v5, ()))), ())))))
def H_laws_toDomain : Hd := ⟨[.st [.sl 3 (.int .i64), .sl 3 (.int .i64), .sl 25 (.sl 3 (.int .i64))]], [], none, .p, .st [.sl 3 (.int .i64), .sl 3 (.int .i64), .sl 25 (.sl 3 (.int .i64))], (Ty.all (.st [.sl 3 (.int .i64), .sl 3 (.int .i64), .sl 25 (.sl 3 (.int .i64))])), []⟩
def T_laws_toDomain : FSig := ⟨H_laws_toDomain.ps, H_laws_toDomain.cs, H_laws_toDomain.io, H_laws_toDomain.im, H_laws_toDomain.R, H_laws_toDomain.m, laws_toDomain⟩
theorem E_laws_toDomain : fnOf tys [(30, T_laws_toIntS), (96, T_laws_toIntSS)] Tryd.f75 H_laws_toDomain = T_laws_toDomain := by kernel_rfl
theorem K_laws_toDomain : SigB base_ Tryd.prog 75 T_laws_toDomain := (congrArg (SigB base_ Tryd.prog 75) E_laws_toDomain).mp (fnOf_ok rfl tysOk ⟨K_laws_toIntS, K_laws_toIntSS, trivial⟩ Tryd.func75 (by decide) rfl (fun _ h => by cases h) (nilEq_of (by kernel_rfl)))
def laws_toLiteral (x : (D_Literal × Unit)) (c : Unit) : (Option (D_Literal × Unit)) :=
  (some ((x.1.1, (x.1.2.1, (x.1.2.2.1, ()))), ()))
def H_laws_toLiteral : Hd := ⟨[.st [.int .i64, .int .i64, .int .i64]], [], none, .p, .st [.int .i64, .int .i64, .int .i64], .p, []⟩
def T_laws_toLiteral : FSig := ⟨H_laws_toLiteral.ps, H_laws_toLiteral.cs, H_laws_toLiteral.io, H_laws_toLiteral.im, H_laws_toLiteral.R, H_laws_toLiteral.m, laws_toLiteral⟩
theorem E_laws_toLiteral : fnOf tys [] Tryd.f107 H_laws_toLiteral = T_laws_toLiteral := by kernel_rfl
theorem K_laws_toLiteral : SigB base_ Tryd.prog 107 T_laws_toLiteral := (congrArg (SigB base_ Tryd.prog 107) E_laws_toLiteral).mp (fnOf_ok rfl tysOk trivial Tryd.func107 (by decide) rfl (fun _ h => by cases h) (nilEq_of (by kernel_rfl)))
def laws_toLiteralS_L0 : (Int × ((List D_Literal) × ((List D_Literal) × Unit))) → Option (Out (Int × ((List D_Literal) × ((List D_Literal) × Unit))) ((Bool × (Int × ((List D_Literal) × ((List D_Literal) × Unit)))) ⊕ Empty) ((List D_Literal) × Unit)) :=
  (fun v1 => (if (ltZ v1.1 (lenI v1.2.1)) = true then (Option.bind (getI v1.2.1 v1.1) fun v2 => (Option.bind ((Option.bind (laws_toLiteral (v2, ()) ()) fun v3 => (some v3.1)) : (Option D_Literal)) fun v4 => (Option.bind ((Option.bind (getI v1.2.2.1 v1.1) fun v5 => (some ())) : (Option Unit)) fun v6 => (Option.bind ((Option.bind ((Option.bind (getI v1.2.2.1 v1.1) fun v7 => (some v7)) : (Option D_Literal)) fun v8 => (some v4)) : (Option D_Literal)) fun v9 => (some (Out.norm ((addZ .i64 v1.1 1), (v1.2.1, ((setI v1.2.2.1 v1.1 (fun v10 => v9)), ()))))))))) else (some (Out.exit (Sum.inl ((ltZ v1.1 (lenI v1.2.1)), (v1.1, (v1.2.1, (v1.2.2.1, ())))))))))
def laws_toLiteralS (x : ((List D_Literal) × Unit)) (c : Unit) : (Option ((List D_Literal) × Unit)) :=
  (Option.bind ((if (eqZ (lenI x.1) (lenI x.1)) = true then (zerosI (lenI x.1) (0, (0, (0, ())))) else none) : (Option (List D_Literal))) fun v0 => (Option.bind (loopN (A := (Int × ((List D_Literal) × ((List D_Literal) × Unit)))) big laws_toLiteralS_L0 (0, (x.1, (v0, ())))) fun v11 => (match v11 with | Out.norm v12 => none | Out.exit v13 => (match ((match v13 with | Sum.inl v16 => (Sum.inl (v16.2.2.2.1, ())) | Sum.inr v17 => (Empty.elim v17)) : (((List D_Literal) × Unit) ⊕ Empty)) with | Sum.inl v14 => (some (v14.1, ())) | Sum.inr v15 => none) | Out.ret v18 => (some v18))))
def H_laws_toLiteralS : Hd := ⟨[.sl 173 (.st [.int .i64, .int .i64, .int .i64])], [], none, .p, .sl 171 (.st [.int .i64, .int .i64, .int .i64]), (Ty.all (.sl 171 (.st [.int .i64, .int .i64, .int .i64]))), []⟩
def T_laws_toLiteralS : FSig := ⟨H_laws_toLiteralS.ps, H_laws_toLiteralS.cs, H_laws_toLiteralS.io, H_laws_toLiteralS.im, H_laws_toLiteralS.R, H_laws_toLiteralS.m, laws_toLiteralS⟩
theorem E_laws_toLiteralS : fnOf tys [(107, T_laws_toLiteral)] Tryd.f76 H_laws_toLiteralS = T_laws_toLiteralS := by kernel_rfl
theorem K_laws_toLiteralS : SigB base_ Tryd.prog 76 T_laws_toLiteralS := (congrArg (SigB base_ Tryd.prog 76) E_laws_toLiteralS).mp (fnOf_ok rfl tysOk ⟨K_laws_toLiteral, trivial⟩ Tryd.func76 (by decide) rfl (fun _ h => by cases h) (nilEq_of (by kernel_rfl)))
def laws_toRule (x : (D_Rule × Unit)) (c : Unit) : (Option (D_Rule × Unit)) :=
  (some ((x.1.1, (x.1.2.1, (x.1.2.2.1, (x.1.2.2.2.1, ())))), ()))
def H_laws_toRule : Hd := ⟨[.st [.int .i64, .int .i64, .int .i64, .int .i64]], [], none, .p, .st [.int .i64, .int .i64, .int .i64, .int .i64], .p, []⟩
def T_laws_toRule : FSig := ⟨H_laws_toRule.ps, H_laws_toRule.cs, H_laws_toRule.io, H_laws_toRule.im, H_laws_toRule.R, H_laws_toRule.m, laws_toRule⟩
theorem E_laws_toRule : fnOf tys [] Tryd.f122 H_laws_toRule = T_laws_toRule := by kernel_rfl
theorem K_laws_toRule : SigB base_ Tryd.prog 122 T_laws_toRule := (congrArg (SigB base_ Tryd.prog 122) E_laws_toRule).mp (fnOf_ok rfl tysOk trivial Tryd.func122 (by decide) rfl (fun _ h => by cases h) (nilEq_of (by kernel_rfl)))
def laws_toLine (x : (D_Line × Unit)) (c : Unit) : (Option (D_Line × Unit)) :=
  (Option.bind ((Option.bind (laws_toRule (x.1.2.1, ()) ()) fun v0 => (some v0.1)) : (Option D_Rule)) fun v1 => (Option.bind ((Option.bind (laws_toLiteralS (x.1.2.2.1, ()) ()) fun v2 => (some v2.1)) : (Option (List D_Literal))) fun v3 => (some ((x.1.1, (v1, (v3, ()))), ()))))
def H_laws_toLine : Hd := ⟨[.st [.int .i64, .st [.int .i64, .int .i64, .int .i64, .int .i64], .sl 173 (.st [.int .i64, .int .i64, .int .i64])]], [], none, .p, .st [.int .i64, .st [.int .i64, .int .i64, .int .i64, .int .i64], .sl 171 (.st [.int .i64, .int .i64, .int .i64])], (Ty.all (.st [.int .i64, .st [.int .i64, .int .i64, .int .i64, .int .i64], .sl 171 (.st [.int .i64, .int .i64, .int .i64])])), []⟩
def T_laws_toLine : FSig := ⟨H_laws_toLine.ps, H_laws_toLine.cs, H_laws_toLine.io, H_laws_toLine.im, H_laws_toLine.R, H_laws_toLine.m, laws_toLine⟩
theorem E_laws_toLine : fnOf tys [(76, T_laws_toLiteralS), (122, T_laws_toRule)] Tryd.f108 H_laws_toLine = T_laws_toLine := by kernel_rfl
theorem K_laws_toLine : SigB base_ Tryd.prog 108 T_laws_toLine := (congrArg (SigB base_ Tryd.prog 108) E_laws_toLine).mp (fnOf_ok rfl tysOk ⟨K_laws_toLiteralS, K_laws_toRule, trivial⟩ Tryd.func108 (by decide) rfl (fun _ h => by cases h) (nilEq_of (by kernel_rfl)))
def laws_toLineS_L0 : (Int × ((List D_Line) × ((List D_Line) × Unit))) → Option (Out (Int × ((List D_Line) × ((List D_Line) × Unit))) ((Bool × (Int × ((List D_Line) × ((List D_Line) × Unit)))) ⊕ Empty) ((List D_Line) × Unit)) :=
  (fun v1 => (if (ltZ v1.1 (lenI v1.2.1)) = true then (Option.bind (getI v1.2.1 v1.1) fun v2 => (Option.bind ((Option.bind (laws_toLine (v2, ()) ()) fun v3 => (some v3.1)) : (Option D_Line)) fun v4 => (Option.bind ((Option.bind (getI v1.2.2.1 v1.1) fun v5 => (some ())) : (Option Unit)) fun v6 => (Option.bind ((Option.bind ((Option.bind (getI v1.2.2.1 v1.1) fun v7 => (some v7)) : (Option D_Line)) fun v8 => (some v4)) : (Option D_Line)) fun v9 => (some (Out.norm ((addZ .i64 v1.1 1), (v1.2.1, ((setI v1.2.2.1 v1.1 (fun v10 => v9)), ()))))))))) else (some (Out.exit (Sum.inl ((ltZ v1.1 (lenI v1.2.1)), (v1.1, (v1.2.1, (v1.2.2.1, ())))))))))
def laws_toLineS (x : ((List D_Line) × Unit)) (c : Unit) : (Option ((List D_Line) × Unit)) :=
  (Option.bind ((if (eqZ (lenI x.1) (lenI x.1)) = true then (zerosI (lenI x.1) (0, ((0, (0, (0, (0, ())))), ([], ())))) else none) : (Option (List D_Line))) fun v0 => (Option.bind (loopN (A := (Int × ((List D_Line) × ((List D_Line) × Unit)))) big laws_toLineS_L0 (0, (x.1, (v0, ())))) fun v11 => (match v11 with | Out.norm v12 => none | Out.exit v13 => (match ((match v13 with | Sum.inl v16 => (Sum.inl (v16.2.2.2.1, ())) | Sum.inr v17 => (Empty.elim v17)) : (((List D_Line) × Unit) ⊕ Empty)) with | Sum.inl v14 => (some (v14.1, ())) | Sum.inr v15 => none) | Out.ret v18 => (some v18))))
def H_laws_toLineS : Hd := ⟨[.sl 169 (.st [.int .i64, .st [.int .i64, .int .i64, .int .i64, .int .i64], .sl 173 (.st [.int .i64, .int .i64, .int .i64])])], [], none, .p, .sl 176 (.st [.int .i64, .st [.int .i64, .int .i64, .int .i64, .int .i64], .sl 171 (.st [.int .i64, .int .i64, .int .i64])]), (Ty.all (.sl 176 (.st [.int .i64, .st [.int .i64, .int .i64, .int .i64, .int .i64], .sl 171 (.st [.int .i64, .int .i64, .int .i64])]))), []⟩
def T_laws_toLineS : FSig := ⟨H_laws_toLineS.ps, H_laws_toLineS.cs, H_laws_toLineS.io, H_laws_toLineS.im, H_laws_toLineS.R, H_laws_toLineS.m, laws_toLineS⟩
theorem E_laws_toLineS : fnOf tys [(108, T_laws_toLine)] Tryd.f77 H_laws_toLineS = T_laws_toLineS := by kernel_rfl
theorem K_laws_toLineS : SigB base_ Tryd.prog 77 T_laws_toLineS := (congrArg (SigB base_ Tryd.prog 77) E_laws_toLineS).mp (fnOf_ok rfl tysOk ⟨K_laws_toLine, trivial⟩ Tryd.func77 (by decide) rfl (fun _ h => by cases h) (nilEq_of (by kernel_rfl)))
def laws_toLog (x : (D_Log × Unit)) (c : Unit) : (Option (D_Log × Unit)) :=
  (Option.bind ((Option.bind (laws_toProject (x.1.1, ()) ()) fun v0 => (some v0.1)) : (Option D_Project)) fun v1 => (Option.bind ((Option.bind (laws_toDomain (x.1.2.1, ()) ()) fun v2 => (some v2.1)) : (Option D_Domain)) fun v3 => (Option.bind ((Option.bind (laws_toLiteralS (x.1.2.2.1, ()) ()) fun v4 => (some v4.1)) : (Option (List D_Literal))) fun v5 => (Option.bind ((Option.bind (laws_toLineS (x.1.2.2.2.1, ()) ()) fun v6 => (some v6.1)) : (Option (List D_Line))) fun v7 => (some ((v1, (v3, (v5, (v7, ())))), ()))))))
def H_laws_toLog : Hd := ⟨[.st [.st [.int .i64, .sl 104 (.st [.str, .int .i64, .sl 182 (.st [.int .i64, .sl 3 (.int .i64), .sl 3 (.int .i64)])]), .sl 29 (.st [.int .i64, .int .i64, .bool, .int .i64]), .sl 108 (.st [.sl 186 (.st [.int .i64, .int .i64]), .sl 25 (.sl 3 (.int .i64))]), .sl 3 (.int .i64)], .st [.sl 3 (.int .i64), .sl 3 (.int .i64), .sl 25 (.sl 3 (.int .i64))], .sl 173 (.st [.int .i64, .int .i64, .int .i64]), .sl 169 (.st [.int .i64, .st [.int .i64, .int .i64, .int .i64, .int .i64], .sl 173 (.st [.int .i64, .int .i64, .int .i64])])]], [], none, .p, .st [.st [.int .i64, .sl 99 (.st [.str, .int .i64, .sl 121 (.st [.int .i64, .sl 3 (.int .i64), .sl 3 (.int .i64)])]), .sl 38 (.st [.int .i64, .int .i64, .bool, .int .i64]), .sl 112 (.st [.sl 124 (.st [.int .i64, .int .i64]), .sl 25 (.sl 3 (.int .i64))]), .sl 3 (.int .i64)], .st [.sl 3 (.int .i64), .sl 3 (.int .i64), .sl 25 (.sl 3 (.int .i64))], .sl 171 (.st [.int .i64, .int .i64, .int .i64]), .sl 176 (.st [.int .i64, .st [.int .i64, .int .i64, .int .i64, .int .i64], .sl 171 (.st [.int .i64, .int .i64, .int .i64])])], (Ty.all (.st [.st [.int .i64, .sl 99 (.st [.str, .int .i64, .sl 121 (.st [.int .i64, .sl 3 (.int .i64), .sl 3 (.int .i64)])]), .sl 38 (.st [.int .i64, .int .i64, .bool, .int .i64]), .sl 112 (.st [.sl 124 (.st [.int .i64, .int .i64]), .sl 25 (.sl 3 (.int .i64))]), .sl 3 (.int .i64)], .st [.sl 3 (.int .i64), .sl 3 (.int .i64), .sl 25 (.sl 3 (.int .i64))], .sl 171 (.st [.int .i64, .int .i64, .int .i64]), .sl 176 (.st [.int .i64, .st [.int .i64, .int .i64, .int .i64, .int .i64], .sl 171 (.st [.int .i64, .int .i64, .int .i64])])])), []⟩
def T_laws_toLog : FSig := ⟨H_laws_toLog.ps, H_laws_toLog.cs, H_laws_toLog.io, H_laws_toLog.im, H_laws_toLog.R, H_laws_toLog.m, laws_toLog⟩
theorem E_laws_toLog : fnOf tys [(8, T_laws_toProject), (75, T_laws_toDomain), (76, T_laws_toLiteralS), (77, T_laws_toLineS)] Tryd.f41 H_laws_toLog = T_laws_toLog := by kernel_rfl
theorem K_laws_toLog : SigB base_ Tryd.prog 41 T_laws_toLog := (congrArg (SigB base_ Tryd.prog 41) E_laws_toLog).mp (fnOf_ok rfl tysOk ⟨K_laws_toProject, K_laws_toDomain, K_laws_toLiteralS, K_laws_toLineS, trivial⟩ Tryd.func41 (by decide) rfl (fun _ h => by cases h) (nilEq_of (by kernel_rfl)))
def laws_toSchedule (x : (D_Schedule × Unit)) (c : Unit) : (Option (D_Schedule × Unit)) :=
  (Option.bind ((Option.bind (laws_toIntS (x.1.1, ()) ()) fun v0 => (some v0.1)) : (Option (List Int))) fun v1 => (Option.bind ((Option.bind (laws_toIntS (x.1.2.1, ()) ()) fun v2 => (some v2.1)) : (Option (List Int))) fun v3 => (some ((v1, (v3, ())), ()))))
def H_laws_toSchedule : Hd := ⟨[.st [.sl 3 (.int .i64), .sl 3 (.int .i64)]], [], none, .p, .st [.sl 3 (.int .i64), .sl 3 (.int .i64)], (Ty.all (.st [.sl 3 (.int .i64), .sl 3 (.int .i64)])), []⟩
def T_laws_toSchedule : FSig := ⟨H_laws_toSchedule.ps, H_laws_toSchedule.cs, H_laws_toSchedule.io, H_laws_toSchedule.im, H_laws_toSchedule.R, H_laws_toSchedule.m, laws_toSchedule⟩
theorem E_laws_toSchedule : fnOf tys [(30, T_laws_toIntS)] Tryd.f42 H_laws_toSchedule = T_laws_toSchedule := by kernel_rfl
theorem K_laws_toSchedule : SigB base_ Tryd.prog 42 T_laws_toSchedule := (congrArg (SigB base_ Tryd.prog 42) E_laws_toSchedule).mp (fnOf_ok rfl tysOk ⟨K_laws_toIntS, trivial⟩ Tryd.func42 (by decide) rfl (fun _ h => by cases h) (nilEq_of (by kernel_rfl)))
def laws_toSearchResult (x : (D_SearchResult × Unit)) (c : Unit) : (Option (D_SearchResult × Unit)) :=
  (Option.bind ((Option.bind (laws_toLog (x.1.1, ()) ()) fun v0 => (some v0.1)) : (Option D_Log)) fun v1 => (Option.bind ((Option.bind (laws_toSchedule (x.1.2.1, ()) ()) fun v2 => (some v2.1)) : (Option D_Schedule)) fun v3 => (some ((v1, (v3, (x.1.2.2.1, (x.1.2.2.2.1, (x.1.2.2.2.2.1, ()))))), ()))))
def H_laws_toSearchResult : Hd := ⟨[.st [.st [.st [.int .i64, .sl 104 (.st [.str, .int .i64, .sl 182 (.st [.int .i64, .sl 3 (.int .i64), .sl 3 (.int .i64)])]), .sl 29 (.st [.int .i64, .int .i64, .bool, .int .i64]), .sl 108 (.st [.sl 186 (.st [.int .i64, .int .i64]), .sl 25 (.sl 3 (.int .i64))]), .sl 3 (.int .i64)], .st [.sl 3 (.int .i64), .sl 3 (.int .i64), .sl 25 (.sl 3 (.int .i64))], .sl 173 (.st [.int .i64, .int .i64, .int .i64]), .sl 169 (.st [.int .i64, .st [.int .i64, .int .i64, .int .i64, .int .i64], .sl 173 (.st [.int .i64, .int .i64, .int .i64])])], .st [.sl 3 (.int .i64), .sl 3 (.int .i64)], .bool, .int .i64, .bool]], [], none, .p, .st [.st [.st [.int .i64, .sl 99 (.st [.str, .int .i64, .sl 121 (.st [.int .i64, .sl 3 (.int .i64), .sl 3 (.int .i64)])]), .sl 38 (.st [.int .i64, .int .i64, .bool, .int .i64]), .sl 112 (.st [.sl 124 (.st [.int .i64, .int .i64]), .sl 25 (.sl 3 (.int .i64))]), .sl 3 (.int .i64)], .st [.sl 3 (.int .i64), .sl 3 (.int .i64), .sl 25 (.sl 3 (.int .i64))], .sl 171 (.st [.int .i64, .int .i64, .int .i64]), .sl 176 (.st [.int .i64, .st [.int .i64, .int .i64, .int .i64, .int .i64], .sl 171 (.st [.int .i64, .int .i64, .int .i64])])], .st [.sl 3 (.int .i64), .sl 3 (.int .i64)], .bool, .int .i64, .bool], (Ty.all (.st [.st [.st [.int .i64, .sl 99 (.st [.str, .int .i64, .sl 121 (.st [.int .i64, .sl 3 (.int .i64), .sl 3 (.int .i64)])]), .sl 38 (.st [.int .i64, .int .i64, .bool, .int .i64]), .sl 112 (.st [.sl 124 (.st [.int .i64, .int .i64]), .sl 25 (.sl 3 (.int .i64))]), .sl 3 (.int .i64)], .st [.sl 3 (.int .i64), .sl 3 (.int .i64), .sl 25 (.sl 3 (.int .i64))], .sl 171 (.st [.int .i64, .int .i64, .int .i64]), .sl 176 (.st [.int .i64, .st [.int .i64, .int .i64, .int .i64, .int .i64], .sl 171 (.st [.int .i64, .int .i64, .int .i64])])], .st [.sl 3 (.int .i64), .sl 3 (.int .i64)], .bool, .int .i64, .bool])), []⟩
def T_laws_toSearchResult : FSig := ⟨H_laws_toSearchResult.ps, H_laws_toSearchResult.cs, H_laws_toSearchResult.io, H_laws_toSearchResult.im, H_laws_toSearchResult.R, H_laws_toSearchResult.m, laws_toSearchResult⟩
theorem E_laws_toSearchResult : fnOf tys [(41, T_laws_toLog), (42, T_laws_toSchedule)] Tryd.f14 H_laws_toSearchResult = T_laws_toSearchResult := by kernel_rfl
theorem K_laws_toSearchResult : SigB base_ Tryd.prog 14 T_laws_toSearchResult := (congrArg (SigB base_ Tryd.prog 14) E_laws_toSearchResult).mp (fnOf_ok rfl tysOk ⟨K_laws_toLog, K_laws_toSchedule, trivial⟩ Tryd.func14 (by decide) rfl (fun _ h => by cases h) (nilEq_of (by kernel_rfl)))
def impl_FormatSearch (x : (D_SearchResult × Unit)) (c : Unit) : (Option ((List UInt8) × Unit)) :=
  (Option.bind ((if x.1.2.2.2.2.1 = true then (some (Out.norm (([115, 116, 111, 112, 112, 101, 100] : List UInt8), (x.1, ())))) else (Option.bind ((if x.1.2.2.1 = true then (some (Out.norm (([102, 111, 117, 110, 100] : List UInt8), (x.1, ())))) else (some (Out.norm (([110, 111, 110, 101] : List UInt8), (x.1, ()))))) : (Option (Out ((List UInt8) × (D_SearchResult × Unit)) Empty ((List UInt8) × Unit)))) fun v0 => (match ((match v0 with | Out.norm v4 => (Out.norm v4) | Out.exit v5 => (Out.exit v5) | Out.ret v6 => (Out.ret v6)) : (Out ((List UInt8) × (D_SearchResult × Unit)) Empty ((List UInt8) × Unit))) with | Out.norm v1 => (some (Out.norm (v1.1, (v1.2.1, ())))) | Out.exit v2 => (some (Out.exit v2)) | Out.ret v3 => (some (Out.ret v3))))) : (Option (Out ((List UInt8) × (D_SearchResult × Unit)) Empty ((List UInt8) × Unit)))) fun v7 => (match ((match v7 with | Out.norm v21 => (Out.norm v21) | Out.exit v22 => (Out.exit v22) | Out.ret v23 => (Out.ret v23)) : (Out ((List UInt8) × (D_SearchResult × Unit)) Empty ((List UInt8) × Unit))) with | Out.norm v8 => (Option.bind (addI v8.1 ([32] : List UInt8)) fun v9 => (Option.bind ((Option.bind (impl_FormatInt (v8.2.1.2.2.2.1, ()) ()) fun v10 => (some v10.1)) : (Option (List UInt8))) fun v11 => (Option.bind (addI v9 v11) fun v12 => (some (v12, ()))))) | Out.exit v13 => (match ((Empty.elim v13) : (((List UInt8) × (D_SearchResult × Unit)) ⊕ Empty)) with | Sum.inl v14 => (Option.bind (addI v14.1 ([32] : List UInt8)) fun v15 => (Option.bind ((Option.bind (impl_FormatInt (v14.2.1.2.2.2.1, ()) ()) fun v16 => (some v16.1)) : (Option (List UInt8))) fun v17 => (Option.bind (addI v15 v17) fun v18 => (some (v18, ()))))) | Sum.inr v19 => none) | Out.ret v20 => (some v20)))
def H_impl_FormatSearch : Hd := ⟨[.st [.st [.st [.int .i64, .sl 99 (.st [.str, .int .i64, .sl 121 (.st [.int .i64, .sl 3 (.int .i64), .sl 3 (.int .i64)])]), .sl 38 (.st [.int .i64, .int .i64, .bool, .int .i64]), .sl 112 (.st [.sl 124 (.st [.int .i64, .int .i64]), .sl 25 (.sl 3 (.int .i64))]), .sl 3 (.int .i64)], .st [.sl 3 (.int .i64), .sl 3 (.int .i64), .sl 25 (.sl 3 (.int .i64))], .sl 171 (.st [.int .i64, .int .i64, .int .i64]), .sl 176 (.st [.int .i64, .st [.int .i64, .int .i64, .int .i64, .int .i64], .sl 171 (.st [.int .i64, .int .i64, .int .i64])])], .st [.sl 3 (.int .i64), .sl 3 (.int .i64)], .bool, .int .i64, .bool]], [], none, .p, .str, .p, []⟩
def T_impl_FormatSearch : FSig := ⟨H_impl_FormatSearch.ps, H_impl_FormatSearch.cs, H_impl_FormatSearch.io, H_impl_FormatSearch.im, H_impl_FormatSearch.R, H_impl_FormatSearch.m, impl_FormatSearch⟩
theorem E_impl_FormatSearch : fnOf tys [(43, T_impl_FormatInt)] Tryd.f15 H_impl_FormatSearch = T_impl_FormatSearch := by kernel_rfl
theorem K_impl_FormatSearch : SigB base_ Tryd.prog 15 T_impl_FormatSearch := (congrArg (SigB base_ Tryd.prog 15) E_impl_FormatSearch).mp (fnOf_ok rfl tysOk ⟨K_impl_FormatInt, trivial⟩ Tryd.func15 (by decide) rfl (fun _ h => by cases h) (nilEq_of (by kernel_rfl)))
def laws_eqDomain (x : (D_Domain × (D_Domain × Unit))) (c : Unit) : (Option (Bool × Unit)) :=
  (Option.bind ((Option.bind (laws_eqIntS (x.1.1, (x.2.1.1, ())) ()) fun v0 => (some v0.1)) : (Option Bool)) fun v1 => (if (notB v1) = true then (some (false, ())) else (Option.bind ((Option.bind (laws_eqIntS (x.1.2.1, (x.2.1.2.1, ())) ()) fun v2 => (some v2.1)) : (Option Bool)) fun v3 => (if (notB v3) = true then (some (false, ())) else (Option.bind ((Option.bind (laws_eqIntSS (x.1.2.2.1, (x.2.1.2.2.1, ())) ()) fun v4 => (some v4.1)) : (Option Bool)) fun v5 => (if (notB v5) = true then (some (false, ())) else (some (true, ()))))))))
def H_laws_eqDomain : Hd := ⟨[.st [.sl 3 (.int .i64), .sl 3 (.int .i64), .sl 25 (.sl 3 (.int .i64))], .st [.sl 3 (.int .i64), .sl 3 (.int .i64), .sl 25 (.sl 3 (.int .i64))]], [], none, .p, .bool, .p, []⟩
def T_laws_eqDomain : FSig := ⟨H_laws_eqDomain.ps, H_laws_eqDomain.cs, H_laws_eqDomain.io, H_laws_eqDomain.im, H_laws_eqDomain.R, H_laws_eqDomain.m, laws_eqDomain⟩
theorem E_laws_eqDomain : fnOf tys [(37, T_laws_eqIntS), (105, T_laws_eqIntSS)] Tryd.f79 H_laws_eqDomain = T_laws_eqDomain := by kernel_rfl
theorem K_laws_eqDomain : SigB base_ Tryd.prog 79 T_laws_eqDomain := (congrArg (SigB base_ Tryd.prog 79) E_laws_eqDomain).mp (fnOf_ok rfl tysOk ⟨K_laws_eqIntS, K_laws_eqIntSS, trivial⟩ Tryd.func79 (by decide) rfl (fun _ h => by cases h) (nilEq_of (by kernel_rfl)))
def laws_eqLiteral (x : (D_Literal × (D_Literal × Unit))) (c : Unit) : (Option (Bool × Unit)) :=
  (if (notB (eqZ x.1.1 x.2.1.1)) = true then (some (false, ())) else (if (notB (eqZ x.1.2.1 x.2.1.2.1)) = true then (some (false, ())) else (if (notB (eqZ x.1.2.2.1 x.2.1.2.2.1)) = true then (some (false, ())) else (some (true, ())))))
def H_laws_eqLiteral : Hd := ⟨[.st [.int .i64, .int .i64, .int .i64], .st [.int .i64, .int .i64, .int .i64]], [], none, .p, .bool, .p, []⟩
def T_laws_eqLiteral : FSig := ⟨H_laws_eqLiteral.ps, H_laws_eqLiteral.cs, H_laws_eqLiteral.io, H_laws_eqLiteral.im, H_laws_eqLiteral.R, H_laws_eqLiteral.m, laws_eqLiteral⟩
theorem E_laws_eqLiteral : fnOf tys [] Tryd.f110 H_laws_eqLiteral = T_laws_eqLiteral := by kernel_rfl
theorem K_laws_eqLiteral : SigB base_ Tryd.prog 110 T_laws_eqLiteral := (congrArg (SigB base_ Tryd.prog 110) E_laws_eqLiteral).mp (fnOf_ok rfl tysOk trivial Tryd.func110 (by decide) rfl (fun _ h => by cases h) (nilEq_of (by kernel_rfl)))
def laws_eqLiteralS_L0 : (Int × ((List D_Literal) × ((List D_Literal) × Unit))) → Option (Out (Int × ((List D_Literal) × ((List D_Literal) × Unit))) ((Bool × (Int × ((List D_Literal) × ((List D_Literal) × Unit)))) ⊕ Empty) (Bool × Unit)) :=
  (fun v0 => (if (ltZ v0.1 (lenI v0.2.1)) = true then (Option.bind (getI v0.2.1 v0.1) fun v1 => (Option.bind (getI v0.2.2.1 v0.1) fun v2 => (Option.bind ((Option.bind (laws_eqLiteral (v1, (v2, ())) ()) fun v3 => (some v3.1)) : (Option Bool)) fun v4 => (if (notB v4) = true then (some (Out.ret (false, ()))) else (some (Out.norm ((addZ .i64 v0.1 1), (v0.2.1, (v0.2.2.1, ()))))))))) else (some (Out.exit (Sum.inl ((ltZ v0.1 (lenI v0.2.1)), (v0.1, (v0.2.1, (v0.2.2.1, ())))))))))
def laws_eqLiteralS (x : ((List D_Literal) × ((List D_Literal) × Unit))) (c : Unit) : (Option (Bool × Unit)) :=
  (if (notB (eqZ (lenI x.1) (lenI x.2.1))) = true then (some (false, ())) else (Option.bind (loopN (A := (Int × ((List D_Literal) × ((List D_Literal) × Unit)))) big laws_eqLiteralS_L0 (0, (x.1, (x.2.1, ())))) fun v5 => (match v5 with | Out.norm v6 => none | Out.exit v7 => (match ((match v7 with | Sum.inl v10 => (Sum.inl ()) | Sum.inr v11 => (Empty.elim v11)) : (Unit ⊕ Empty)) with | Sum.inl v8 => (some (true, ())) | Sum.inr v9 => none) | Out.ret v12 => (some v12))))
def H_laws_eqLiteralS : Hd := ⟨[.sl 171 (.st [.int .i64, .int .i64, .int .i64]), .sl 171 (.st [.int .i64, .int .i64, .int .i64])], [], none, .p, .bool, .p, []⟩
def T_laws_eqLiteralS : FSig := ⟨H_laws_eqLiteralS.ps, H_laws_eqLiteralS.cs, H_laws_eqLiteralS.io, H_laws_eqLiteralS.im, H_laws_eqLiteralS.R, H_laws_eqLiteralS.m, laws_eqLiteralS⟩
theorem E_laws_eqLiteralS : fnOf tys [(110, T_laws_eqLiteral)] Tryd.f80 H_laws_eqLiteralS = T_laws_eqLiteralS := by kernel_rfl
theorem K_laws_eqLiteralS : SigB base_ Tryd.prog 80 T_laws_eqLiteralS := (congrArg (SigB base_ Tryd.prog 80) E_laws_eqLiteralS).mp (fnOf_ok rfl tysOk ⟨K_laws_eqLiteral, trivial⟩ Tryd.func80 (by decide) rfl (fun _ h => by cases h) (nilEq_of (by kernel_rfl)))
def laws_eqRule (x : (D_Rule × (D_Rule × Unit))) (c : Unit) : (Option (Bool × Unit)) :=
  (if (notB (eqZ x.1.1 x.2.1.1)) = true then (some (false, ())) else (if (notB (eqZ x.1.2.1 x.2.1.2.1)) = true then (some (false, ())) else (if (notB (eqZ x.1.2.2.1 x.2.1.2.2.1)) = true then (some (false, ())) else (if (notB (eqZ x.1.2.2.2.1 x.2.1.2.2.2.1)) = true then (some (false, ())) else (some (true, ()))))))
def H_laws_eqRule : Hd := ⟨[.st [.int .i64, .int .i64, .int .i64, .int .i64], .st [.int .i64, .int .i64, .int .i64, .int .i64]], [], none, .p, .bool, .p, []⟩
def T_laws_eqRule : FSig := ⟨H_laws_eqRule.ps, H_laws_eqRule.cs, H_laws_eqRule.io, H_laws_eqRule.im, H_laws_eqRule.R, H_laws_eqRule.m, laws_eqRule⟩
theorem E_laws_eqRule : fnOf tys [] Tryd.f124 H_laws_eqRule = T_laws_eqRule := by kernel_rfl
theorem K_laws_eqRule : SigB base_ Tryd.prog 124 T_laws_eqRule := (congrArg (SigB base_ Tryd.prog 124) E_laws_eqRule).mp (fnOf_ok rfl tysOk trivial Tryd.func124 (by decide) rfl (fun _ h => by cases h) (nilEq_of (by kernel_rfl)))
def laws_eqLine (x : (D_Line × (D_Line × Unit))) (c : Unit) : (Option (Bool × Unit)) :=
  (if (notB (eqZ x.1.1 x.2.1.1)) = true then (some (false, ())) else (Option.bind ((Option.bind (laws_eqRule (x.1.2.1, (x.2.1.2.1, ())) ()) fun v0 => (some v0.1)) : (Option Bool)) fun v1 => (if (notB v1) = true then (some (false, ())) else (Option.bind ((Option.bind (laws_eqLiteralS (x.1.2.2.1, (x.2.1.2.2.1, ())) ()) fun v2 => (some v2.1)) : (Option Bool)) fun v3 => (if (notB v3) = true then (some (false, ())) else (some (true, ())))))))
def H_laws_eqLine : Hd := ⟨[.st [.int .i64, .st [.int .i64, .int .i64, .int .i64, .int .i64], .sl 171 (.st [.int .i64, .int .i64, .int .i64])], .st [.int .i64, .st [.int .i64, .int .i64, .int .i64, .int .i64], .sl 171 (.st [.int .i64, .int .i64, .int .i64])]], [], none, .p, .bool, .p, []⟩
def T_laws_eqLine : FSig := ⟨H_laws_eqLine.ps, H_laws_eqLine.cs, H_laws_eqLine.io, H_laws_eqLine.im, H_laws_eqLine.R, H_laws_eqLine.m, laws_eqLine⟩
theorem E_laws_eqLine : fnOf tys [(80, T_laws_eqLiteralS), (124, T_laws_eqRule)] Tryd.f111 H_laws_eqLine = T_laws_eqLine := by kernel_rfl
theorem K_laws_eqLine : SigB base_ Tryd.prog 111 T_laws_eqLine := (congrArg (SigB base_ Tryd.prog 111) E_laws_eqLine).mp (fnOf_ok rfl tysOk ⟨K_laws_eqLiteralS, K_laws_eqRule, trivial⟩ Tryd.func111 (by decide) rfl (fun _ h => by cases h) (nilEq_of (by kernel_rfl)))
def laws_eqLineS_L0 : (Int × ((List D_Line) × ((List D_Line) × Unit))) → Option (Out (Int × ((List D_Line) × ((List D_Line) × Unit))) ((Bool × (Int × ((List D_Line) × ((List D_Line) × Unit)))) ⊕ Empty) (Bool × Unit)) :=
  (fun v0 => (if (ltZ v0.1 (lenI v0.2.1)) = true then (Option.bind (getI v0.2.1 v0.1) fun v1 => (Option.bind (getI v0.2.2.1 v0.1) fun v2 => (Option.bind ((Option.bind (laws_eqLine (v1, (v2, ())) ()) fun v3 => (some v3.1)) : (Option Bool)) fun v4 => (if (notB v4) = true then (some (Out.ret (false, ()))) else (some (Out.norm ((addZ .i64 v0.1 1), (v0.2.1, (v0.2.2.1, ()))))))))) else (some (Out.exit (Sum.inl ((ltZ v0.1 (lenI v0.2.1)), (v0.1, (v0.2.1, (v0.2.2.1, ())))))))))
def laws_eqLineS (x : ((List D_Line) × ((List D_Line) × Unit))) (c : Unit) : (Option (Bool × Unit)) :=
  (if (notB (eqZ (lenI x.1) (lenI x.2.1))) = true then (some (false, ())) else (Option.bind (loopN (A := (Int × ((List D_Line) × ((List D_Line) × Unit)))) big laws_eqLineS_L0 (0, (x.1, (x.2.1, ())))) fun v5 => (match v5 with | Out.norm v6 => none | Out.exit v7 => (match ((match v7 with | Sum.inl v10 => (Sum.inl ()) | Sum.inr v11 => (Empty.elim v11)) : (Unit ⊕ Empty)) with | Sum.inl v8 => (some (true, ())) | Sum.inr v9 => none) | Out.ret v12 => (some v12))))
def H_laws_eqLineS : Hd := ⟨[.sl 176 (.st [.int .i64, .st [.int .i64, .int .i64, .int .i64, .int .i64], .sl 171 (.st [.int .i64, .int .i64, .int .i64])]), .sl 176 (.st [.int .i64, .st [.int .i64, .int .i64, .int .i64, .int .i64], .sl 171 (.st [.int .i64, .int .i64, .int .i64])])], [], none, .p, .bool, .p, []⟩
def T_laws_eqLineS : FSig := ⟨H_laws_eqLineS.ps, H_laws_eqLineS.cs, H_laws_eqLineS.io, H_laws_eqLineS.im, H_laws_eqLineS.R, H_laws_eqLineS.m, laws_eqLineS⟩
theorem E_laws_eqLineS : fnOf tys [(111, T_laws_eqLine)] Tryd.f81 H_laws_eqLineS = T_laws_eqLineS := by kernel_rfl
theorem K_laws_eqLineS : SigB base_ Tryd.prog 81 T_laws_eqLineS := (congrArg (SigB base_ Tryd.prog 81) E_laws_eqLineS).mp (fnOf_ok rfl tysOk ⟨K_laws_eqLine, trivial⟩ Tryd.func81 (by decide) rfl (fun _ h => by cases h) (nilEq_of (by kernel_rfl)))
def laws_eqLog (x : (D_Log × (D_Log × Unit))) (c : Unit) : (Option (Bool × Unit)) :=
  (Option.bind ((Option.bind (laws_eqProject (x.1.1, (x.2.1.1, ())) ()) fun v0 => (some v0.1)) : (Option Bool)) fun v1 => (if (notB v1) = true then (some (false, ())) else (Option.bind ((Option.bind (laws_eqDomain (x.1.2.1, (x.2.1.2.1, ())) ()) fun v2 => (some v2.1)) : (Option Bool)) fun v3 => (if (notB v3) = true then (some (false, ())) else (Option.bind ((Option.bind (laws_eqLiteralS (x.1.2.2.1, (x.2.1.2.2.1, ())) ()) fun v4 => (some v4.1)) : (Option Bool)) fun v5 => (if (notB v5) = true then (some (false, ())) else (Option.bind ((Option.bind (laws_eqLineS (x.1.2.2.2.1, (x.2.1.2.2.2.1, ())) ()) fun v6 => (some v6.1)) : (Option Bool)) fun v7 => (if (notB v7) = true then (some (false, ())) else (some (true, ()))))))))))
def H_laws_eqLog : Hd := ⟨[.st [.st [.int .i64, .sl 99 (.st [.str, .int .i64, .sl 121 (.st [.int .i64, .sl 3 (.int .i64), .sl 3 (.int .i64)])]), .sl 38 (.st [.int .i64, .int .i64, .bool, .int .i64]), .sl 112 (.st [.sl 124 (.st [.int .i64, .int .i64]), .sl 25 (.sl 3 (.int .i64))]), .sl 3 (.int .i64)], .st [.sl 3 (.int .i64), .sl 3 (.int .i64), .sl 25 (.sl 3 (.int .i64))], .sl 171 (.st [.int .i64, .int .i64, .int .i64]), .sl 176 (.st [.int .i64, .st [.int .i64, .int .i64, .int .i64, .int .i64], .sl 171 (.st [.int .i64, .int .i64, .int .i64])])], .st [.st [.int .i64, .sl 99 (.st [.str, .int .i64, .sl 121 (.st [.int .i64, .sl 3 (.int .i64), .sl 3 (.int .i64)])]), .sl 38 (.st [.int .i64, .int .i64, .bool, .int .i64]), .sl 112 (.st [.sl 124 (.st [.int .i64, .int .i64]), .sl 25 (.sl 3 (.int .i64))]), .sl 3 (.int .i64)], .st [.sl 3 (.int .i64), .sl 3 (.int .i64), .sl 25 (.sl 3 (.int .i64))], .sl 171 (.st [.int .i64, .int .i64, .int .i64]), .sl 176 (.st [.int .i64, .st [.int .i64, .int .i64, .int .i64, .int .i64], .sl 171 (.st [.int .i64, .int .i64, .int .i64])])]], [], none, .p, .bool, .p, []⟩
def T_laws_eqLog : FSig := ⟨H_laws_eqLog.ps, H_laws_eqLog.cs, H_laws_eqLog.io, H_laws_eqLog.im, H_laws_eqLog.R, H_laws_eqLog.m, laws_eqLog⟩
theorem E_laws_eqLog : fnOf tys [(11, T_laws_eqProject), (79, T_laws_eqDomain), (80, T_laws_eqLiteralS), (81, T_laws_eqLineS)] Tryd.f44 H_laws_eqLog = T_laws_eqLog := by kernel_rfl
theorem K_laws_eqLog : SigB base_ Tryd.prog 44 T_laws_eqLog := (congrArg (SigB base_ Tryd.prog 44) E_laws_eqLog).mp (fnOf_ok rfl tysOk ⟨K_laws_eqProject, K_laws_eqDomain, K_laws_eqLiteralS, K_laws_eqLineS, trivial⟩ Tryd.func44 (by decide) rfl (fun _ h => by cases h) (nilEq_of (by kernel_rfl)))
def laws_eqSchedule (x : (D_Schedule × (D_Schedule × Unit))) (c : Unit) : (Option (Bool × Unit)) :=
  (Option.bind ((Option.bind (laws_eqIntS (x.1.1, (x.2.1.1, ())) ()) fun v0 => (some v0.1)) : (Option Bool)) fun v1 => (if (notB v1) = true then (some (false, ())) else (Option.bind ((Option.bind (laws_eqIntS (x.1.2.1, (x.2.1.2.1, ())) ()) fun v2 => (some v2.1)) : (Option Bool)) fun v3 => (if (notB v3) = true then (some (false, ())) else (some (true, ()))))))
def H_laws_eqSchedule : Hd := ⟨[.st [.sl 3 (.int .i64), .sl 3 (.int .i64)], .st [.sl 3 (.int .i64), .sl 3 (.int .i64)]], [], none, .p, .bool, .p, []⟩
def T_laws_eqSchedule : FSig := ⟨H_laws_eqSchedule.ps, H_laws_eqSchedule.cs, H_laws_eqSchedule.io, H_laws_eqSchedule.im, H_laws_eqSchedule.R, H_laws_eqSchedule.m, laws_eqSchedule⟩
theorem E_laws_eqSchedule : fnOf tys [(37, T_laws_eqIntS)] Tryd.f45 H_laws_eqSchedule = T_laws_eqSchedule := by kernel_rfl
theorem K_laws_eqSchedule : SigB base_ Tryd.prog 45 T_laws_eqSchedule := (congrArg (SigB base_ Tryd.prog 45) E_laws_eqSchedule).mp (fnOf_ok rfl tysOk ⟨K_laws_eqIntS, trivial⟩ Tryd.func45 (by decide) rfl (fun _ h => by cases h) (nilEq_of (by kernel_rfl)))
def laws_eqSearchResult (x : (D_SearchResult × (D_SearchResult × Unit))) (c : Unit) : (Option (Bool × Unit)) :=
  (Option.bind ((Option.bind (laws_eqLog (x.1.1, (x.2.1.1, ())) ()) fun v0 => (some v0.1)) : (Option Bool)) fun v1 => (if (notB v1) = true then (some (false, ())) else (Option.bind ((Option.bind (laws_eqSchedule (x.1.2.1, (x.2.1.2.1, ())) ()) fun v2 => (some v2.1)) : (Option Bool)) fun v3 => (if (notB v3) = true then (some (false, ())) else (if (notB (eqB x.1.2.2.1 x.2.1.2.2.1)) = true then (some (false, ())) else (if (notB (eqZ x.1.2.2.2.1 x.2.1.2.2.2.1)) = true then (some (false, ())) else (if (notB (eqB x.1.2.2.2.2.1 x.2.1.2.2.2.2.1)) = true then (some (false, ())) else (some (true, ())))))))))
def H_laws_eqSearchResult : Hd := ⟨[.st [.st [.st [.int .i64, .sl 99 (.st [.str, .int .i64, .sl 121 (.st [.int .i64, .sl 3 (.int .i64), .sl 3 (.int .i64)])]), .sl 38 (.st [.int .i64, .int .i64, .bool, .int .i64]), .sl 112 (.st [.sl 124 (.st [.int .i64, .int .i64]), .sl 25 (.sl 3 (.int .i64))]), .sl 3 (.int .i64)], .st [.sl 3 (.int .i64), .sl 3 (.int .i64), .sl 25 (.sl 3 (.int .i64))], .sl 171 (.st [.int .i64, .int .i64, .int .i64]), .sl 176 (.st [.int .i64, .st [.int .i64, .int .i64, .int .i64, .int .i64], .sl 171 (.st [.int .i64, .int .i64, .int .i64])])], .st [.sl 3 (.int .i64), .sl 3 (.int .i64)], .bool, .int .i64, .bool], .st [.st [.st [.int .i64, .sl 99 (.st [.str, .int .i64, .sl 121 (.st [.int .i64, .sl 3 (.int .i64), .sl 3 (.int .i64)])]), .sl 38 (.st [.int .i64, .int .i64, .bool, .int .i64]), .sl 112 (.st [.sl 124 (.st [.int .i64, .int .i64]), .sl 25 (.sl 3 (.int .i64))]), .sl 3 (.int .i64)], .st [.sl 3 (.int .i64), .sl 3 (.int .i64), .sl 25 (.sl 3 (.int .i64))], .sl 171 (.st [.int .i64, .int .i64, .int .i64]), .sl 176 (.st [.int .i64, .st [.int .i64, .int .i64, .int .i64, .int .i64], .sl 171 (.st [.int .i64, .int .i64, .int .i64])])], .st [.sl 3 (.int .i64), .sl 3 (.int .i64)], .bool, .int .i64, .bool]], [], none, .p, .bool, .p, []⟩
def T_laws_eqSearchResult : FSig := ⟨H_laws_eqSearchResult.ps, H_laws_eqSearchResult.cs, H_laws_eqSearchResult.io, H_laws_eqSearchResult.im, H_laws_eqSearchResult.R, H_laws_eqSearchResult.m, laws_eqSearchResult⟩
theorem E_laws_eqSearchResult : fnOf tys [(44, T_laws_eqLog), (45, T_laws_eqSchedule)] Tryd.f16 H_laws_eqSearchResult = T_laws_eqSearchResult := by kernel_rfl
theorem K_laws_eqSearchResult : SigB base_ Tryd.prog 16 T_laws_eqSearchResult := (congrArg (SigB base_ Tryd.prog 16) E_laws_eqSearchResult).mp (fnOf_ok rfl tysOk ⟨K_laws_eqLog, K_laws_eqSchedule, trivial⟩ Tryd.func16 (by decide) rfl (fun _ h => by cases h) (nilEq_of (by kernel_rfl)))
def laws_FnExactFormatSearch (x : (D_SearchResult × Unit)) (c : Unit) : (Option (Bool × Unit)) :=
  (Option.bind ((Option.bind (laws_szSearchResult (x.1, (1048576, ())) ()) fun v0 => (some v0.1)) : (Option Int)) fun v1 => (if (ltZ v1 0) = true then (some (true, ())) else (Option.bind ((Option.bind (laws_toSearchResult (x.1, ()) ()) fun v2 => (some v2.1)) : (Option D_SearchResult)) fun v3 => (Option.bind ((Option.bind (spec_FormatSearch (v3, ()) ()) fun v4 => (some v4.1)) : (Option (List UInt8))) fun v5 => (Option.bind ((Option.bind (laws_toSearchResult (x.1, ()) ()) fun v6 => (some v6.1)) : (Option D_SearchResult)) fun v7 => (Option.bind ((Option.bind (impl_FormatSearch (v7, ()) ()) fun v8 => (some v8.1)) : (Option (List UInt8))) fun v9 => (if (notB (eqS v9 v5)) = true then (some (false, ())) else (Option.bind ((Option.bind (laws_toSearchResult (x.1, ()) ()) fun v10 => (some v10.1)) : (Option D_SearchResult)) fun v11 => (Option.bind ((Option.bind (laws_eqSearchResult (v7, (v11, ())) ()) fun v12 => (some v12.1)) : (Option Bool)) fun v13 => (if (notB v13) = true then (some (false, ())) else (some (true, ()))))))))))))
def H_laws_FnExactFormatSearch : Hd := ⟨[.st [.st [.st [.int .i64, .sl 104 (.st [.str, .int .i64, .sl 182 (.st [.int .i64, .sl 3 (.int .i64), .sl 3 (.int .i64)])]), .sl 29 (.st [.int .i64, .int .i64, .bool, .int .i64]), .sl 108 (.st [.sl 186 (.st [.int .i64, .int .i64]), .sl 25 (.sl 3 (.int .i64))]), .sl 3 (.int .i64)], .st [.sl 3 (.int .i64), .sl 3 (.int .i64), .sl 25 (.sl 3 (.int .i64))], .sl 173 (.st [.int .i64, .int .i64, .int .i64]), .sl 169 (.st [.int .i64, .st [.int .i64, .int .i64, .int .i64, .int .i64], .sl 173 (.st [.int .i64, .int .i64, .int .i64])])], .st [.sl 3 (.int .i64), .sl 3 (.int .i64)], .bool, .int .i64, .bool]], [], none, .p, .bool, .p, []⟩
def T_laws_FnExactFormatSearch : FSig := ⟨H_laws_FnExactFormatSearch.ps, H_laws_FnExactFormatSearch.cs, H_laws_FnExactFormatSearch.io, H_laws_FnExactFormatSearch.im, H_laws_FnExactFormatSearch.R, H_laws_FnExactFormatSearch.m, laws_FnExactFormatSearch⟩
theorem E_laws_FnExactFormatSearch : fnOf tys [(12, T_laws_szSearchResult), (13, T_spec_FormatSearch), (14, T_laws_toSearchResult), (15, T_impl_FormatSearch), (16, T_laws_eqSearchResult)] Tryd.f4 H_laws_FnExactFormatSearch = T_laws_FnExactFormatSearch := by kernel_rfl
theorem K_laws_FnExactFormatSearch : SigB base_ Tryd.prog 4 T_laws_FnExactFormatSearch := (congrArg (SigB base_ Tryd.prog 4) E_laws_FnExactFormatSearch).mp (fnOf_ok rfl tysOk ⟨K_laws_szSearchResult, K_spec_FormatSearch, K_laws_toSearchResult, K_impl_FormatSearch, K_laws_eqSearchResult, trivial⟩ Tryd.func4 (by decide) rfl (fun _ h => by cases h) (nilEq_of (by kernel_rfl)))
end Go.Proofs.YtmbknefcilojkaaDoor
