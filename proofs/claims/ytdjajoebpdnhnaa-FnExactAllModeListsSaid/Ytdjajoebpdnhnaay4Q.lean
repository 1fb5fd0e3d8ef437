/-
  The functions of this seat as plain Lean functions, and that the program computes them. No condition.
-/
import Derived.Test.YtdjajoebpdnhnaaN32
import Derived.Test.YtdjajoebpdnhnaaProg
import Derived.KernelRfl
namespace Go.Proofs.Ytdjajoebpdnhnaa
open Go.Abs
set_option linter.unusedVariables false
set_option maxRecDepth 100000
abbrev D_Mode : Type := (Int × ((List Int) × ((List Int) × Unit)))
abbrev D_Activity : Type := ((List UInt8) × (Int × ((List D_Mode) × Unit)))
abbrev D_Link : Type := (Int × (Int × (Bool × (Int × Unit))))
abbrev D_Step : Type := (Int × (Int × Unit))
abbrev D_Resource : Type := ((List D_Step) × ((List (List Int)) × Unit))
abbrev D_Project : Type := (Int × ((List D_Activity) × ((List D_Link) × ((List D_Resource) × ((List Int) × Unit)))))
theorem tn3 : TnOk Try.prog 3 (.int .i64) := ⟨Try.underlying3, fun _ h => (by cases h), Try.t3, rfl, rfl, fun _ _ => rfl⟩
theorem tn4 : TnOk Try.prog 4 (.bool) := ⟨Try.underlying4, fun _ h => (by cases h), Try.t4, rfl, rfl, fun _ _ => rfl⟩
theorem tn5 : TnOk Try.prog 5 (.int .u8) := ⟨Try.underlying5, fun _ h => (by cases h), Try.t5, rfl, rfl, fun _ _ => rfl⟩
theorem tn9 : TnOk Try.prog 9 (.str) := ⟨Try.underlying9, fun _ h => (by cases h), Try.t9, rfl, rfl, fun _ _ => rfl⟩
theorem tn22 : TnOk Try.prog 22 (.sl 95 (.st [.str, .int .i64, .sl 145 (.st [.int .i64, .sl 3 (.int .i64), .sl 3 (.int .i64)])])) := ⟨⟨Try.underlying22, Try.t95, _, rfl, rfl, rfl, rfl, by decide, by decide, fun _ _ => rfl, fun k h => by cases h⟩, fun _ h => (by cases h), Try.t22, rfl, rfl, fun _ _ => rfl⟩
theorem tn23 : TnOk Try.prog 23 (.sl 107 (.st [.int .i64, .int .i64, .bool, .int .i64])) := ⟨⟨Try.underlying23, Try.t107, _, rfl, rfl, rfl, rfl, by decide, by decide, fun _ _ => rfl, fun k h => by cases h⟩, fun _ h => (by cases h), Try.t23, rfl, rfl, fun _ _ => rfl⟩
theorem tn24 : TnOk Try.prog 24 (.sl 99 (.st [.sl 148 (.st [.int .i64, .int .i64]), .sl 25 (.sl 3 (.int .i64))])) := ⟨⟨Try.underlying24, Try.t99, _, rfl, rfl, rfl, rfl, by decide, by decide, fun _ _ => rfl, fun k h => by cases h⟩, fun _ h => (by cases h), Try.t24, rfl, rfl, fun _ _ => rfl⟩
theorem tn25 : TnOk Try.prog 25 (.sl 3 (.int .i64)) := ⟨⟨Try.underlying25, Try.t3, _, rfl, rfl, rfl, rfl, by decide, by decide, fun _ _ => rfl, fun k h => by cases h; exact Try.underlying3⟩, fun _ h => (by cases h), Try.t25, rfl, rfl, fun _ _ => rfl⟩
theorem tn26 : TnOk Try.prog 26 (.st [.int .i64, .sl 95 (.st [.str, .int .i64, .sl 145 (.st [.int .i64, .sl 3 (.int .i64), .sl 3 (.int .i64)])]), .sl 107 (.st [.int .i64, .int .i64, .bool, .int .i64]), .sl 99 (.st [.sl 148 (.st [.int .i64, .int .i64]), .sl 25 (.sl 3 (.int .i64))]), .sl 3 (.int .i64)]) := ⟨⟨_, Try.underlying26, Try.eqGuardType26, Try.stoodInHeld26, rfl, fun j τ h => by
    cases j with
    | zero => cases h; exact ⟨_, _, rfl, rfl, by decide, by decide, Try.underlying3, rfl, fun us h => by cases h⟩
    | succ j =>
     cases j with
     | zero => cases h; exact ⟨_, _, rfl, rfl, by decide, by decide, Try.underlying22, rfl, fun us h => by cases h⟩
     | succ j =>
      cases j with
      | zero => cases h; exact ⟨_, _, rfl, rfl, by decide, by decide, Try.underlying23, rfl, fun us h => by cases h⟩
      | succ j =>
       cases j with
       | zero => cases h; exact ⟨_, _, rfl, rfl, by decide, by decide, Try.underlying24, rfl, fun us h => by cases h⟩
       | succ j =>
        cases j with
        | zero => cases h; exact ⟨_, _, rfl, rfl, by decide, by decide, Try.underlying25, rfl, fun us h => by cases h⟩
        | succ j =>
         cases h⟩, (fun us hus fs hfs j τ h f hf => by
    cases hus
    rw [Try.underlying26] at hfs
    cases hfs
    cases j with
    | zero => cases h; cases hf; exact ⟨fun k e => by cases e; exact Try.underlying3, fun e => (by cases e), fun e => (by cases e)⟩
    | succ j =>
     cases j with
     | zero => cases h; cases hf; exact ⟨fun k e => (by cases e), fun e => (by cases e), fun e => (by cases e)⟩
     | succ j =>
      cases j with
      | zero => cases h; cases hf; exact ⟨fun k e => (by cases e), fun e => (by cases e), fun e => (by cases e)⟩
      | succ j =>
       cases j with
       | zero => cases h; cases hf; exact ⟨fun k e => (by cases e), fun e => (by cases e), fun e => (by cases e)⟩
       | succ j =>
        cases j with
        | zero => cases h; cases hf; exact ⟨fun k e => (by cases e), fun e => (by cases e), fun e => (by cases e)⟩
        | succ j =>
         cases h), Try.t26, rfl, rfl, fun _ _ => rfl⟩
theorem tn27 : TnOk Try.prog 27 (.st [.int .i64, .sl 95 (.st [.str, .int .i64, .sl 145 (.st [.int .i64, .sl 3 (.int .i64), .sl 3 (.int .i64)])]), .sl 107 (.st [.int .i64, .int .i64, .bool, .int .i64]), .sl 99 (.st [.sl 148 (.st [.int .i64, .int .i64]), .sl 25 (.sl 3 (.int .i64))]), .sl 3 (.int .i64)]) := ⟨⟨_, Try.underlying27, Try.eqGuardType27, Try.stoodInHeld27, rfl, fun j τ h => by
    cases j with
    | zero => cases h; exact ⟨_, _, rfl, rfl, by decide, by decide, Try.underlying3, rfl, fun us h => by cases h⟩
    | succ j =>
     cases j with
     | zero => cases h; exact ⟨_, _, rfl, rfl, by decide, by decide, Try.underlying22, rfl, fun us h => by cases h⟩
     | succ j =>
      cases j with
      | zero => cases h; exact ⟨_, _, rfl, rfl, by decide, by decide, Try.underlying23, rfl, fun us h => by cases h⟩
      | succ j =>
       cases j with
       | zero => cases h; exact ⟨_, _, rfl, rfl, by decide, by decide, Try.underlying24, rfl, fun us h => by cases h⟩
       | succ j =>
        cases j with
        | zero => cases h; exact ⟨_, _, rfl, rfl, by decide, by decide, Try.underlying25, rfl, fun us h => by cases h⟩
        | succ j =>
         cases h⟩, (fun us hus fs hfs j τ h f hf => by
    cases hus
    rw [Try.underlying27] at hfs
    cases hfs
    cases j with
    | zero => cases h; cases hf; exact ⟨fun k e => by cases e; exact Try.underlying3, fun e => (by cases e), fun e => (by cases e)⟩
    | succ j =>
     cases j with
     | zero => cases h; cases hf; exact ⟨fun k e => (by cases e), fun e => (by cases e), fun e => (by cases e)⟩
     | succ j =>
      cases j with
      | zero => cases h; cases hf; exact ⟨fun k e => (by cases e), fun e => (by cases e), fun e => (by cases e)⟩
      | succ j =>
       cases j with
       | zero => cases h; cases hf; exact ⟨fun k e => (by cases e), fun e => (by cases e), fun e => (by cases e)⟩
       | succ j =>
        cases j with
        | zero => cases h; cases hf; exact ⟨fun k e => (by cases e), fun e => (by cases e), fun e => (by cases e)⟩
        | succ j =>
         cases h), Try.t27, rfl, rfl, fun _ _ => rfl⟩
theorem tn30 : TnOk Try.prog 30 (.fn [.st [.int .i64, .sl 95 (.st [.str, .int .i64, .sl 145 (.st [.int .i64, .sl 3 (.int .i64), .sl 3 (.int .i64)])]), .sl 107 (.st [.int .i64, .int .i64, .bool, .int .i64]), .sl 99 (.st [.sl 148 (.st [.int .i64, .int .i64]), .sl 25 (.sl 3 (.int .i64))]), .sl 3 (.int .i64)], .int .i64] (.int .i64)) := ⟨⟨_, _, _, Try.underlying30⟩, fun _ h => (by cases h), Try.t30, rfl, rfl, fun _ h => by cases h⟩
theorem tn33 : TnOk Try.prog 33 (.sl 79 (.st [.str, .int .i64, .sl 87 (.st [.int .i64, .sl 3 (.int .i64), .sl 3 (.int .i64)])])) := ⟨⟨Try.underlying33, Try.t79, _, rfl, rfl, rfl, rfl, by decide, by decide, fun _ _ => rfl, fun k h => by cases h⟩, fun _ h => (by cases h), Try.t33, rfl, rfl, fun _ _ => rfl⟩
theorem tn34 : TnOk Try.prog 34 (.sl 105 (.st [.int .i64, .int .i64, .bool, .int .i64])) := ⟨⟨Try.underlying34, Try.t105, _, rfl, rfl, rfl, rfl, by decide, by decide, fun _ _ => rfl, fun k h => by cases h⟩, fun _ h => (by cases h), Try.t34, rfl, rfl, fun _ _ => rfl⟩
theorem tn35 : TnOk Try.prog 35 (.sl 91 (.st [.sl 126 (.st [.int .i64, .int .i64]), .sl 25 (.sl 3 (.int .i64))])) := ⟨⟨Try.underlying35, Try.t91, _, rfl, rfl, rfl, rfl, by decide, by decide, fun _ _ => rfl, fun k h => by cases h⟩, fun _ h => (by cases h), Try.t35, rfl, rfl, fun _ _ => rfl⟩
theorem tn36 : TnOk Try.prog 36 (.st [.int .i64, .sl 79 (.st [.str, .int .i64, .sl 87 (.st [.int .i64, .sl 3 (.int .i64), .sl 3 (.int .i64)])]), .sl 105 (.st [.int .i64, .int .i64, .bool, .int .i64]), .sl 91 (.st [.sl 126 (.st [.int .i64, .int .i64]), .sl 25 (.sl 3 (.int .i64))]), .sl 3 (.int .i64)]) := ⟨⟨_, Try.underlying36, Try.eqGuardType36, Try.stoodInHeld36, rfl, fun j τ h => by
    cases j with
    | zero => cases h; exact ⟨_, _, rfl, rfl, by decide, by decide, Try.underlying3, rfl, fun us h => by cases h⟩
    | succ j =>
     cases j with
     | zero => cases h; exact ⟨_, _, rfl, rfl, by decide, by decide, Try.underlying33, rfl, fun us h => by cases h⟩
     | succ j =>
      cases j with
      | zero => cases h; exact ⟨_, _, rfl, rfl, by decide, by decide, Try.underlying34, rfl, fun us h => by cases h⟩
      | succ j =>
       cases j with
       | zero => cases h; exact ⟨_, _, rfl, rfl, by decide, by decide, Try.underlying35, rfl, fun us h => by cases h⟩
       | succ j =>
        cases j with
        | zero => cases h; exact ⟨_, _, rfl, rfl, by decide, by decide, Try.underlying25, rfl, fun us h => by cases h⟩
        | succ j =>
         cases h⟩, (fun us hus fs hfs j τ h f hf => by
    cases hus
    rw [Try.underlying36] at hfs
    cases hfs
    cases j with
    | zero => cases h; cases hf; exact ⟨fun k e => by cases e; exact Try.underlying3, fun e => (by cases e), fun e => (by cases e)⟩
    | succ j =>
     cases j with
     | zero => cases h; cases hf; exact ⟨fun k e => (by cases e), fun e => (by cases e), fun e => (by cases e)⟩
     | succ j =>
      cases j with
      | zero => cases h; cases hf; exact ⟨fun k e => (by cases e), fun e => (by cases e), fun e => (by cases e)⟩
      | succ j =>
       cases j with
       | zero => cases h; cases hf; exact ⟨fun k e => (by cases e), fun e => (by cases e), fun e => (by cases e)⟩
       | succ j =>
        cases j with
        | zero => cases h; cases hf; exact ⟨fun k e => (by cases e), fun e => (by cases e), fun e => (by cases e)⟩
        | succ j =>
         cases h), Try.t36, rfl, rfl, fun _ _ => rfl⟩
theorem tn37 : TnOk Try.prog 37 (.st [.int .i64, .sl 79 (.st [.str, .int .i64, .sl 87 (.st [.int .i64, .sl 3 (.int .i64), .sl 3 (.int .i64)])]), .sl 105 (.st [.int .i64, .int .i64, .bool, .int .i64]), .sl 91 (.st [.sl 126 (.st [.int .i64, .int .i64]), .sl 25 (.sl 3 (.int .i64))]), .sl 3 (.int .i64)]) := ⟨⟨_, Try.underlying37, Try.eqGuardType37, Try.stoodInHeld37, rfl, fun j τ h => by
    cases j with
    | zero => cases h; exact ⟨_, _, rfl, rfl, by decide, by decide, Try.underlying3, rfl, fun us h => by cases h⟩
    | succ j =>
     cases j with
     | zero => cases h; exact ⟨_, _, rfl, rfl, by decide, by decide, Try.underlying33, rfl, fun us h => by cases h⟩
     | succ j =>
      cases j with
      | zero => cases h; exact ⟨_, _, rfl, rfl, by decide, by decide, Try.underlying34, rfl, fun us h => by cases h⟩
      | succ j =>
       cases j with
       | zero => cases h; exact ⟨_, _, rfl, rfl, by decide, by decide, Try.underlying35, rfl, fun us h => by cases h⟩
       | succ j =>
        cases j with
        | zero => cases h; exact ⟨_, _, rfl, rfl, by decide, by decide, Try.underlying25, rfl, fun us h => by cases h⟩
        | succ j =>
         cases h⟩, (fun us hus fs hfs j τ h f hf => by
    cases hus
    rw [Try.underlying37] at hfs
    cases hfs
    cases j with
    | zero => cases h; cases hf; exact ⟨fun k e => by cases e; exact Try.underlying3, fun e => (by cases e), fun e => (by cases e)⟩
    | succ j =>
     cases j with
     | zero => cases h; cases hf; exact ⟨fun k e => (by cases e), fun e => (by cases e), fun e => (by cases e)⟩
     | succ j =>
      cases j with
      | zero => cases h; cases hf; exact ⟨fun k e => (by cases e), fun e => (by cases e), fun e => (by cases e)⟩
      | succ j =>
       cases j with
       | zero => cases h; cases hf; exact ⟨fun k e => (by cases e), fun e => (by cases e), fun e => (by cases e)⟩
       | succ j =>
        cases j with
        | zero => cases h; cases hf; exact ⟨fun k e => (by cases e), fun e => (by cases e), fun e => (by cases e)⟩
        | succ j =>
         cases h), Try.t37, rfl, rfl, fun _ _ => rfl⟩
theorem tn38 : TnOk Try.prog 38 (.fn [.st [.int .i64, .sl 95 (.st [.str, .int .i64, .sl 145 (.st [.int .i64, .sl 3 (.int .i64), .sl 3 (.int .i64)])]), .sl 107 (.st [.int .i64, .int .i64, .bool, .int .i64]), .sl 99 (.st [.sl 148 (.st [.int .i64, .int .i64]), .sl 25 (.sl 3 (.int .i64))]), .sl 3 (.int .i64)]] (.st [.int .i64, .sl 79 (.st [.str, .int .i64, .sl 87 (.st [.int .i64, .sl 3 (.int .i64), .sl 3 (.int .i64)])]), .sl 105 (.st [.int .i64, .int .i64, .bool, .int .i64]), .sl 91 (.st [.sl 126 (.st [.int .i64, .int .i64]), .sl 25 (.sl 3 (.int .i64))]), .sl 3 (.int .i64)])) := ⟨⟨_, _, _, Try.underlying38⟩, fun _ h => (by cases h), Try.t38, rfl, rfl, fun _ h => by cases h⟩
theorem tn41 : TnOk Try.prog 41 (.fn [.st [.int .i64, .sl 79 (.st [.str, .int .i64, .sl 87 (.st [.int .i64, .sl 3 (.int .i64), .sl 3 (.int .i64)])]), .sl 105 (.st [.int .i64, .int .i64, .bool, .int .i64]), .sl 91 (.st [.sl 126 (.st [.int .i64, .int .i64]), .sl 25 (.sl 3 (.int .i64))]), .sl 3 (.int .i64)], .st [.int .i64, .sl 79 (.st [.str, .int .i64, .sl 87 (.st [.int .i64, .sl 3 (.int .i64), .sl 3 (.int .i64)])]), .sl 105 (.st [.int .i64, .int .i64, .bool, .int .i64]), .sl 91 (.st [.sl 126 (.st [.int .i64, .int .i64]), .sl 25 (.sl 3 (.int .i64))]), .sl 3 (.int .i64)]] (.bool)) := ⟨⟨_, _, _, Try.underlying41⟩, fun _ h => (by cases h), Try.t41, rfl, rfl, fun _ h => by cases h⟩
theorem tn44 : TnOk Try.prog 44 (.sl 25 (.sl 3 (.int .i64))) := ⟨⟨Try.underlying44, Try.t25, _, rfl, rfl, rfl, rfl, by decide, by decide, fun _ _ => rfl, fun k h => by cases h⟩, fun _ h => (by cases h), Try.t44, rfl, rfl, fun _ _ => rfl⟩
theorem tn45 : TnOk Try.prog 45 (.fn [.st [.int .i64, .sl 79 (.st [.str, .int .i64, .sl 87 (.st [.int .i64, .sl 3 (.int .i64), .sl 3 (.int .i64)])]), .sl 105 (.st [.int .i64, .int .i64, .bool, .int .i64]), .sl 91 (.st [.sl 126 (.st [.int .i64, .int .i64]), .sl 25 (.sl 3 (.int .i64))]), .sl 3 (.int .i64)]] (.sl 25 (.sl 3 (.int .i64)))) := ⟨⟨_, _, _, Try.underlying45⟩, fun _ h => (by cases h), Try.t45, rfl, rfl, fun _ h => by cases h⟩
theorem tn46 : TnOk Try.prog 46 (.fn [.sl 25 (.sl 3 (.int .i64)), .sl 25 (.sl 3 (.int .i64))] (.bool)) := ⟨⟨_, _, _, Try.underlying46⟩, fun _ h => (by cases h), Try.t46, rfl, rfl, fun _ h => by cases h⟩
theorem tn47 : TnOk Try.prog 47 (.fn [.st [.int .i64, .sl 79 (.st [.str, .int .i64, .sl 87 (.st [.int .i64, .sl 3 (.int .i64), .sl 3 (.int .i64)])]), .sl 105 (.st [.int .i64, .int .i64, .bool, .int .i64]), .sl 91 (.st [.sl 126 (.st [.int .i64, .int .i64]), .sl 25 (.sl 3 (.int .i64))]), .sl 3 (.int .i64)], .int .i64] (.int .i64)) := ⟨⟨_, _, _, Try.underlying47⟩, fun _ h => (by cases h), Try.t47, rfl, rfl, fun _ h => by cases h⟩
theorem tn48 : TnOk Try.prog 48 (.fn [.sl 25 (.sl 3 (.int .i64)), .int .i64] (.int .i64)) := ⟨⟨_, _, _, Try.underlying48⟩, fun _ h => (by cases h), Try.t48, rfl, rfl, fun _ h => by cases h⟩
theorem tn49 : TnOk Try.prog 49 (.fn [.st [.int .i64, .sl 95 (.st [.str, .int .i64, .sl 145 (.st [.int .i64, .sl 3 (.int .i64), .sl 3 (.int .i64)])]), .sl 107 (.st [.int .i64, .int .i64, .bool, .int .i64]), .sl 99 (.st [.sl 148 (.st [.int .i64, .int .i64]), .sl 25 (.sl 3 (.int .i64))]), .sl 3 (.int .i64)]] (.bool)) := ⟨⟨_, _, _, Try.underlying49⟩, fun _ h => (by cases h), Try.t49, rfl, rfl, fun _ h => by cases h⟩
theorem tn59 : TnOk Try.prog 59 (.fn [.sl 95 (.st [.str, .int .i64, .sl 145 (.st [.int .i64, .sl 3 (.int .i64), .sl 3 (.int .i64)])]), .int .i64] (.int .i64)) := ⟨⟨_, _, _, Try.underlying59⟩, fun _ h => (by cases h), Try.t59, rfl, rfl, fun _ h => by cases h⟩
theorem tn60 : TnOk Try.prog 60 (.fn [.sl 107 (.st [.int .i64, .int .i64, .bool, .int .i64]), .int .i64] (.int .i64)) := ⟨⟨_, _, _, Try.underlying60⟩, fun _ h => (by cases h), Try.t60, rfl, rfl, fun _ h => by cases h⟩
theorem tn61 : TnOk Try.prog 61 (.fn [.sl 99 (.st [.sl 148 (.st [.int .i64, .int .i64]), .sl 25 (.sl 3 (.int .i64))]), .int .i64] (.int .i64)) := ⟨⟨_, _, _, Try.underlying61⟩, fun _ h => (by cases h), Try.t61, rfl, rfl, fun _ h => by cases h⟩
theorem tn62 : TnOk Try.prog 62 (.fn [.sl 3 (.int .i64), .int .i64] (.int .i64)) := ⟨⟨_, _, _, Try.underlying62⟩, fun _ h => (by cases h), Try.t62, rfl, rfl, fun _ h => by cases h⟩
theorem tn65 : TnOk Try.prog 65 (.fn [.sl 95 (.st [.str, .int .i64, .sl 145 (.st [.int .i64, .sl 3 (.int .i64), .sl 3 (.int .i64)])])] (.sl 79 (.st [.str, .int .i64, .sl 87 (.st [.int .i64, .sl 3 (.int .i64), .sl 3 (.int .i64)])]))) := ⟨⟨_, _, _, Try.underlying65⟩, fun _ h => (by cases h), Try.t65, rfl, rfl, fun _ h => by cases h⟩
theorem tn66 : TnOk Try.prog 66 (.fn [.sl 107 (.st [.int .i64, .int .i64, .bool, .int .i64])] (.sl 105 (.st [.int .i64, .int .i64, .bool, .int .i64]))) := ⟨⟨_, _, _, Try.underlying66⟩, fun _ h => (by cases h), Try.t66, rfl, rfl, fun _ h => by cases h⟩
theorem tn67 : TnOk Try.prog 67 (.fn [.sl 99 (.st [.sl 148 (.st [.int .i64, .int .i64]), .sl 25 (.sl 3 (.int .i64))])] (.sl 91 (.st [.sl 126 (.st [.int .i64, .int .i64]), .sl 25 (.sl 3 (.int .i64))]))) := ⟨⟨_, _, _, Try.underlying67⟩, fun _ h => (by cases h), Try.t67, rfl, rfl, fun _ h => by cases h⟩
theorem tn68 : TnOk Try.prog 68 (.fn [.sl 3 (.int .i64)] (.sl 3 (.int .i64))) := ⟨⟨_, _, _, Try.underlying68⟩, fun _ h => (by cases h), Try.t68, rfl, rfl, fun _ h => by cases h⟩
theorem tn70 : TnOk Try.prog 70 (.fn [.int .i64] (.bool)) := ⟨⟨_, _, _, Try.underlying70⟩, fun _ h => (by cases h), Try.t70, rfl, rfl, fun _ h => by cases h⟩
theorem tn72 : TnOk Try.prog 72 (.fn [.sl 79 (.st [.str, .int .i64, .sl 87 (.st [.int .i64, .sl 3 (.int .i64), .sl 3 (.int .i64)])]), .sl 79 (.st [.str, .int .i64, .sl 87 (.st [.int .i64, .sl 3 (.int .i64), .sl 3 (.int .i64)])])] (.bool)) := ⟨⟨_, _, _, Try.underlying72⟩, fun _ h => (by cases h), Try.t72, rfl, rfl, fun _ h => by cases h⟩
theorem tn73 : TnOk Try.prog 73 (.fn [.sl 105 (.st [.int .i64, .int .i64, .bool, .int .i64]), .sl 105 (.st [.int .i64, .int .i64, .bool, .int .i64])] (.bool)) := ⟨⟨_, _, _, Try.underlying73⟩, fun _ h => (by cases h), Try.t73, rfl, rfl, fun _ h => by cases h⟩
theorem tn74 : TnOk Try.prog 74 (.fn [.sl 91 (.st [.sl 126 (.st [.int .i64, .int .i64]), .sl 25 (.sl 3 (.int .i64))]), .sl 91 (.st [.sl 126 (.st [.int .i64, .int .i64]), .sl 25 (.sl 3 (.int .i64))])] (.bool)) := ⟨⟨_, _, _, Try.underlying74⟩, fun _ h => (by cases h), Try.t74, rfl, rfl, fun _ h => by cases h⟩
theorem tn75 : TnOk Try.prog 75 (.fn [.sl 3 (.int .i64), .sl 3 (.int .i64)] (.bool)) := ⟨⟨_, _, _, Try.underlying75⟩, fun _ h => (by cases h), Try.t75, rfl, rfl, fun _ h => by cases h⟩
theorem tn76 : TnOk Try.prog 76 (.fn [.st [.int .i64, .sl 79 (.st [.str, .int .i64, .sl 87 (.st [.int .i64, .sl 3 (.int .i64), .sl 3 (.int .i64)])]), .sl 105 (.st [.int .i64, .int .i64, .bool, .int .i64]), .sl 91 (.st [.sl 126 (.st [.int .i64, .int .i64]), .sl 25 (.sl 3 (.int .i64))]), .sl 3 (.int .i64)]] (.bool)) := ⟨⟨_, _, _, Try.underlying76⟩, fun _ h => (by cases h), Try.t76, rfl, rfl, fun _ h => by cases h⟩
theorem tn77 : TnOk Try.prog 77 (.sl 87 (.st [.int .i64, .sl 3 (.int .i64), .sl 3 (.int .i64)])) := ⟨⟨Try.underlying77, Try.t87, _, rfl, rfl, rfl, rfl, by decide, by decide, fun _ _ => rfl, fun k h => by cases h⟩, fun _ h => (by cases h), Try.t77, rfl, rfl, fun _ _ => rfl⟩
theorem tn78 : TnOk Try.prog 78 (.st [.str, .int .i64, .sl 87 (.st [.int .i64, .sl 3 (.int .i64), .sl 3 (.int .i64)])]) := ⟨⟨_, Try.underlying78, Try.eqGuardType78, Try.stoodInHeld78, rfl, fun j τ h => by
    cases j with
    | zero => cases h; exact ⟨_, _, rfl, rfl, by decide, by decide, Try.underlying9, rfl, fun us h => by cases h⟩
    | succ j =>
     cases j with
     | zero => cases h; exact ⟨_, _, rfl, rfl, by decide, by decide, Try.underlying3, rfl, fun us h => by cases h⟩
     | succ j =>
      cases j with
      | zero => cases h; exact ⟨_, _, rfl, rfl, by decide, by decide, Try.underlying77, rfl, fun us h => by cases h⟩
      | succ j =>
       cases h⟩, (fun us hus fs hfs j τ h f hf => by
    cases hus
    rw [Try.underlying78] at hfs
    cases hfs
    cases j with
    | zero => cases h; cases hf; exact ⟨fun k e => (by cases e), fun e => (by cases e), fun _ => Try.underlying9⟩
    | succ j =>
     cases j with
     | zero => cases h; cases hf; exact ⟨fun k e => by cases e; exact Try.underlying3, fun e => (by cases e), fun e => (by cases e)⟩
     | succ j =>
      cases j with
      | zero => cases h; cases hf; exact ⟨fun k e => (by cases e), fun e => (by cases e), fun e => (by cases e)⟩
      | succ j =>
       cases h), Try.t78, rfl, rfl, fun _ _ => rfl⟩
theorem tn79 : TnOk Try.prog 79 (.st [.str, .int .i64, .sl 87 (.st [.int .i64, .sl 3 (.int .i64), .sl 3 (.int .i64)])]) := ⟨⟨_, Try.underlying79, Try.eqGuardType79, Try.stoodInHeld79, rfl, fun j τ h => by
    cases j with
    | zero => cases h; exact ⟨_, _, rfl, rfl, by decide, by decide, Try.underlying9, rfl, fun us h => by cases h⟩
    | succ j =>
     cases j with
     | zero => cases h; exact ⟨_, _, rfl, rfl, by decide, by decide, Try.underlying3, rfl, fun us h => by cases h⟩
     | succ j =>
      cases j with
      | zero => cases h; exact ⟨_, _, rfl, rfl, by decide, by decide, Try.underlying77, rfl, fun us h => by cases h⟩
      | succ j =>
       cases h⟩, (fun us hus fs hfs j τ h f hf => by
    cases hus
    rw [Try.underlying79] at hfs
    cases hfs
    cases j with
    | zero => cases h; cases hf; exact ⟨fun k e => (by cases e), fun e => (by cases e), fun _ => Try.underlying9⟩
    | succ j =>
     cases j with
     | zero => cases h; cases hf; exact ⟨fun k e => by cases e; exact Try.underlying3, fun e => (by cases e), fun e => (by cases e)⟩
     | succ j =>
      cases j with
      | zero => cases h; cases hf; exact ⟨fun k e => (by cases e), fun e => (by cases e), fun e => (by cases e)⟩
      | succ j =>
       cases h), Try.t79, rfl, rfl, fun _ _ => rfl⟩
theorem tn80 : TnOk Try.prog 80 (.fn [.sl 79 (.st [.str, .int .i64, .sl 87 (.st [.int .i64, .sl 3 (.int .i64), .sl 3 (.int .i64)])]), .int .i64] (.int .i64)) := ⟨⟨_, _, _, Try.underlying80⟩, fun _ h => (by cases h), Try.t80, rfl, rfl, fun _ h => by cases h⟩
theorem tn81 : TnOk Try.prog 81 (.fn [.sl 105 (.st [.int .i64, .int .i64, .bool, .int .i64]), .int .i64] (.int .i64)) := ⟨⟨_, _, _, Try.underlying81⟩, fun _ h => (by cases h), Try.t81, rfl, rfl, fun _ h => by cases h⟩
theorem tn82 : TnOk Try.prog 82 (.fn [.sl 91 (.st [.sl 126 (.st [.int .i64, .int .i64]), .sl 25 (.sl 3 (.int .i64))]), .int .i64] (.int .i64)) := ⟨⟨_, _, _, Try.underlying82⟩, fun _ h => (by cases h), Try.t82, rfl, rfl, fun _ h => by cases h⟩
theorem tn86 : TnOk Try.prog 86 (.st [.int .i64, .sl 3 (.int .i64), .sl 3 (.int .i64)]) := ⟨⟨_, Try.underlying86, Try.eqGuardType86, Try.stoodInHeld86, rfl, fun j τ h => by
    cases j with
    | zero => cases h; exact ⟨_, _, rfl, rfl, by decide, by decide, Try.underlying3, rfl, fun us h => by cases h⟩
    | succ j =>
     cases j with
     | zero => cases h; exact ⟨_, _, rfl, rfl, by decide, by decide, Try.underlying25, rfl, fun us h => by cases h⟩
     | succ j =>
      cases j with
      | zero => cases h; exact ⟨_, _, rfl, rfl, by decide, by decide, Try.underlying25, rfl, fun us h => by cases h⟩
      | succ j =>
       cases h⟩, (fun us hus fs hfs j τ h f hf => by
    cases hus
    rw [Try.underlying86] at hfs
    cases hfs
    cases j with
    | zero => cases h; cases hf; exact ⟨fun k e => by cases e; exact Try.underlying3, fun e => (by cases e), fun e => (by cases e)⟩
    | succ j =>
     cases j with
     | zero => cases h; cases hf; exact ⟨fun k e => (by cases e), fun e => (by cases e), fun e => (by cases e)⟩
     | succ j =>
      cases j with
      | zero => cases h; cases hf; exact ⟨fun k e => (by cases e), fun e => (by cases e), fun e => (by cases e)⟩
      | succ j =>
       cases h), Try.t86, rfl, rfl, fun _ _ => rfl⟩
theorem tn87 : TnOk Try.prog 87 (.st [.int .i64, .sl 3 (.int .i64), .sl 3 (.int .i64)]) := ⟨⟨_, Try.underlying87, Try.eqGuardType87, Try.stoodInHeld87, rfl, fun j τ h => by
    cases j with
    | zero => cases h; exact ⟨_, _, rfl, rfl, by decide, by decide, Try.underlying3, rfl, fun us h => by cases h⟩
    | succ j =>
     cases j with
     | zero => cases h; exact ⟨_, _, rfl, rfl, by decide, by decide, Try.underlying25, rfl, fun us h => by cases h⟩
     | succ j =>
      cases j with
      | zero => cases h; exact ⟨_, _, rfl, rfl, by decide, by decide, Try.underlying25, rfl, fun us h => by cases h⟩
      | succ j =>
       cases h⟩, (fun us hus fs hfs j τ h f hf => by
    cases hus
    rw [Try.underlying87] at hfs
    cases hfs
    cases j with
    | zero => cases h; cases hf; exact ⟨fun k e => by cases e; exact Try.underlying3, fun e => (by cases e), fun e => (by cases e)⟩
    | succ j =>
     cases j with
     | zero => cases h; cases hf; exact ⟨fun k e => (by cases e), fun e => (by cases e), fun e => (by cases e)⟩
     | succ j =>
      cases j with
      | zero => cases h; cases hf; exact ⟨fun k e => (by cases e), fun e => (by cases e), fun e => (by cases e)⟩
      | succ j =>
       cases h), Try.t87, rfl, rfl, fun _ _ => rfl⟩
theorem tn88 : TnOk Try.prog 88 (.sl 126 (.st [.int .i64, .int .i64])) := ⟨⟨Try.underlying88, Try.t126, _, rfl, rfl, rfl, rfl, by decide, by decide, fun _ _ => rfl, fun k h => by cases h⟩, fun _ h => (by cases h), Try.t88, rfl, rfl, fun _ _ => rfl⟩
theorem tn90 : TnOk Try.prog 90 (.st [.sl 126 (.st [.int .i64, .int .i64]), .sl 25 (.sl 3 (.int .i64))]) := ⟨⟨_, Try.underlying90, Try.eqGuardType90, Try.stoodInHeld90, rfl, fun j τ h => by
    cases j with
    | zero => cases h; exact ⟨_, _, rfl, rfl, by decide, by decide, Try.underlying88, rfl, fun us h => by cases h⟩
    | succ j =>
     cases j with
     | zero => cases h; exact ⟨_, _, rfl, rfl, by decide, by decide, Try.underlying44, rfl, fun us h => by cases h⟩
     | succ j =>
      cases h⟩, (fun us hus fs hfs j τ h f hf => by
    cases hus
    rw [Try.underlying90] at hfs
    cases hfs
    cases j with
    | zero => cases h; cases hf; exact ⟨fun k e => (by cases e), fun e => (by cases e), fun e => (by cases e)⟩
    | succ j =>
     cases j with
     | zero => cases h; cases hf; exact ⟨fun k e => (by cases e), fun e => (by cases e), fun e => (by cases e)⟩
     | succ j =>
      cases h), Try.t90, rfl, rfl, fun _ _ => rfl⟩
theorem tn91 : TnOk Try.prog 91 (.st [.sl 126 (.st [.int .i64, .int .i64]), .sl 25 (.sl 3 (.int .i64))]) := ⟨⟨_, Try.underlying91, Try.eqGuardType91, Try.stoodInHeld91, rfl, fun j τ h => by
    cases j with
    | zero => cases h; exact ⟨_, _, rfl, rfl, by decide, by decide, Try.underlying88, rfl, fun us h => by cases h⟩
    | succ j =>
     cases j with
     | zero => cases h; exact ⟨_, _, rfl, rfl, by decide, by decide, Try.underlying44, rfl, fun us h => by cases h⟩
     | succ j =>
      cases h⟩, (fun us hus fs hfs j τ h f hf => by
    cases hus
    rw [Try.underlying91] at hfs
    cases hfs
    cases j with
    | zero => cases h; cases hf; exact ⟨fun k e => (by cases e), fun e => (by cases e), fun e => (by cases e)⟩
    | succ j =>
     cases j with
     | zero => cases h; cases hf; exact ⟨fun k e => (by cases e), fun e => (by cases e), fun e => (by cases e)⟩
     | succ j =>
      cases h), Try.t91, rfl, rfl, fun _ _ => rfl⟩
theorem tn92 : TnOk Try.prog 92 (.fn [.st [.str, .int .i64, .sl 145 (.st [.int .i64, .sl 3 (.int .i64), .sl 3 (.int .i64)])], .int .i64] (.int .i64)) := ⟨⟨_, _, _, Try.underlying92⟩, fun _ h => (by cases h), Try.t92, rfl, rfl, fun _ h => by cases h⟩
theorem tn93 : TnOk Try.prog 93 (.sl 145 (.st [.int .i64, .sl 3 (.int .i64), .sl 3 (.int .i64)])) := ⟨⟨Try.underlying93, Try.t145, _, rfl, rfl, rfl, rfl, by decide, by decide, fun _ _ => rfl, fun k h => by cases h⟩, fun _ h => (by cases h), Try.t93, rfl, rfl, fun _ _ => rfl⟩
theorem tn94 : TnOk Try.prog 94 (.st [.str, .int .i64, .sl 145 (.st [.int .i64, .sl 3 (.int .i64), .sl 3 (.int .i64)])]) := ⟨⟨_, Try.underlying94, Try.eqGuardType94, Try.stoodInHeld94, rfl, fun j τ h => by
    cases j with
    | zero => cases h; exact ⟨_, _, rfl, rfl, by decide, by decide, Try.underlying9, rfl, fun us h => by cases h⟩
    | succ j =>
     cases j with
     | zero => cases h; exact ⟨_, _, rfl, rfl, by decide, by decide, Try.underlying3, rfl, fun us h => by cases h⟩
     | succ j =>
      cases j with
      | zero => cases h; exact ⟨_, _, rfl, rfl, by decide, by decide, Try.underlying93, rfl, fun us h => by cases h⟩
      | succ j =>
       cases h⟩, (fun us hus fs hfs j τ h f hf => by
    cases hus
    rw [Try.underlying94] at hfs
    cases hfs
    cases j with
    | zero => cases h; cases hf; exact ⟨fun k e => (by cases e), fun e => (by cases e), fun _ => Try.underlying9⟩
    | succ j =>
     cases j with
     | zero => cases h; cases hf; exact ⟨fun k e => by cases e; exact Try.underlying3, fun e => (by cases e), fun e => (by cases e)⟩
     | succ j =>
      cases j with
      | zero => cases h; cases hf; exact ⟨fun k e => (by cases e), fun e => (by cases e), fun e => (by cases e)⟩
      | succ j =>
       cases h), Try.t94, rfl, rfl, fun _ _ => rfl⟩
theorem tn95 : TnOk Try.prog 95 (.st [.str, .int .i64, .sl 145 (.st [.int .i64, .sl 3 (.int .i64), .sl 3 (.int .i64)])]) := ⟨⟨_, Try.underlying95, Try.eqGuardType95, Try.stoodInHeld95, rfl, fun j τ h => by
    cases j with
    | zero => cases h; exact ⟨_, _, rfl, rfl, by decide, by decide, Try.underlying9, rfl, fun us h => by cases h⟩
    | succ j =>
     cases j with
     | zero => cases h; exact ⟨_, _, rfl, rfl, by decide, by decide, Try.underlying3, rfl, fun us h => by cases h⟩
     | succ j =>
      cases j with
      | zero => cases h; exact ⟨_, _, rfl, rfl, by decide, by decide, Try.underlying93, rfl, fun us h => by cases h⟩
      | succ j =>
       cases h⟩, (fun us hus fs hfs j τ h f hf => by
    cases hus
    rw [Try.underlying95] at hfs
    cases hfs
    cases j with
    | zero => cases h; cases hf; exact ⟨fun k e => (by cases e), fun e => (by cases e), fun _ => Try.underlying9⟩
    | succ j =>
     cases j with
     | zero => cases h; cases hf; exact ⟨fun k e => by cases e; exact Try.underlying3, fun e => (by cases e), fun e => (by cases e)⟩
     | succ j =>
      cases j with
      | zero => cases h; cases hf; exact ⟨fun k e => (by cases e), fun e => (by cases e), fun e => (by cases e)⟩
      | succ j =>
       cases h), Try.t95, rfl, rfl, fun _ _ => rfl⟩
theorem tn96 : TnOk Try.prog 96 (.fn [.st [.sl 148 (.st [.int .i64, .int .i64]), .sl 25 (.sl 3 (.int .i64))], .int .i64] (.int .i64)) := ⟨⟨_, _, _, Try.underlying96⟩, fun _ h => (by cases h), Try.t96, rfl, rfl, fun _ h => by cases h⟩
theorem tn97 : TnOk Try.prog 97 (.sl 148 (.st [.int .i64, .int .i64])) := ⟨⟨Try.underlying97, Try.t148, _, rfl, rfl, rfl, rfl, by decide, by decide, fun _ _ => rfl, fun k h => by cases h⟩, fun _ h => (by cases h), Try.t97, rfl, rfl, fun _ _ => rfl⟩
theorem tn98 : TnOk Try.prog 98 (.st [.sl 148 (.st [.int .i64, .int .i64]), .sl 25 (.sl 3 (.int .i64))]) := ⟨⟨_, Try.underlying98, Try.eqGuardType98, Try.stoodInHeld98, rfl, fun j τ h => by
    cases j with
    | zero => cases h; exact ⟨_, _, rfl, rfl, by decide, by decide, Try.underlying97, rfl, fun us h => by cases h⟩
    | succ j =>
     cases j with
     | zero => cases h; exact ⟨_, _, rfl, rfl, by decide, by decide, Try.underlying44, rfl, fun us h => by cases h⟩
     | succ j =>
      cases h⟩, (fun us hus fs hfs j τ h f hf => by
    cases hus
    rw [Try.underlying98] at hfs
    cases hfs
    cases j with
    | zero => cases h; cases hf; exact ⟨fun k e => (by cases e), fun e => (by cases e), fun e => (by cases e)⟩
    | succ j =>
     cases j with
     | zero => cases h; cases hf; exact ⟨fun k e => (by cases e), fun e => (by cases e), fun e => (by cases e)⟩
     | succ j =>
      cases h), Try.t98, rfl, rfl, fun _ _ => rfl⟩
theorem tn99 : TnOk Try.prog 99 (.st [.sl 148 (.st [.int .i64, .int .i64]), .sl 25 (.sl 3 (.int .i64))]) := ⟨⟨_, Try.underlying99, Try.eqGuardType99, Try.stoodInHeld99, rfl, fun j τ h => by
    cases j with
    | zero => cases h; exact ⟨_, _, rfl, rfl, by decide, by decide, Try.underlying97, rfl, fun us h => by cases h⟩
    | succ j =>
     cases j with
     | zero => cases h; exact ⟨_, _, rfl, rfl, by decide, by decide, Try.underlying44, rfl, fun us h => by cases h⟩
     | succ j =>
      cases h⟩, (fun us hus fs hfs j τ h f hf => by
    cases hus
    rw [Try.underlying99] at hfs
    cases hfs
    cases j with
    | zero => cases h; cases hf; exact ⟨fun k e => (by cases e), fun e => (by cases e), fun e => (by cases e)⟩
    | succ j =>
     cases j with
     | zero => cases h; cases hf; exact ⟨fun k e => (by cases e), fun e => (by cases e), fun e => (by cases e)⟩
     | succ j =>
      cases h), Try.t99, rfl, rfl, fun _ _ => rfl⟩
theorem tn100 : TnOk Try.prog 100 (.fn [.int .i64, .int .i64, .int .i64] (.bool)) := ⟨⟨_, _, _, Try.underlying100⟩, fun _ h => (by cases h), Try.t100, rfl, rfl, fun _ h => by cases h⟩
theorem tn103 : TnOk Try.prog 103 (.fn [.st [.str, .int .i64, .sl 145 (.st [.int .i64, .sl 3 (.int .i64), .sl 3 (.int .i64)])]] (.st [.str, .int .i64, .sl 87 (.st [.int .i64, .sl 3 (.int .i64), .sl 3 (.int .i64)])])) := ⟨⟨_, _, _, Try.underlying103⟩, fun _ h => (by cases h), Try.t103, rfl, rfl, fun _ h => by cases h⟩
theorem tn104 : TnOk Try.prog 104 (.st [.int .i64, .int .i64, .bool, .int .i64]) := ⟨⟨_, Try.underlying104, Try.eqGuardType104, Try.stoodInHeld104, rfl, fun j τ h => by
    cases j with
    | zero => cases h; exact ⟨_, _, rfl, rfl, by decide, by decide, Try.underlying3, rfl, fun us h => by cases h⟩
    | succ j =>
     cases j with
     | zero => cases h; exact ⟨_, _, rfl, rfl, by decide, by decide, Try.underlying3, rfl, fun us h => by cases h⟩
     | succ j =>
      cases j with
      | zero => cases h; exact ⟨_, _, rfl, rfl, by decide, by decide, Try.underlying4, rfl, fun us h => by cases h⟩
      | succ j =>
       cases j with
       | zero => cases h; exact ⟨_, _, rfl, rfl, by decide, by decide, Try.underlying3, rfl, fun us h => by cases h⟩
       | succ j =>
        cases h⟩, (fun us hus fs hfs j τ h f hf => by
    cases hus
    rw [Try.underlying104] at hfs
    cases hfs
    cases j with
    | zero => cases h; cases hf; exact ⟨fun k e => by cases e; exact Try.underlying3, fun e => (by cases e), fun e => (by cases e)⟩
    | succ j =>
     cases j with
     | zero => cases h; cases hf; exact ⟨fun k e => by cases e; exact Try.underlying3, fun e => (by cases e), fun e => (by cases e)⟩
     | succ j =>
      cases j with
      | zero => cases h; cases hf; exact ⟨fun k e => (by cases e), fun _ => Try.underlying4, fun e => (by cases e)⟩
      | succ j =>
       cases j with
       | zero => cases h; cases hf; exact ⟨fun k e => by cases e; exact Try.underlying3, fun e => (by cases e), fun e => (by cases e)⟩
       | succ j =>
        cases h), Try.t104, rfl, rfl, fun _ _ => rfl⟩
theorem tn105 : TnOk Try.prog 105 (.st [.int .i64, .int .i64, .bool, .int .i64]) := ⟨⟨_, Try.underlying105, Try.eqGuardType105, Try.stoodInHeld105, rfl, fun j τ h => by
    cases j with
    | zero => cases h; exact ⟨_, _, rfl, rfl, by decide, by decide, Try.underlying3, rfl, fun us h => by cases h⟩
    | succ j =>
     cases j with
     | zero => cases h; exact ⟨_, _, rfl, rfl, by decide, by decide, Try.underlying3, rfl, fun us h => by cases h⟩
     | succ j =>
      cases j with
      | zero => cases h; exact ⟨_, _, rfl, rfl, by decide, by decide, Try.underlying4, rfl, fun us h => by cases h⟩
      | succ j =>
       cases j with
       | zero => cases h; exact ⟨_, _, rfl, rfl, by decide, by decide, Try.underlying3, rfl, fun us h => by cases h⟩
       | succ j =>
        cases h⟩, (fun us hus fs hfs j τ h f hf => by
    cases hus
    rw [Try.underlying105] at hfs
    cases hfs
    cases j with
    | zero => cases h; cases hf; exact ⟨fun k e => by cases e; exact Try.underlying3, fun e => (by cases e), fun e => (by cases e)⟩
    | succ j =>
     cases j with
     | zero => cases h; cases hf; exact ⟨fun k e => by cases e; exact Try.underlying3, fun e => (by cases e), fun e => (by cases e)⟩
     | succ j =>
      cases j with
      | zero => cases h; cases hf; exact ⟨fun k e => (by cases e), fun _ => Try.underlying4, fun e => (by cases e)⟩
      | succ j =>
       cases j with
       | zero => cases h; cases hf; exact ⟨fun k e => by cases e; exact Try.underlying3, fun e => (by cases e), fun e => (by cases e)⟩
       | succ j =>
        cases h), Try.t105, rfl, rfl, fun _ _ => rfl⟩
theorem tn106 : TnOk Try.prog 106 (.fn [.st [.int .i64, .int .i64, .bool, .int .i64]] (.st [.int .i64, .int .i64, .bool, .int .i64])) := ⟨⟨_, _, _, Try.underlying106⟩, fun _ h => (by cases h), Try.t106, rfl, rfl, fun _ h => by cases h⟩
theorem tn107 : TnOk Try.prog 107 (.st [.int .i64, .int .i64, .bool, .int .i64]) := ⟨⟨_, Try.underlying107, Try.eqGuardType107, Try.stoodInHeld107, rfl, fun j τ h => by
    cases j with
    | zero => cases h; exact ⟨_, _, rfl, rfl, by decide, by decide, Try.underlying3, rfl, fun us h => by cases h⟩
    | succ j =>
     cases j with
     | zero => cases h; exact ⟨_, _, rfl, rfl, by decide, by decide, Try.underlying3, rfl, fun us h => by cases h⟩
     | succ j =>
      cases j with
      | zero => cases h; exact ⟨_, _, rfl, rfl, by decide, by decide, Try.underlying4, rfl, fun us h => by cases h⟩
      | succ j =>
       cases j with
       | zero => cases h; exact ⟨_, _, rfl, rfl, by decide, by decide, Try.underlying3, rfl, fun us h => by cases h⟩
       | succ j =>
        cases h⟩, (fun us hus fs hfs j τ h f hf => by
    cases hus
    rw [Try.underlying107] at hfs
    cases hfs
    cases j with
    | zero => cases h; cases hf; exact ⟨fun k e => by cases e; exact Try.underlying3, fun e => (by cases e), fun e => (by cases e)⟩
    | succ j =>
     cases j with
     | zero => cases h; cases hf; exact ⟨fun k e => by cases e; exact Try.underlying3, fun e => (by cases e), fun e => (by cases e)⟩
     | succ j =>
      cases j with
      | zero => cases h; cases hf; exact ⟨fun k e => (by cases e), fun _ => Try.underlying4, fun e => (by cases e)⟩
      | succ j =>
       cases j with
       | zero => cases h; cases hf; exact ⟨fun k e => by cases e; exact Try.underlying3, fun e => (by cases e), fun e => (by cases e)⟩
       | succ j =>
        cases h), Try.t107, rfl, rfl, fun _ _ => rfl⟩
theorem tn108 : TnOk Try.prog 108 (.fn [.st [.sl 148 (.st [.int .i64, .int .i64]), .sl 25 (.sl 3 (.int .i64))]] (.st [.sl 126 (.st [.int .i64, .int .i64]), .sl 25 (.sl 3 (.int .i64))])) := ⟨⟨_, _, _, Try.underlying108⟩, fun _ h => (by cases h), Try.t108, rfl, rfl, fun _ h => by cases h⟩
theorem tn111 : TnOk Try.prog 111 (.fn [.st [.str, .int .i64, .sl 87 (.st [.int .i64, .sl 3 (.int .i64), .sl 3 (.int .i64)])], .st [.str, .int .i64, .sl 87 (.st [.int .i64, .sl 3 (.int .i64), .sl 3 (.int .i64)])]] (.bool)) := ⟨⟨_, _, _, Try.underlying111⟩, fun _ h => (by cases h), Try.t111, rfl, rfl, fun _ h => by cases h⟩
theorem tn112 : TnOk Try.prog 112 (.fn [.st [.int .i64, .int .i64, .bool, .int .i64], .st [.int .i64, .int .i64, .bool, .int .i64]] (.bool)) := ⟨⟨_, _, _, Try.underlying112⟩, fun _ h => (by cases h), Try.t112, rfl, rfl, fun _ h => by cases h⟩
theorem tn113 : TnOk Try.prog 113 (.fn [.st [.sl 126 (.st [.int .i64, .int .i64]), .sl 25 (.sl 3 (.int .i64))], .st [.sl 126 (.st [.int .i64, .int .i64]), .sl 25 (.sl 3 (.int .i64))]] (.bool)) := ⟨⟨_, _, _, Try.underlying113⟩, fun _ h => (by cases h), Try.t113, rfl, rfl, fun _ h => by cases h⟩
theorem tn114 : TnOk Try.prog 114 (.fn [.st [.str, .int .i64, .sl 87 (.st [.int .i64, .sl 3 (.int .i64), .sl 3 (.int .i64)])], .int .i64, .int .i64] (.bool)) := ⟨⟨_, _, _, Try.underlying114⟩, fun _ h => (by cases h), Try.t114, rfl, rfl, fun _ h => by cases h⟩
theorem tn115 : TnOk Try.prog 115 (.fn [.st [.int .i64, .sl 79 (.st [.str, .int .i64, .sl 87 (.st [.int .i64, .sl 3 (.int .i64), .sl 3 (.int .i64)])]), .sl 105 (.st [.int .i64, .int .i64, .bool, .int .i64]), .sl 91 (.st [.sl 126 (.st [.int .i64, .int .i64]), .sl 25 (.sl 3 (.int .i64))]), .sl 3 (.int .i64)], .str] (.int .i64)) := ⟨⟨_, _, _, Try.underlying115⟩, fun _ h => (by cases h), Try.t115, rfl, rfl, fun _ h => by cases h⟩
theorem tn116 : TnOk Try.prog 116 (.fn [.st [.sl 126 (.st [.int .i64, .int .i64]), .sl 25 (.sl 3 (.int .i64))]] (.bool)) := ⟨⟨_, _, _, Try.underlying116⟩, fun _ h => (by cases h), Try.t116, rfl, rfl, fun _ h => by cases h⟩
theorem tn117 : TnOk Try.prog 117 (.fn [.sl 105 (.st [.int .i64, .int .i64, .bool, .int .i64]), .fn [.st [.int .i64, .int .i64, .bool, .int .i64]] (.bool)] (.bool)) := ⟨⟨_, _, _, Try.underlying117⟩, fun _ h => (by cases h), Try.t117, rfl, rfl, fun _ h => by cases h⟩
theorem tn118 : TnOk Try.prog 118 (.fn [.st [.int .i64, .int .i64, .bool, .int .i64]] (.bool)) := ⟨⟨_, _, _, Try.underlying118⟩, fun _ h => (by cases h), Try.t118, rfl, rfl, fun _ h => by cases h⟩
theorem tn119 : TnOk Try.prog 119 (.fn [.int .i64] (.str)) := ⟨⟨_, _, _, Try.underlying119⟩, fun _ h => (by cases h), Try.t119, rfl, rfl, fun _ h => by cases h⟩
theorem tn120 : TnOk Try.prog 120 (.fn [.sl 87 (.st [.int .i64, .sl 3 (.int .i64), .sl 3 (.int .i64)]), .int .i64] (.int .i64)) := ⟨⟨_, _, _, Try.underlying120⟩, fun _ h => (by cases h), Try.t120, rfl, rfl, fun _ h => by cases h⟩
theorem tn121 : TnOk Try.prog 121 (.fn [.sl 126 (.st [.int .i64, .int .i64]), .int .i64] (.int .i64)) := ⟨⟨_, _, _, Try.underlying121⟩, fun _ h => (by cases h), Try.t121, rfl, rfl, fun _ h => by cases h⟩
theorem tn125 : TnOk Try.prog 125 (.st [.int .i64, .int .i64]) := ⟨⟨_, Try.underlying125, Try.eqGuardType125, Try.stoodInHeld125, rfl, fun j τ h => by
    cases j with
    | zero => cases h; exact ⟨_, _, rfl, rfl, by decide, by decide, Try.underlying3, rfl, fun us h => by cases h⟩
    | succ j =>
     cases j with
     | zero => cases h; exact ⟨_, _, rfl, rfl, by decide, by decide, Try.underlying3, rfl, fun us h => by cases h⟩
     | succ j =>
      cases h⟩, (fun us hus fs hfs j τ h f hf => by
    cases hus
    rw [Try.underlying125] at hfs
    cases hfs
    cases j with
    | zero => cases h; cases hf; exact ⟨fun k e => by cases e; exact Try.underlying3, fun e => (by cases e), fun e => (by cases e)⟩
    | succ j =>
     cases j with
     | zero => cases h; cases hf; exact ⟨fun k e => by cases e; exact Try.underlying3, fun e => (by cases e), fun e => (by cases e)⟩
     | succ j =>
      cases h), Try.t125, rfl, rfl, fun _ _ => rfl⟩
theorem tn126 : TnOk Try.prog 126 (.st [.int .i64, .int .i64]) := ⟨⟨_, Try.underlying126, Try.eqGuardType126, Try.stoodInHeld126, rfl, fun j τ h => by
    cases j with
    | zero => cases h; exact ⟨_, _, rfl, rfl, by decide, by decide, Try.underlying3, rfl, fun us h => by cases h⟩
    | succ j =>
     cases j with
     | zero => cases h; exact ⟨_, _, rfl, rfl, by decide, by decide, Try.underlying3, rfl, fun us h => by cases h⟩
     | succ j =>
      cases h⟩, (fun us hus fs hfs j τ h f hf => by
    cases hus
    rw [Try.underlying126] at hfs
    cases hfs
    cases j with
    | zero => cases h; cases hf; exact ⟨fun k e => by cases e; exact Try.underlying3, fun e => (by cases e), fun e => (by cases e)⟩
    | succ j =>
     cases j with
     | zero => cases h; cases hf; exact ⟨fun k e => by cases e; exact Try.underlying3, fun e => (by cases e), fun e => (by cases e)⟩
     | succ j =>
      cases h), Try.t126, rfl, rfl, fun _ _ => rfl⟩
theorem tn127 : TnOk Try.prog 127 (.fn [.sl 145 (.st [.int .i64, .sl 3 (.int .i64), .sl 3 (.int .i64)]), .int .i64] (.int .i64)) := ⟨⟨_, _, _, Try.underlying127⟩, fun _ h => (by cases h), Try.t127, rfl, rfl, fun _ h => by cases h⟩
theorem tn128 : TnOk Try.prog 128 (.fn [.sl 148 (.st [.int .i64, .int .i64]), .int .i64] (.int .i64)) := ⟨⟨_, _, _, Try.underlying128⟩, fun _ h => (by cases h), Try.t128, rfl, rfl, fun _ h => by cases h⟩
theorem tn129 : TnOk Try.prog 129 (.fn [.sl 145 (.st [.int .i64, .sl 3 (.int .i64), .sl 3 (.int .i64)])] (.sl 87 (.st [.int .i64, .sl 3 (.int .i64), .sl 3 (.int .i64)]))) := ⟨⟨_, _, _, Try.underlying129⟩, fun _ h => (by cases h), Try.t129, rfl, rfl, fun _ h => by cases h⟩
theorem tn130 : TnOk Try.prog 130 (.fn [.sl 148 (.st [.int .i64, .int .i64])] (.sl 126 (.st [.int .i64, .int .i64]))) := ⟨⟨_, _, _, Try.underlying130⟩, fun _ h => (by cases h), Try.t130, rfl, rfl, fun _ h => by cases h⟩
theorem tn131 : TnOk Try.prog 131 (.fn [.sl 25 (.sl 3 (.int .i64))] (.sl 25 (.sl 3 (.int .i64)))) := ⟨⟨_, _, _, Try.underlying131⟩, fun _ h => (by cases h), Try.t131, rfl, rfl, fun _ h => by cases h⟩
theorem tn135 : TnOk Try.prog 135 (.fn [.sl 87 (.st [.int .i64, .sl 3 (.int .i64), .sl 3 (.int .i64)]), .sl 87 (.st [.int .i64, .sl 3 (.int .i64), .sl 3 (.int .i64)])] (.bool)) := ⟨⟨_, _, _, Try.underlying135⟩, fun _ h => (by cases h), Try.t135, rfl, rfl, fun _ h => by cases h⟩
theorem tn136 : TnOk Try.prog 136 (.fn [.sl 126 (.st [.int .i64, .int .i64]), .sl 126 (.st [.int .i64, .int .i64])] (.bool)) := ⟨⟨_, _, _, Try.underlying136⟩, fun _ h => (by cases h), Try.t136, rfl, rfl, fun _ h => by cases h⟩
theorem tn137 : TnOk Try.prog 137 (.fn [.st [.int .i64, .sl 3 (.int .i64), .sl 3 (.int .i64)], .int .i64, .int .i64] (.bool)) := ⟨⟨_, _, _, Try.underlying137⟩, fun _ h => (by cases h), Try.t137, rfl, rfl, fun _ h => by cases h⟩
theorem tn138 : TnOk Try.prog 138 (.fn [.str] (.bool)) := ⟨⟨_, _, _, Try.underlying138⟩, fun _ h => (by cases h), Try.t138, rfl, rfl, fun _ h => by cases h⟩
theorem tn139 : TnOk Try.prog 139 (.fn [.sl 126 (.st [.int .i64, .int .i64])] (.bool)) := ⟨⟨_, _, _, Try.underlying139⟩, fun _ h => (by cases h), Try.t139, rfl, rfl, fun _ h => by cases h⟩
theorem tn140 : TnOk Try.prog 140 (.fn [.sl 79 (.st [.str, .int .i64, .sl 87 (.st [.int .i64, .sl 3 (.int .i64), .sl 3 (.int .i64)])]), .fn [.st [.str, .int .i64, .sl 87 (.st [.int .i64, .sl 3 (.int .i64), .sl 3 (.int .i64)])]] (.bool)] (.int .i64)) := ⟨⟨_, _, _, Try.underlying140⟩, fun _ h => (by cases h), Try.t140, rfl, rfl, fun _ h => by cases h⟩
theorem tn141 : TnOk Try.prog 141 (.fn [.st [.str, .int .i64, .sl 87 (.st [.int .i64, .sl 3 (.int .i64), .sl 3 (.int .i64)])]] (.bool)) := ⟨⟨_, _, _, Try.underlying141⟩, fun _ h => (by cases h), Try.t141, rfl, rfl, fun _ h => by cases h⟩
theorem tn142 : TnOk Try.prog 142 (.fn [.sl 105 (.st [.int .i64, .int .i64, .bool, .int .i64]), .fn [.st [.int .i64, .int .i64, .bool, .int .i64]] (.bool)] (.int .i64)) := ⟨⟨_, _, _, Try.underlying142⟩, fun _ h => (by cases h), Try.t142, rfl, rfl, fun _ h => by cases h⟩
theorem tn143 : TnOk Try.prog 143 (.sl 5 (.int .u8)) := ⟨⟨Try.underlying143, Try.t5, _, rfl, rfl, rfl, rfl, by decide, by decide, fun _ _ => rfl, fun k h => by cases h; exact Try.underlying5⟩, fun _ h => (by cases h), Try.t143, rfl, rfl, fun _ _ => rfl⟩
theorem tn144 : TnOk Try.prog 144 (.fn [.st [.int .i64, .sl 3 (.int .i64), .sl 3 (.int .i64)], .int .i64] (.int .i64)) := ⟨⟨_, _, _, Try.underlying144⟩, fun _ h => (by cases h), Try.t144, rfl, rfl, fun _ h => by cases h⟩
theorem tn145 : TnOk Try.prog 145 (.st [.int .i64, .sl 3 (.int .i64), .sl 3 (.int .i64)]) := ⟨⟨_, Try.underlying145, Try.eqGuardType145, Try.stoodInHeld145, rfl, fun j τ h => by
    cases j with
    | zero => cases h; exact ⟨_, _, rfl, rfl, by decide, by decide, Try.underlying3, rfl, fun us h => by cases h⟩
    | succ j =>
     cases j with
     | zero => cases h; exact ⟨_, _, rfl, rfl, by decide, by decide, Try.underlying25, rfl, fun us h => by cases h⟩
     | succ j =>
      cases j with
      | zero => cases h; exact ⟨_, _, rfl, rfl, by decide, by decide, Try.underlying25, rfl, fun us h => by cases h⟩
      | succ j =>
       cases h⟩, (fun us hus fs hfs j τ h f hf => by
    cases hus
    rw [Try.underlying145] at hfs
    cases hfs
    cases j with
    | zero => cases h; cases hf; exact ⟨fun k e => by cases e; exact Try.underlying3, fun e => (by cases e), fun e => (by cases e)⟩
    | succ j =>
     cases j with
     | zero => cases h; cases hf; exact ⟨fun k e => (by cases e), fun e => (by cases e), fun e => (by cases e)⟩
     | succ j =>
      cases j with
      | zero => cases h; cases hf; exact ⟨fun k e => (by cases e), fun e => (by cases e), fun e => (by cases e)⟩
      | succ j =>
       cases h), Try.t145, rfl, rfl, fun _ _ => rfl⟩
theorem tn146 : TnOk Try.prog 146 (.fn [.st [.int .i64, .sl 3 (.int .i64), .sl 3 (.int .i64)]] (.st [.int .i64, .sl 3 (.int .i64), .sl 3 (.int .i64)])) := ⟨⟨_, _, _, Try.underlying146⟩, fun _ h => (by cases h), Try.t146, rfl, rfl, fun _ h => by cases h⟩
theorem tn147 : TnOk Try.prog 147 (.fn [.st [.int .i64, .int .i64]] (.st [.int .i64, .int .i64])) := ⟨⟨_, _, _, Try.underlying147⟩, fun _ h => (by cases h), Try.t147, rfl, rfl, fun _ h => by cases h⟩
theorem tn148 : TnOk Try.prog 148 (.st [.int .i64, .int .i64]) := ⟨⟨_, Try.underlying148, Try.eqGuardType148, Try.stoodInHeld148, rfl, fun j τ h => by
    cases j with
    | zero => cases h; exact ⟨_, _, rfl, rfl, by decide, by decide, Try.underlying3, rfl, fun us h => by cases h⟩
    | succ j =>
     cases j with
     | zero => cases h; exact ⟨_, _, rfl, rfl, by decide, by decide, Try.underlying3, rfl, fun us h => by cases h⟩
     | succ j =>
      cases h⟩, (fun us hus fs hfs j τ h f hf => by
    cases hus
    rw [Try.underlying148] at hfs
    cases hfs
    cases j with
    | zero => cases h; cases hf; exact ⟨fun k e => by cases e; exact Try.underlying3, fun e => (by cases e), fun e => (by cases e)⟩
    | succ j =>
     cases j with
     | zero => cases h; cases hf; exact ⟨fun k e => by cases e; exact Try.underlying3, fun e => (by cases e), fun e => (by cases e)⟩
     | succ j =>
      cases h), Try.t148, rfl, rfl, fun _ _ => rfl⟩
theorem tn149 : TnOk Try.prog 149 (.fn [.st [.int .i64, .sl 3 (.int .i64), .sl 3 (.int .i64)], .st [.int .i64, .sl 3 (.int .i64), .sl 3 (.int .i64)]] (.bool)) := ⟨⟨_, _, _, Try.underlying149⟩, fun _ h => (by cases h), Try.t149, rfl, rfl, fun _ h => by cases h⟩
theorem tn150 : TnOk Try.prog 150 (.fn [.st [.int .i64, .int .i64], .st [.int .i64, .int .i64]] (.bool)) := ⟨⟨_, _, _, Try.underlying150⟩, fun _ h => (by cases h), Try.t150, rfl, rfl, fun _ h => by cases h⟩
theorem tn151 : TnOk Try.prog 151 (.fn [.sl 3 (.int .i64), .int .i64] (.bool)) := ⟨⟨_, _, _, Try.underlying151⟩, fun _ h => (by cases h), Try.t151, rfl, rfl, fun _ h => by cases h⟩
def tys : List (Nat × Ty) := [(3, .int .i64), (4, .bool), (5, .int .u8), (9, .str), (22, .sl 95 (.st [.str, .int .i64, .sl 145 (.st [.int .i64, .sl 3 (.int .i64), .sl 3 (.int .i64)])])), (23, .sl 107 (.st [.int .i64, .int .i64, .bool, .int .i64])), (24, .sl 99 (.st [.sl 148 (.st [.int .i64, .int .i64]), .sl 25 (.sl 3 (.int .i64))])), (25, .sl 3 (.int .i64)), (26, .st [.int .i64, .sl 95 (.st [.str, .int .i64, .sl 145 (.st [.int .i64, .sl 3 (.int .i64), .sl 3 (.int .i64)])]), .sl 107 (.st [.int .i64, .int .i64, .bool, .int .i64]), .sl 99 (.st [.sl 148 (.st [.int .i64, .int .i64]), .sl 25 (.sl 3 (.int .i64))]), .sl 3 (.int .i64)]), (27, .st [.int .i64, .sl 95 (.st [.str, .int .i64, .sl 145 (.st [.int .i64, .sl 3 (.int .i64), .sl 3 (.int .i64)])]), .sl 107 (.st [.int .i64, .int .i64, .bool, .int .i64]), .sl 99 (.st [.sl 148 (.st [.int .i64, .int .i64]), .sl 25 (.sl 3 (.int .i64))]), .sl 3 (.int .i64)]), (30, .fn [.st [.int .i64, .sl 95 (.st [.str, .int .i64, .sl 145 (.st [.int .i64, .sl 3 (.int .i64), .sl 3 (.int .i64)])]), .sl 107 (.st [.int .i64, .int .i64, .bool, .int .i64]), .sl 99 (.st [.sl 148 (.st [.int .i64, .int .i64]), .sl 25 (.sl 3 (.int .i64))]), .sl 3 (.int .i64)], .int .i64] (.int .i64)), (33, .sl 79 (.st [.str, .int .i64, .sl 87 (.st [.int .i64, .sl 3 (.int .i64), .sl 3 (.int .i64)])])), (34, .sl 105 (.st [.int .i64, .int .i64, .bool, .int .i64])), (35, .sl 91 (.st [.sl 126 (.st [.int .i64, .int .i64]), .sl 25 (.sl 3 (.int .i64))])), (36, .st [.int .i64, .sl 79 (.st [.str, .int .i64, .sl 87 (.st [.int .i64, .sl 3 (.int .i64), .sl 3 (.int .i64)])]), .sl 105 (.st [.int .i64, .int .i64, .bool, .int .i64]), .sl 91 (.st [.sl 126 (.st [.int .i64, .int .i64]), .sl 25 (.sl 3 (.int .i64))]), .sl 3 (.int .i64)]), (37, .st [.int .i64, .sl 79 (.st [.str, .int .i64, .sl 87 (.st [.int .i64, .sl 3 (.int .i64), .sl 3 (.int .i64)])]), .sl 105 (.st [.int .i64, .int .i64, .bool, .int .i64]), .sl 91 (.st [.sl 126 (.st [.int .i64, .int .i64]), .sl 25 (.sl 3 (.int .i64))]), .sl 3 (.int .i64)]), (38, .fn [.st [.int .i64, .sl 95 (.st [.str, .int .i64, .sl 145 (.st [.int .i64, .sl 3 (.int .i64), .sl 3 (.int .i64)])]), .sl 107 (.st [.int .i64, .int .i64, .bool, .int .i64]), .sl 99 (.st [.sl 148 (.st [.int .i64, .int .i64]), .sl 25 (.sl 3 (.int .i64))]), .sl 3 (.int .i64)]] (.st [.int .i64, .sl 79 (.st [.str, .int .i64, .sl 87 (.st [.int .i64, .sl 3 (.int .i64), .sl 3 (.int .i64)])]), .sl 105 (.st [.int .i64, .int .i64, .bool, .int .i64]), .sl 91 (.st [.sl 126 (.st [.int .i64, .int .i64]), .sl 25 (.sl 3 (.int .i64))]), .sl 3 (.int .i64)])), (41, .fn [.st [.int .i64, .sl 79 (.st [.str, .int .i64, .sl 87 (.st [.int .i64, .sl 3 (.int .i64), .sl 3 (.int .i64)])]), .sl 105 (.st [.int .i64, .int .i64, .bool, .int .i64]), .sl 91 (.st [.sl 126 (.st [.int .i64, .int .i64]), .sl 25 (.sl 3 (.int .i64))]), .sl 3 (.int .i64)], .st [.int .i64, .sl 79 (.st [.str, .int .i64, .sl 87 (.st [.int .i64, .sl 3 (.int .i64), .sl 3 (.int .i64)])]), .sl 105 (.st [.int .i64, .int .i64, .bool, .int .i64]), .sl 91 (.st [.sl 126 (.st [.int .i64, .int .i64]), .sl 25 (.sl 3 (.int .i64))]), .sl 3 (.int .i64)]] (.bool)), (44, .sl 25 (.sl 3 (.int .i64))), (45, .fn [.st [.int .i64, .sl 79 (.st [.str, .int .i64, .sl 87 (.st [.int .i64, .sl 3 (.int .i64), .sl 3 (.int .i64)])]), .sl 105 (.st [.int .i64, .int .i64, .bool, .int .i64]), .sl 91 (.st [.sl 126 (.st [.int .i64, .int .i64]), .sl 25 (.sl 3 (.int .i64))]), .sl 3 (.int .i64)]] (.sl 25 (.sl 3 (.int .i64)))), (46, .fn [.sl 25 (.sl 3 (.int .i64)), .sl 25 (.sl 3 (.int .i64))] (.bool)), (47, .fn [.st [.int .i64, .sl 79 (.st [.str, .int .i64, .sl 87 (.st [.int .i64, .sl 3 (.int .i64), .sl 3 (.int .i64)])]), .sl 105 (.st [.int .i64, .int .i64, .bool, .int .i64]), .sl 91 (.st [.sl 126 (.st [.int .i64, .int .i64]), .sl 25 (.sl 3 (.int .i64))]), .sl 3 (.int .i64)], .int .i64] (.int .i64)), (48, .fn [.sl 25 (.sl 3 (.int .i64)), .int .i64] (.int .i64)), (49, .fn [.st [.int .i64, .sl 95 (.st [.str, .int .i64, .sl 145 (.st [.int .i64, .sl 3 (.int .i64), .sl 3 (.int .i64)])]), .sl 107 (.st [.int .i64, .int .i64, .bool, .int .i64]), .sl 99 (.st [.sl 148 (.st [.int .i64, .int .i64]), .sl 25 (.sl 3 (.int .i64))]), .sl 3 (.int .i64)]] (.bool)), (59, .fn [.sl 95 (.st [.str, .int .i64, .sl 145 (.st [.int .i64, .sl 3 (.int .i64), .sl 3 (.int .i64)])]), .int .i64] (.int .i64)), (60, .fn [.sl 107 (.st [.int .i64, .int .i64, .bool, .int .i64]), .int .i64] (.int .i64)), (61, .fn [.sl 99 (.st [.sl 148 (.st [.int .i64, .int .i64]), .sl 25 (.sl 3 (.int .i64))]), .int .i64] (.int .i64)), (62, .fn [.sl 3 (.int .i64), .int .i64] (.int .i64)), (65, .fn [.sl 95 (.st [.str, .int .i64, .sl 145 (.st [.int .i64, .sl 3 (.int .i64), .sl 3 (.int .i64)])])] (.sl 79 (.st [.str, .int .i64, .sl 87 (.st [.int .i64, .sl 3 (.int .i64), .sl 3 (.int .i64)])]))), (66, .fn [.sl 107 (.st [.int .i64, .int .i64, .bool, .int .i64])] (.sl 105 (.st [.int .i64, .int .i64, .bool, .int .i64]))), (67, .fn [.sl 99 (.st [.sl 148 (.st [.int .i64, .int .i64]), .sl 25 (.sl 3 (.int .i64))])] (.sl 91 (.st [.sl 126 (.st [.int .i64, .int .i64]), .sl 25 (.sl 3 (.int .i64))]))), (68, .fn [.sl 3 (.int .i64)] (.sl 3 (.int .i64))), (70, .fn [.int .i64] (.bool)), (72, .fn [.sl 79 (.st [.str, .int .i64, .sl 87 (.st [.int .i64, .sl 3 (.int .i64), .sl 3 (.int .i64)])]), .sl 79 (.st [.str, .int .i64, .sl 87 (.st [.int .i64, .sl 3 (.int .i64), .sl 3 (.int .i64)])])] (.bool)), (73, .fn [.sl 105 (.st [.int .i64, .int .i64, .bool, .int .i64]), .sl 105 (.st [.int .i64, .int .i64, .bool, .int .i64])] (.bool)), (74, .fn [.sl 91 (.st [.sl 126 (.st [.int .i64, .int .i64]), .sl 25 (.sl 3 (.int .i64))]), .sl 91 (.st [.sl 126 (.st [.int .i64, .int .i64]), .sl 25 (.sl 3 (.int .i64))])] (.bool)), (75, .fn [.sl 3 (.int .i64), .sl 3 (.int .i64)] (.bool)), (76, .fn [.st [.int .i64, .sl 79 (.st [.str, .int .i64, .sl 87 (.st [.int .i64, .sl 3 (.int .i64), .sl 3 (.int .i64)])]), .sl 105 (.st [.int .i64, .int .i64, .bool, .int .i64]), .sl 91 (.st [.sl 126 (.st [.int .i64, .int .i64]), .sl 25 (.sl 3 (.int .i64))]), .sl 3 (.int .i64)]] (.bool)), (77, .sl 87 (.st [.int .i64, .sl 3 (.int .i64), .sl 3 (.int .i64)])), (78, .st [.str, .int .i64, .sl 87 (.st [.int .i64, .sl 3 (.int .i64), .sl 3 (.int .i64)])]), (79, .st [.str, .int .i64, .sl 87 (.st [.int .i64, .sl 3 (.int .i64), .sl 3 (.int .i64)])]), (80, .fn [.sl 79 (.st [.str, .int .i64, .sl 87 (.st [.int .i64, .sl 3 (.int .i64), .sl 3 (.int .i64)])]), .int .i64] (.int .i64)), (81, .fn [.sl 105 (.st [.int .i64, .int .i64, .bool, .int .i64]), .int .i64] (.int .i64)), (82, .fn [.sl 91 (.st [.sl 126 (.st [.int .i64, .int .i64]), .sl 25 (.sl 3 (.int .i64))]), .int .i64] (.int .i64)), (86, .st [.int .i64, .sl 3 (.int .i64), .sl 3 (.int .i64)]), (87, .st [.int .i64, .sl 3 (.int .i64), .sl 3 (.int .i64)]), (88, .sl 126 (.st [.int .i64, .int .i64])), (90, .st [.sl 126 (.st [.int .i64, .int .i64]), .sl 25 (.sl 3 (.int .i64))]), (91, .st [.sl 126 (.st [.int .i64, .int .i64]), .sl 25 (.sl 3 (.int .i64))]), (92, .fn [.st [.str, .int .i64, .sl 145 (.st [.int .i64, .sl 3 (.int .i64), .sl 3 (.int .i64)])], .int .i64] (.int .i64)), (93, .sl 145 (.st [.int .i64, .sl 3 (.int .i64), .sl 3 (.int .i64)])), (94, .st [.str, .int .i64, .sl 145 (.st [.int .i64, .sl 3 (.int .i64), .sl 3 (.int .i64)])]), (95, .st [.str, .int .i64, .sl 145 (.st [.int .i64, .sl 3 (.int .i64), .sl 3 (.int .i64)])]), (96, .fn [.st [.sl 148 (.st [.int .i64, .int .i64]), .sl 25 (.sl 3 (.int .i64))], .int .i64] (.int .i64)), (97, .sl 148 (.st [.int .i64, .int .i64])), (98, .st [.sl 148 (.st [.int .i64, .int .i64]), .sl 25 (.sl 3 (.int .i64))]), (99, .st [.sl 148 (.st [.int .i64, .int .i64]), .sl 25 (.sl 3 (.int .i64))]), (100, .fn [.int .i64, .int .i64, .int .i64] (.bool)), (103, .fn [.st [.str, .int .i64, .sl 145 (.st [.int .i64, .sl 3 (.int .i64), .sl 3 (.int .i64)])]] (.st [.str, .int .i64, .sl 87 (.st [.int .i64, .sl 3 (.int .i64), .sl 3 (.int .i64)])])), (104, .st [.int .i64, .int .i64, .bool, .int .i64]), (105, .st [.int .i64, .int .i64, .bool, .int .i64]), (106, .fn [.st [.int .i64, .int .i64, .bool, .int .i64]] (.st [.int .i64, .int .i64, .bool, .int .i64])), (107, .st [.int .i64, .int .i64, .bool, .int .i64]), (108, .fn [.st [.sl 148 (.st [.int .i64, .int .i64]), .sl 25 (.sl 3 (.int .i64))]] (.st [.sl 126 (.st [.int .i64, .int .i64]), .sl 25 (.sl 3 (.int .i64))])), (111, .fn [.st [.str, .int .i64, .sl 87 (.st [.int .i64, .sl 3 (.int .i64), .sl 3 (.int .i64)])], .st [.str, .int .i64, .sl 87 (.st [.int .i64, .sl 3 (.int .i64), .sl 3 (.int .i64)])]] (.bool)), (112, .fn [.st [.int .i64, .int .i64, .bool, .int .i64], .st [.int .i64, .int .i64, .bool, .int .i64]] (.bool)), (113, .fn [.st [.sl 126 (.st [.int .i64, .int .i64]), .sl 25 (.sl 3 (.int .i64))], .st [.sl 126 (.st [.int .i64, .int .i64]), .sl 25 (.sl 3 (.int .i64))]] (.bool)), (114, .fn [.st [.str, .int .i64, .sl 87 (.st [.int .i64, .sl 3 (.int .i64), .sl 3 (.int .i64)])], .int .i64, .int .i64] (.bool)), (115, .fn [.st [.int .i64, .sl 79 (.st [.str, .int .i64, .sl 87 (.st [.int .i64, .sl 3 (.int .i64), .sl 3 (.int .i64)])]), .sl 105 (.st [.int .i64, .int .i64, .bool, .int .i64]), .sl 91 (.st [.sl 126 (.st [.int .i64, .int .i64]), .sl 25 (.sl 3 (.int .i64))]), .sl 3 (.int .i64)], .str] (.int .i64)), (116, .fn [.st [.sl 126 (.st [.int .i64, .int .i64]), .sl 25 (.sl 3 (.int .i64))]] (.bool)), (117, .fn [.sl 105 (.st [.int .i64, .int .i64, .bool, .int .i64]), .fn [.st [.int .i64, .int .i64, .bool, .int .i64]] (.bool)] (.bool)), (118, .fn [.st [.int .i64, .int .i64, .bool, .int .i64]] (.bool)), (119, .fn [.int .i64] (.str)), (120, .fn [.sl 87 (.st [.int .i64, .sl 3 (.int .i64), .sl 3 (.int .i64)]), .int .i64] (.int .i64)), (121, .fn [.sl 126 (.st [.int .i64, .int .i64]), .int .i64] (.int .i64)), (125, .st [.int .i64, .int .i64]), (126, .st [.int .i64, .int .i64]), (127, .fn [.sl 145 (.st [.int .i64, .sl 3 (.int .i64), .sl 3 (.int .i64)]), .int .i64] (.int .i64)), (128, .fn [.sl 148 (.st [.int .i64, .int .i64]), .int .i64] (.int .i64)), (129, .fn [.sl 145 (.st [.int .i64, .sl 3 (.int .i64), .sl 3 (.int .i64)])] (.sl 87 (.st [.int .i64, .sl 3 (.int .i64), .sl 3 (.int .i64)]))), (130, .fn [.sl 148 (.st [.int .i64, .int .i64])] (.sl 126 (.st [.int .i64, .int .i64]))), (131, .fn [.sl 25 (.sl 3 (.int .i64))] (.sl 25 (.sl 3 (.int .i64)))), (135, .fn [.sl 87 (.st [.int .i64, .sl 3 (.int .i64), .sl 3 (.int .i64)]), .sl 87 (.st [.int .i64, .sl 3 (.int .i64), .sl 3 (.int .i64)])] (.bool)), (136, .fn [.sl 126 (.st [.int .i64, .int .i64]), .sl 126 (.st [.int .i64, .int .i64])] (.bool)), (137, .fn [.st [.int .i64, .sl 3 (.int .i64), .sl 3 (.int .i64)], .int .i64, .int .i64] (.bool)), (138, .fn [.str] (.bool)), (139, .fn [.sl 126 (.st [.int .i64, .int .i64])] (.bool)), (140, .fn [.sl 79 (.st [.str, .int .i64, .sl 87 (.st [.int .i64, .sl 3 (.int .i64), .sl 3 (.int .i64)])]), .fn [.st [.str, .int .i64, .sl 87 (.st [.int .i64, .sl 3 (.int .i64), .sl 3 (.int .i64)])]] (.bool)] (.int .i64)), (141, .fn [.st [.str, .int .i64, .sl 87 (.st [.int .i64, .sl 3 (.int .i64), .sl 3 (.int .i64)])]] (.bool)), (142, .fn [.sl 105 (.st [.int .i64, .int .i64, .bool, .int .i64]), .fn [.st [.int .i64, .int .i64, .bool, .int .i64]] (.bool)] (.int .i64)), (143, .sl 5 (.int .u8)), (144, .fn [.st [.int .i64, .sl 3 (.int .i64), .sl 3 (.int .i64)], .int .i64] (.int .i64)), (145, .st [.int .i64, .sl 3 (.int .i64), .sl 3 (.int .i64)]), (146, .fn [.st [.int .i64, .sl 3 (.int .i64), .sl 3 (.int .i64)]] (.st [.int .i64, .sl 3 (.int .i64), .sl 3 (.int .i64)])), (147, .fn [.st [.int .i64, .int .i64]] (.st [.int .i64, .int .i64])), (148, .st [.int .i64, .int .i64]), (149, .fn [.st [.int .i64, .sl 3 (.int .i64), .sl 3 (.int .i64)], .st [.int .i64, .sl 3 (.int .i64), .sl 3 (.int .i64)]] (.bool)), (150, .fn [.st [.int .i64, .int .i64], .st [.int .i64, .int .i64]] (.bool)), (151, .fn [.sl 3 (.int .i64), .int .i64] (.bool))]
theorem tysOk : LkAll (TnOk Try.prog) tys := ⟨tn3, tn4, tn5, tn9, tn22, tn23, tn24, tn25, tn26, tn27, tn30, tn33, tn34, tn35, tn36, tn37, tn38, tn41, tn44, tn45, tn46, tn47, tn48, tn49, tn59, tn60, tn61, tn62, tn65, tn66, tn67, tn68, tn70, tn72, tn73, tn74, tn75, tn76, tn77, tn78, tn79, tn80, tn81, tn82, tn86, tn87, tn88, tn90, tn91, tn92, tn93, tn94, tn95, tn96, tn97, tn98, tn99, tn100, tn103, tn104, tn105, tn106, tn107, tn108, tn111, tn112, tn113, tn114, tn115, tn116, tn117, tn118, tn119, tn120, tn121, tn125, tn126, tn127, tn128, tn129, tn130, tn131, tn135, tn136, tn137, tn138, tn139, tn140, tn141, tn142, tn143, tn144, tn145, tn146, tn147, tn148, tn149, tn150, tn151, trivial⟩
def laws_szIntS (x : ((List Int) × (Int × Unit))) (c : Unit) : (Option (Int × Unit)) :=
  (if (ltZ (subZ .i64 x.2.1 (lenI x.1)) 0) = true then (some ((-1), ())) else (some ((subZ .i64 x.2.1 (lenI x.1)), ())))
def H_laws_szIntS : Hd := ⟨[.sl 3 (.int .i64), .int .i64], [], none, .p, .int .i64, .p, []⟩
def T_laws_szIntS : FSig := ⟨H_laws_szIntS.ps, H_laws_szIntS.cs, H_laws_szIntS.io, H_laws_szIntS.im, H_laws_szIntS.R, H_laws_szIntS.m, laws_szIntS⟩
theorem E_laws_szIntS : fnOf tys [] Try.f30 H_laws_szIntS = T_laws_szIntS := by kernel_rfl
theorem K_laws_szIntS : SigOk Try.prog 30 T_laws_szIntS := (congrArg (SigOk Try.prog 30) E_laws_szIntS).mp (fnOf_ok rfl tysOk trivial Try.func30 (by decide) rfl (fun _ h => by cases h) (nilEq_of (by kernel_rfl)))
def laws_szMode (x : (D_Mode × (Int × Unit))) (c : Unit) : (Option (Int × Unit)) :=
  (Option.bind ((Option.bind (laws_szIntS (x.1.2.1, (x.2.1, ())) ()) fun v0 => (some v0.1)) : (Option Int)) fun v1 => (if (ltZ v1 0) = true then (some ((-1), ())) else (Option.bind ((Option.bind (laws_szIntS (x.1.2.2.1, (v1, ())) ()) fun v2 => (some v2.1)) : (Option Int)) fun v3 => (if (ltZ v3 0) = true then (some ((-1), ())) else (some (v3, ()))))))
def H_laws_szMode : Hd := ⟨[.st [.int .i64, .sl 3 (.int .i64), .sl 3 (.int .i64)], .int .i64], [], none, .p, .int .i64, .p, []⟩
def T_laws_szMode : FSig := ⟨H_laws_szMode.ps, H_laws_szMode.cs, H_laws_szMode.io, H_laws_szMode.im, H_laws_szMode.R, H_laws_szMode.m, laws_szMode⟩
theorem E_laws_szMode : fnOf tys [(30, T_laws_szIntS)] Try.f121 H_laws_szMode = T_laws_szMode := by kernel_rfl
theorem K_laws_szMode : SigOk Try.prog 121 T_laws_szMode := (congrArg (SigOk Try.prog 121) E_laws_szMode).mp (fnOf_ok rfl tysOk ⟨K_laws_szIntS, trivial⟩ Try.func121 (by decide) rfl (fun _ h => by cases h) (nilEq_of (by kernel_rfl)))
def laws_szModeS_L0 : (Int × ((List D_Mode) × (Int × Unit))) → Option (Out (Int × ((List D_Mode) × (Int × Unit))) ((Bool × (Int × ((List D_Mode) × (Int × Unit)))) ⊕ Empty) (Int × Unit)) :=
  (fun v0 => (if (ltZ v0.1 (lenI v0.2.1)) = true then (Option.bind (getI v0.2.1 v0.1) fun v1 => (Option.bind ((Option.bind (laws_szMode (v1, (v0.2.2.1, ())) ()) fun v2 => (some v2.1)) : (Option Int)) fun v3 => (if (ltZ v3 0) = true then (some (Out.ret ((-1), ()))) else (some (Out.norm ((addZ .i64 v0.1 1), (v0.2.1, (v3, ())))))))) else (some (Out.exit (Sum.inl ((ltZ v0.1 (lenI v0.2.1)), (v0.1, (v0.2.1, (v0.2.2.1, ())))))))))
def laws_szModeS (x : ((List D_Mode) × (Int × Unit))) (c : Unit) : (Option (Int × Unit)) :=
  (if (ltZ (subZ .i64 x.2.1 (lenI x.1)) 0) = true then (some ((-1), ())) else (Option.bind (loopN (A := (Int × ((List D_Mode) × (Int × Unit)))) big laws_szModeS_L0 (0, (x.1, ((subZ .i64 x.2.1 (lenI x.1)), ())))) fun v4 => (match v4 with | Out.norm v5 => none | Out.exit v6 => (match ((match v6 with | Sum.inl v9 => (Sum.inl (v9.2.2.2.1, ())) | Sum.inr v10 => (Empty.elim v10)) : ((Int × Unit) ⊕ Empty)) with | Sum.inl v7 => (some (v7.1, ())) | Sum.inr v8 => none) | Out.ret v11 => (some v11))))
def H_laws_szModeS : Hd := ⟨[.sl 145 (.st [.int .i64, .sl 3 (.int .i64), .sl 3 (.int .i64)]), .int .i64], [], none, .p, .int .i64, .p, []⟩
def T_laws_szModeS : FSig := ⟨H_laws_szModeS.ps, H_laws_szModeS.cs, H_laws_szModeS.io, H_laws_szModeS.im, H_laws_szModeS.R, H_laws_szModeS.m, laws_szModeS⟩
theorem E_laws_szModeS : fnOf tys [(121, T_laws_szMode)] Try.f98 H_laws_szModeS = T_laws_szModeS := by kernel_rfl
theorem K_laws_szModeS : SigOk Try.prog 98 T_laws_szModeS := (congrArg (SigOk Try.prog 98) E_laws_szModeS).mp (fnOf_ok rfl tysOk ⟨K_laws_szMode, trivial⟩ Try.func98 (by decide) rfl (fun _ h => by cases h) (nilEq_of (by kernel_rfl)))
def laws_szActivity (x : (D_Activity × (Int × Unit))) (c : Unit) : (Option (Int × Unit)) :=
  (if (ltZ (subZ .i64 x.2.1 (lenI x.1.1)) 0) = true then (some ((-1), ())) else (Option.bind ((Option.bind (laws_szModeS (x.1.2.2.1, ((subZ .i64 x.2.1 (lenI x.1.1)), ())) ()) fun v0 => (some v0.1)) : (Option Int)) fun v1 => (if (ltZ v1 0) = true then (some ((-1), ())) else (some (v1, ())))))
def H_laws_szActivity : Hd := ⟨[.st [.str, .int .i64, .sl 145 (.st [.int .i64, .sl 3 (.int .i64), .sl 3 (.int .i64)])], .int .i64], [], none, .p, .int .i64, .p, []⟩
def T_laws_szActivity : FSig := ⟨H_laws_szActivity.ps, H_laws_szActivity.cs, H_laws_szActivity.io, H_laws_szActivity.im, H_laws_szActivity.R, H_laws_szActivity.m, laws_szActivity⟩
theorem E_laws_szActivity : fnOf tys [(98, T_laws_szModeS)] Try.f62 H_laws_szActivity = T_laws_szActivity := by kernel_rfl
theorem K_laws_szActivity : SigOk Try.prog 62 T_laws_szActivity := (congrArg (SigOk Try.prog 62) E_laws_szActivity).mp (fnOf_ok rfl tysOk ⟨K_laws_szModeS, trivial⟩ Try.func62 (by decide) rfl (fun _ h => by cases h) (nilEq_of (by kernel_rfl)))
def laws_szActivityS_L0 : (Int × ((List D_Activity) × (Int × Unit))) → Option (Out (Int × ((List D_Activity) × (Int × Unit))) ((Bool × (Int × ((List D_Activity) × (Int × Unit)))) ⊕ Empty) (Int × Unit)) :=
  (fun v0 => (if (ltZ v0.1 (lenI v0.2.1)) = true then (Option.bind (getI v0.2.1 v0.1) fun v1 => (Option.bind ((Option.bind (laws_szActivity (v1, (v0.2.2.1, ())) ()) fun v2 => (some v2.1)) : (Option Int)) fun v3 => (if (ltZ v3 0) = true then (some (Out.ret ((-1), ()))) else (some (Out.norm ((addZ .i64 v0.1 1), (v0.2.1, (v3, ())))))))) else (some (Out.exit (Sum.inl ((ltZ v0.1 (lenI v0.2.1)), (v0.1, (v0.2.1, (v0.2.2.1, ())))))))))
def laws_szActivityS (x : ((List D_Activity) × (Int × Unit))) (c : Unit) : (Option (Int × Unit)) :=
  (if (ltZ (subZ .i64 x.2.1 (lenI x.1)) 0) = true then (some ((-1), ())) else (Option.bind (loopN (A := (Int × ((List D_Activity) × (Int × Unit)))) big laws_szActivityS_L0 (0, (x.1, ((subZ .i64 x.2.1 (lenI x.1)), ())))) fun v4 => (match v4 with | Out.norm v5 => none | Out.exit v6 => (match ((match v6 with | Sum.inl v9 => (Sum.inl (v9.2.2.2.1, ())) | Sum.inr v10 => (Empty.elim v10)) : ((Int × Unit) ⊕ Empty)) with | Sum.inl v7 => (some (v7.1, ())) | Sum.inr v8 => none) | Out.ret v11 => (some v11))))
def H_laws_szActivityS : Hd := ⟨[.sl 95 (.st [.str, .int .i64, .sl 145 (.st [.int .i64, .sl 3 (.int .i64), .sl 3 (.int .i64)])]), .int .i64], [], none, .p, .int .i64, .p, []⟩
def T_laws_szActivityS : FSig := ⟨H_laws_szActivityS.ps, H_laws_szActivityS.cs, H_laws_szActivityS.io, H_laws_szActivityS.im, H_laws_szActivityS.R, H_laws_szActivityS.m, laws_szActivityS⟩
theorem E_laws_szActivityS : fnOf tys [(62, T_laws_szActivity)] Try.f27 H_laws_szActivityS = T_laws_szActivityS := by kernel_rfl
theorem K_laws_szActivityS : SigOk Try.prog 27 T_laws_szActivityS := (congrArg (SigOk Try.prog 27) E_laws_szActivityS).mp (fnOf_ok rfl tysOk ⟨K_laws_szActivity, trivial⟩ Try.func27 (by decide) rfl (fun _ h => by cases h) (nilEq_of (by kernel_rfl)))
def laws_szLinkS (x : ((List D_Link) × (Int × Unit))) (c : Unit) : (Option (Int × Unit)) :=
  (if (ltZ (subZ .i64 x.2.1 (lenI x.1)) 0) = true then (some ((-1), ())) else (some ((subZ .i64 x.2.1 (lenI x.1)), ())))
def H_laws_szLinkS : Hd := ⟨[.sl 107 (.st [.int .i64, .int .i64, .bool, .int .i64]), .int .i64], [], none, .p, .int .i64, .p, []⟩
def T_laws_szLinkS : FSig := ⟨H_laws_szLinkS.ps, H_laws_szLinkS.cs, H_laws_szLinkS.io, H_laws_szLinkS.im, H_laws_szLinkS.R, H_laws_szLinkS.m, laws_szLinkS⟩
theorem E_laws_szLinkS : fnOf tys [] Try.f28 H_laws_szLinkS = T_laws_szLinkS := by kernel_rfl
theorem K_laws_szLinkS : SigOk Try.prog 28 T_laws_szLinkS := (congrArg (SigOk Try.prog 28) E_laws_szLinkS).mp (fnOf_ok rfl tysOk trivial Try.func28 (by decide) rfl (fun _ h => by cases h) (nilEq_of (by kernel_rfl)))
def laws_szStepS (x : ((List D_Step) × (Int × Unit))) (c : Unit) : (Option (Int × Unit)) :=
  (if (ltZ (subZ .i64 x.2.1 (lenI x.1)) 0) = true then (some ((-1), ())) else (some ((subZ .i64 x.2.1 (lenI x.1)), ())))
def H_laws_szStepS : Hd := ⟨[.sl 148 (.st [.int .i64, .int .i64]), .int .i64], [], none, .p, .int .i64, .p, []⟩
def T_laws_szStepS : FSig := ⟨H_laws_szStepS.ps, H_laws_szStepS.cs, H_laws_szStepS.io, H_laws_szStepS.im, H_laws_szStepS.R, H_laws_szStepS.m, laws_szStepS⟩
theorem E_laws_szStepS : fnOf tys [] Try.f99 H_laws_szStepS = T_laws_szStepS := by kernel_rfl
theorem K_laws_szStepS : SigOk Try.prog 99 T_laws_szStepS := (congrArg (SigOk Try.prog 99) E_laws_szStepS).mp (fnOf_ok rfl tysOk trivial Try.func99 (by decide) rfl (fun _ h => by cases h) (nilEq_of (by kernel_rfl)))
def laws_szIntSS_L0 : (Int × ((List (List Int)) × (Int × Unit))) → Option (Out (Int × ((List (List Int)) × (Int × Unit))) ((Bool × (Int × ((List (List Int)) × (Int × Unit)))) ⊕ Empty) (Int × Unit)) :=
  (fun v0 => (if (ltZ v0.1 (lenI v0.2.1)) = true then (Option.bind (getI v0.2.1 v0.1) fun v1 => (Option.bind ((Option.bind (laws_szIntS (v1, (v0.2.2.1, ())) ()) fun v2 => (some v2.1)) : (Option Int)) fun v3 => (if (ltZ v3 0) = true then (some (Out.ret ((-1), ()))) else (some (Out.norm ((addZ .i64 v0.1 1), (v0.2.1, (v3, ())))))))) else (some (Out.exit (Sum.inl ((ltZ v0.1 (lenI v0.2.1)), (v0.1, (v0.2.1, (v0.2.2.1, ())))))))))
def laws_szIntSS (x : ((List (List Int)) × (Int × Unit))) (c : Unit) : (Option (Int × Unit)) :=
  (if (ltZ (subZ .i64 x.2.1 (lenI x.1)) 0) = true then (some ((-1), ())) else (Option.bind (loopN (A := (Int × ((List (List Int)) × (Int × Unit)))) big laws_szIntSS_L0 (0, (x.1, ((subZ .i64 x.2.1 (lenI x.1)), ())))) fun v4 => (match v4 with | Out.norm v5 => none | Out.exit v6 => (match ((match v6 with | Sum.inl v9 => (Sum.inl (v9.2.2.2.1, ())) | Sum.inr v10 => (Empty.elim v10)) : ((Int × Unit) ⊕ Empty)) with | Sum.inl v7 => (some (v7.1, ())) | Sum.inr v8 => none) | Out.ret v11 => (some v11))))
def H_laws_szIntSS : Hd := ⟨[.sl 25 (.sl 3 (.int .i64)), .int .i64], [], none, .p, .int .i64, .p, []⟩
def T_laws_szIntSS : FSig := ⟨H_laws_szIntSS.ps, H_laws_szIntSS.cs, H_laws_szIntSS.io, H_laws_szIntSS.im, H_laws_szIntSS.R, H_laws_szIntSS.m, laws_szIntSS⟩
theorem E_laws_szIntSS : fnOf tys [(30, T_laws_szIntS)] Try.f100 H_laws_szIntSS = T_laws_szIntSS := by kernel_rfl
theorem K_laws_szIntSS : SigOk Try.prog 100 T_laws_szIntSS := (congrArg (SigOk Try.prog 100) E_laws_szIntSS).mp (fnOf_ok rfl tysOk ⟨K_laws_szIntS, trivial⟩ Try.func100 (by decide) rfl (fun _ h => by cases h) (nilEq_of (by kernel_rfl)))
def laws_szResource (x : (D_Resource × (Int × Unit))) (c : Unit) : (Option (Int × Unit)) :=
  (Option.bind ((Option.bind (laws_szStepS (x.1.1, (x.2.1, ())) ()) fun v0 => (some v0.1)) : (Option Int)) fun v1 => (if (ltZ v1 0) = true then (some ((-1), ())) else (Option.bind ((Option.bind (laws_szIntSS (x.1.2.1, (v1, ())) ()) fun v2 => (some v2.1)) : (Option Int)) fun v3 => (if (ltZ v3 0) = true then (some ((-1), ())) else (some (v3, ()))))))
def H_laws_szResource : Hd := ⟨[.st [.sl 148 (.st [.int .i64, .int .i64]), .sl 25 (.sl 3 (.int .i64))], .int .i64], [], none, .p, .int .i64, .p, []⟩
def T_laws_szResource : FSig := ⟨H_laws_szResource.ps, H_laws_szResource.cs, H_laws_szResource.io, H_laws_szResource.im, H_laws_szResource.R, H_laws_szResource.m, laws_szResource⟩
theorem E_laws_szResource : fnOf tys [(99, T_laws_szStepS), (100, T_laws_szIntSS)] Try.f63 H_laws_szResource = T_laws_szResource := by kernel_rfl
theorem K_laws_szResource : SigOk Try.prog 63 T_laws_szResource := (congrArg (SigOk Try.prog 63) E_laws_szResource).mp (fnOf_ok rfl tysOk ⟨K_laws_szStepS, K_laws_szIntSS, trivial⟩ Try.func63 (by decide) rfl (fun _ h => by cases h) (nilEq_of (by kernel_rfl)))
def laws_szResourceS_L0 : (Int × ((List D_Resource) × (Int × Unit))) → Option (Out (Int × ((List D_Resource) × (Int × Unit))) ((Bool × (Int × ((List D_Resource) × (Int × Unit)))) ⊕ Empty) (Int × Unit)) :=
  (fun v0 => (if (ltZ v0.1 (lenI v0.2.1)) = true then (Option.bind (getI v0.2.1 v0.1) fun v1 => (Option.bind ((Option.bind (laws_szResource (v1, (v0.2.2.1, ())) ()) fun v2 => (some v2.1)) : (Option Int)) fun v3 => (if (ltZ v3 0) = true then (some (Out.ret ((-1), ()))) else (some (Out.norm ((addZ .i64 v0.1 1), (v0.2.1, (v3, ())))))))) else (some (Out.exit (Sum.inl ((ltZ v0.1 (lenI v0.2.1)), (v0.1, (v0.2.1, (v0.2.2.1, ())))))))))
def laws_szResourceS (x : ((List D_Resource) × (Int × Unit))) (c : Unit) : (Option (Int × Unit)) :=
  (if (ltZ (subZ .i64 x.2.1 (lenI x.1)) 0) = true then (some ((-1), ())) else (Option.bind (loopN (A := (Int × ((List D_Resource) × (Int × Unit)))) big laws_szResourceS_L0 (0, (x.1, ((subZ .i64 x.2.1 (lenI x.1)), ())))) fun v4 => (match v4 with | Out.norm v5 => none | Out.exit v6 => (match ((match v6 with | Sum.inl v9 => (Sum.inl (v9.2.2.2.1, ())) | Sum.inr v10 => (Empty.elim v10)) : ((Int × Unit) ⊕ Empty)) with | Sum.inl v7 => (some (v7.1, ())) | Sum.inr v8 => none) | Out.ret v11 => (some v11))))
def H_laws_szResourceS : Hd := ⟨[.sl 99 (.st [.sl 148 (.st [.int .i64, .int .i64]), .sl 25 (.sl 3 (.int .i64))]), .int .i64], [], none, .p, .int .i64, .p, []⟩
def T_laws_szResourceS : FSig := ⟨H_laws_szResourceS.ps, H_laws_szResourceS.cs, H_laws_szResourceS.io, H_laws_szResourceS.im, H_laws_szResourceS.R, H_laws_szResourceS.m, laws_szResourceS⟩
theorem E_laws_szResourceS : fnOf tys [(63, T_laws_szResource)] Try.f29 H_laws_szResourceS = T_laws_szResourceS := by kernel_rfl
theorem K_laws_szResourceS : SigOk Try.prog 29 T_laws_szResourceS := (congrArg (SigOk Try.prog 29) E_laws_szResourceS).mp (fnOf_ok rfl tysOk ⟨K_laws_szResource, trivial⟩ Try.func29 (by decide) rfl (fun _ h => by cases h) (nilEq_of (by kernel_rfl)))
def laws_szProject (x : (D_Project × (Int × Unit))) (c : Unit) : (Option (Int × Unit)) :=
  (Option.bind ((Option.bind (laws_szActivityS (x.1.2.1, (x.2.1, ())) ()) fun v0 => (some v0.1)) : (Option Int)) fun v1 => (if (ltZ v1 0) = true then (some ((-1), ())) else (Option.bind ((Option.bind (laws_szLinkS (x.1.2.2.1, (v1, ())) ()) fun v2 => (some v2.1)) : (Option Int)) fun v3 => (if (ltZ v3 0) = true then (some ((-1), ())) else (Option.bind ((Option.bind (laws_szResourceS (x.1.2.2.2.1, (v3, ())) ()) fun v4 => (some v4.1)) : (Option Int)) fun v5 => (if (ltZ v5 0) = true then (some ((-1), ())) else (Option.bind ((Option.bind (laws_szIntS (x.1.2.2.2.2.1, (v5, ())) ()) fun v6 => (some v6.1)) : (Option Int)) fun v7 => (if (ltZ v7 0) = true then (some ((-1), ())) else (some (v7, ()))))))))))
def H_laws_szProject : Hd := ⟨[.st [.int .i64, .sl 95 (.st [.str, .int .i64, .sl 145 (.st [.int .i64, .sl 3 (.int .i64), .sl 3 (.int .i64)])]), .sl 107 (.st [.int .i64, .int .i64, .bool, .int .i64]), .sl 99 (.st [.sl 148 (.st [.int .i64, .int .i64]), .sl 25 (.sl 3 (.int .i64))]), .sl 3 (.int .i64)], .int .i64], [], none, .p, .int .i64, .p, []⟩
def T_laws_szProject : FSig := ⟨H_laws_szProject.ps, H_laws_szProject.cs, H_laws_szProject.io, H_laws_szProject.im, H_laws_szProject.R, H_laws_szProject.m, laws_szProject⟩
theorem E_laws_szProject : fnOf tys [(27, T_laws_szActivityS), (28, T_laws_szLinkS), (29, T_laws_szResourceS), (30, T_laws_szIntS)] Try.f7 H_laws_szProject = T_laws_szProject := by kernel_rfl
theorem K_laws_szProject : SigOk Try.prog 7 T_laws_szProject := (congrArg (SigOk Try.prog 7) E_laws_szProject).mp (fnOf_ok rfl tysOk ⟨K_laws_szActivityS, K_laws_szLinkS, K_laws_szResourceS, K_laws_szIntS, trivial⟩ Try.func7 (by decide) rfl (fun _ h => by cases h) (nilEq_of (by kernel_rfl)))
def spec_l01In (x : (Int × D_Step)) (c : Unit) : (Option (Bool × Unit)) :=
  (Option.bind ((if (leZ x.2.1 x.1) = true then (some ((leZ x.1 x.2.2.1), ())) else (some (false, ()))) : (Option (Bool × Unit))) fun v0 => (some (v0.1, ())))
def H_spec_l01In : Hd := ⟨[.int .i64, .int .i64, .int .i64], [], none, .p, .bool, .p, []⟩
def T_spec_l01In : FSig := ⟨H_spec_l01In.ps, H_spec_l01In.cs, H_spec_l01In.io, H_spec_l01In.im, H_spec_l01In.R, H_spec_l01In.m, spec_l01In⟩
theorem E_spec_l01In : fnOf tys [] Try.f64 H_spec_l01In = T_spec_l01In := by kernel_rfl
theorem K_spec_l01In : SigOk Try.prog 64 T_spec_l01In := (congrArg (SigOk Try.prog 64) E_spec_l01In).mp (fnOf_ok rfl tysOk trivial Try.func64 (by decide) rfl (fun _ h => by cases h) (nilEq_of (by kernel_rfl)))
def spec_l04Nums_L0 : (Int × (Int × ((List Int) × ((List Int) × (Int × Unit))))) → Option (Out (Int × (Int × ((List Int) × ((List Int) × (Int × Unit))))) ((Bool × (Int × (Int × ((List Int) × ((List Int) × (Int × Unit)))))) ⊕ Empty) (Bool × Unit)) :=
  (fun v0 => (if (ltZ v0.1 v0.2.1) = true then (Option.bind (getI v0.2.2.1 v0.1) fun v1 => (Option.bind ((Option.bind (spec_l01In (v1, (0, (20, ()))) ()) fun v2 => (some v2.1)) : (Option Bool)) fun v3 => (if (notB v3) = true then (some (Out.ret (false, ()))) else (some (Out.norm ((addZ .i64 v0.1 1), (v0.2.1, (v0.2.2.1, (v0.2.2.2.1, (v0.2.2.2.2.1, ())))))))))) else (some (Out.exit (Sum.inl ((ltZ v0.1 v0.2.1), (v0.1, (v0.2.1, (v0.2.2.1, (v0.2.2.2.1, (v0.2.2.2.2.1, ())))))))))))
def spec_l04Nums (x : ((List Int) × (Int × Unit))) (c : Unit) : (Option (Bool × Unit)) :=
  (Option.bind (loopN (A := (Int × (Int × ((List Int) × ((List Int) × (Int × Unit)))))) big spec_l04Nums_L0 (0, ((lenI x.1), (x.1, (x.1, (x.2.1, ())))))) fun v4 => (match v4 with | Out.norm v5 => none | Out.exit v6 => (match ((match v6 with | Sum.inl v9 => (Sum.inl (v9.2.2.2.2.1, (v9.2.2.2.2.2.1, ()))) | Sum.inr v10 => (Empty.elim v10)) : (((List Int) × (Int × Unit)) ⊕ Empty)) with | Sum.inl v7 => (some ((eqZ (lenI v7.1) v7.2.1), ())) | Sum.inr v8 => none) | Out.ret v11 => (some v11)))
def H_spec_l04Nums : Hd := ⟨[.sl 3 (.int .i64), .int .i64], [], none, .p, .bool, .p, []⟩
def T_spec_l04Nums : FSig := ⟨H_spec_l04Nums.ps, H_spec_l04Nums.cs, H_spec_l04Nums.io, H_spec_l04Nums.im, H_spec_l04Nums.R, H_spec_l04Nums.m, spec_l04Nums⟩
theorem E_spec_l04Nums : fnOf tys [(64, T_spec_l01In)] Try.f126 H_spec_l04Nums = T_spec_l04Nums := by kernel_rfl
theorem K_spec_l04Nums : SigOk Try.prog 126 T_spec_l04Nums := (congrArg (SigOk Try.prog 126) E_spec_l04Nums).mp (fnOf_ok rfl tysOk ⟨K_spec_l01In, trivial⟩ Try.func126 (by decide) rfl (fun _ h => by cases h) (nilEq_of (by kernel_rfl)))
def spec_ModeOk (x : (D_Mode × D_Step)) (c : Unit) : (Option (Bool × Unit)) :=
  (Option.bind ((Option.bind (spec_l01In (x.1.1, (1, (12, ()))) ()) fun v0 => (some v0.1)) : (Option Bool)) fun v1 => (Option.bind ((if v1 = true then (Option.bind ((Option.bind (spec_l04Nums (x.1.2.1, (x.2.1, ())) ()) fun v2 => (some v2.1)) : (Option Bool)) fun v3 => (Option.bind ((if v3 = true then (Option.bind ((Option.bind (spec_l04Nums (x.1.2.2.1, (x.2.2.1, ())) ()) fun v4 => (some v4.1)) : (Option Bool)) fun v5 => (some (v5, ()))) else (some (false, ()))) : (Option (Bool × Unit))) fun v6 => (some (v6.1, ())))) else (some (false, ()))) : (Option (Bool × Unit))) fun v7 => (some (v7.1, ()))))
def H_spec_ModeOk : Hd := ⟨[.st [.int .i64, .sl 3 (.int .i64), .sl 3 (.int .i64)], .int .i64, .int .i64], [], none, .p, .bool, .p, []⟩
def T_spec_ModeOk : FSig := ⟨H_spec_ModeOk.ps, H_spec_ModeOk.cs, H_spec_ModeOk.io, H_spec_ModeOk.im, H_spec_ModeOk.R, H_spec_ModeOk.m, spec_ModeOk⟩
theorem E_spec_ModeOk : fnOf tys [(64, T_spec_l01In), (126, T_spec_l04Nums)] Try.f112 H_spec_ModeOk = T_spec_ModeOk := by kernel_rfl
theorem K_spec_ModeOk : SigOk Try.prog 112 T_spec_ModeOk := (congrArg (SigOk Try.prog 112) E_spec_ModeOk).mp (fnOf_ok rfl tysOk ⟨K_spec_l01In, K_spec_l04Nums, trivial⟩ Try.func112 (by decide) rfl (fun _ h => by cases h) (nilEq_of (by kernel_rfl)))
def spec_IsName_L0 : (Int × ((List UInt8) × Unit)) → Option (Out (Int × ((List UInt8) × Unit)) ((Bool × (Int × ((List UInt8) × Unit))) ⊕ Empty) (Bool × Unit)) :=
  (fun v0 => (if (ltZ v0.1 (lenI v0.2.1)) = true then (Option.bind (byteAt v0.2.1 v0.1) fun v1 => (Option.bind ((if (leZ 97 v1) = true then (Option.bind (byteAt v0.2.1 v0.1) fun v2 => (some ((leZ v2 122), (v0.1, (v0.2.1, ()))))) else (some (false, (v0.1, (v0.2.1, ()))))) : (Option (Bool × (Int × ((List UInt8) × Unit))))) fun v3 => (Option.bind ((if (notB v3.1) = true then (Option.bind ((if (eqZ v3.2.1 0) = true then (some (true, (v3.2.1, (v3.2.2.1, ())))) else (Option.bind (byteAt v3.2.2.1 v3.2.1) fun v4 => (Option.bind ((if (ltZ v4 48) = true then (some (true, (v3.2.1, (v3.2.2.1, ())))) else (Option.bind (byteAt v3.2.2.1 v3.2.1) fun v5 => (some ((ltZ 57 v5), (v3.2.1, (v3.2.2.1, ())))))) : (Option (Bool × (Int × ((List UInt8) × Unit))))) fun v6 => (some (v6.1, (v6.2.1, (v6.2.2.1, ()))))))) : (Option (Bool × (Int × ((List UInt8) × Unit))))) fun v7 => (some (v7.1, (v7.2.1, (v7.2.2.1, ()))))) else (some (false, (v3.2.1, (v3.2.2.1, ()))))) : (Option (Bool × (Int × ((List UInt8) × Unit))))) fun v8 => (if v8.1 = true then (some (Out.ret (false, ()))) else (some (Out.norm ((addZ .i64 v8.2.1 1), (v8.2.2.1, ())))))))) else (some (Out.exit (Sum.inl ((ltZ v0.1 (lenI v0.2.1)), (v0.1, (v0.2.1, ()))))))))
def spec_IsName (x : ((List UInt8) × Unit)) (c : Unit) : (Option (Bool × Unit)) :=
  (Option.bind (loopN (A := (Int × ((List UInt8) × Unit))) big spec_IsName_L0 (0, (x.1, ()))) fun v9 => (match v9 with | Out.norm v10 => none | Out.exit v11 => (match ((match v11 with | Sum.inl v16 => (Sum.inl (v16.2.2.1, ())) | Sum.inr v17 => (Empty.elim v17)) : (((List UInt8) × Unit) ⊕ Empty)) with | Sum.inl v12 => (Option.bind ((Option.bind (spec_l01In ((lenI v12.1), (1, (8, ()))) ()) fun v13 => (some v13.1)) : (Option Bool)) fun v14 => (some (v14, ()))) | Sum.inr v15 => none) | Out.ret v18 => (some v18)))
def H_spec_IsName : Hd := ⟨[.str], [], none, .p, .bool, .p, []⟩
def T_spec_IsName : FSig := ⟨H_spec_IsName.ps, H_spec_IsName.cs, H_spec_IsName.io, H_spec_IsName.im, H_spec_IsName.R, H_spec_IsName.m, spec_IsName⟩
theorem E_spec_IsName : fnOf tys [(64, T_spec_l01In)] Try.f113 H_spec_IsName = T_spec_IsName := by kernel_rfl
theorem K_spec_IsName : SigOk Try.prog 113 T_spec_IsName := (congrArg (SigOk Try.prog 113) E_spec_IsName).mp (fnOf_ok rfl tysOk ⟨K_spec_l01In, trivial⟩ Try.func113 (by decide) rfl (fun _ h => by cases h) (nilEq_of (by kernel_rfl)))
def spec_ActivityOk_L0 : (Int × (Int × ((List D_Mode) × (Int × (Int × (D_Activity × Unit)))))) → Option (Out (Int × (Int × ((List D_Mode) × (Int × (Int × (D_Activity × Unit)))))) ((Bool × (Int × (Int × ((List D_Mode) × (Int × (Int × (D_Activity × Unit))))))) ⊕ Empty) (Bool × Unit)) :=
  (fun v0 => (if (ltZ v0.1 v0.2.1) = true then (Option.bind (getI v0.2.2.1 v0.1) fun v1 => (Option.bind ((Option.bind (spec_ModeOk (v1, (v0.2.2.2.1, (v0.2.2.2.2.1, ()))) ()) fun v2 => (some v2.1)) : (Option Bool)) fun v3 => (if (notB v3) = true then (some (Out.ret (false, ()))) else (some (Out.norm ((addZ .i64 v0.1 1), (v0.2.1, (v0.2.2.1, (v0.2.2.2.1, (v0.2.2.2.2.1, (v0.2.2.2.2.2.1, ()))))))))))) else (some (Out.exit (Sum.inl ((ltZ v0.1 v0.2.1), (v0.1, (v0.2.1, (v0.2.2.1, (v0.2.2.2.1, (v0.2.2.2.2.1, (v0.2.2.2.2.2.1, ()))))))))))))
def spec_ActivityOk (x : (D_Activity × D_Step)) (c : Unit) : (Option (Bool × Unit)) :=
  (Option.bind (loopN (A := (Int × (Int × ((List D_Mode) × (Int × (Int × (D_Activity × Unit))))))) big spec_ActivityOk_L0 (0, ((lenI x.1.2.2.1), (x.1.2.2.1, (x.2.1, (x.2.2.1, (x.1, ()))))))) fun v4 => (match v4 with | Out.norm v5 => none | Out.exit v6 => (match ((match v6 with | Sum.inl v17 => (Sum.inl (v17.2.2.2.2.2.2.1, ())) | Sum.inr v18 => (Empty.elim v18)) : ((D_Activity × Unit) ⊕ Empty)) with | Sum.inl v7 => (Option.bind ((Option.bind (spec_IsName (v7.1.1, ()) ()) fun v8 => (some v8.1)) : (Option Bool)) fun v9 => (Option.bind ((if v9 = true then (Option.bind ((Option.bind (spec_l01In (v7.1.2.1, (0, (3, ()))) ()) fun v10 => (some v10.1)) : (Option Bool)) fun v11 => (Option.bind ((if v11 = true then (Option.bind ((Option.bind (spec_l01In ((lenI v7.1.2.2.1), (1, (3, ()))) ()) fun v12 => (some v12.1)) : (Option Bool)) fun v13 => (some (v13, ()))) else (some (false, ()))) : (Option (Bool × Unit))) fun v14 => (some (v14.1, ())))) else (some (false, ()))) : (Option (Bool × Unit))) fun v15 => (some (v15.1, ())))) | Sum.inr v16 => none) | Out.ret v19 => (some v19)))
def H_spec_ActivityOk : Hd := ⟨[.st [.str, .int .i64, .sl 87 (.st [.int .i64, .sl 3 (.int .i64), .sl 3 (.int .i64)])], .int .i64, .int .i64], [], none, .p, .bool, .p, []⟩
def T_spec_ActivityOk : FSig := ⟨H_spec_ActivityOk.ps, H_spec_ActivityOk.cs, H_spec_ActivityOk.io, H_spec_ActivityOk.im, H_spec_ActivityOk.R, H_spec_ActivityOk.m, spec_ActivityOk⟩
theorem E_spec_ActivityOk : fnOf tys [(64, T_spec_l01In), (112, T_spec_ModeOk), (113, T_spec_IsName)] Try.f77 H_spec_ActivityOk = T_spec_ActivityOk := by kernel_rfl
theorem K_spec_ActivityOk : SigOk Try.prog 77 T_spec_ActivityOk := (congrArg (SigOk Try.prog 77) E_spec_ActivityOk).mp (fnOf_ok rfl tysOk ⟨K_spec_l01In, K_spec_ModeOk, K_spec_IsName, trivial⟩ Try.func77 (by decide) rfl (fun _ h => by cases h) (nilEq_of (by kernel_rfl)))
def spec_ActivityIndex_L0 : (Int × (Int × ((List D_Activity) × ((List UInt8) × Unit)))) → Option (Out (Int × (Int × ((List D_Activity) × ((List UInt8) × Unit)))) ((Bool × (Int × (Int × ((List D_Activity) × ((List UInt8) × Unit))))) ⊕ Empty) (Int × Unit)) :=
  (fun v0 => (if (ltZ v0.1 v0.2.1) = true then (Option.bind (getI v0.2.2.1 v0.1) fun v1 => (if (eqS v1.1 v0.2.2.2.1) = true then (some (Out.ret (v0.1, ()))) else (some (Out.norm ((addZ .i64 v0.1 1), (v0.2.1, (v0.2.2.1, (v0.2.2.2.1, ())))))))) else (some (Out.exit (Sum.inl ((ltZ v0.1 v0.2.1), (v0.1, (v0.2.1, (v0.2.2.1, (v0.2.2.2.1, ()))))))))))
def spec_ActivityIndex (x : (D_Project × ((List UInt8) × Unit))) (c : Unit) : (Option (Int × Unit)) :=
  (Option.bind (loopN (A := (Int × (Int × ((List D_Activity) × ((List UInt8) × Unit))))) big spec_ActivityIndex_L0 (0, ((lenI x.1.2.1), (x.1.2.1, (x.2.1, ()))))) fun v2 => (match v2 with | Out.norm v3 => none | Out.exit v4 => (match ((match v4 with | Sum.inl v7 => (Sum.inl ()) | Sum.inr v8 => (Empty.elim v8)) : (Unit ⊕ Empty)) with | Sum.inl v5 => (some ((-1), ())) | Sum.inr v6 => none) | Out.ret v9 => (some v9)))
def H_spec_ActivityIndex : Hd := ⟨[.st [.int .i64, .sl 79 (.st [.str, .int .i64, .sl 87 (.st [.int .i64, .sl 3 (.int .i64), .sl 3 (.int .i64)])]), .sl 105 (.st [.int .i64, .int .i64, .bool, .int .i64]), .sl 91 (.st [.sl 126 (.st [.int .i64, .int .i64]), .sl 25 (.sl 3 (.int .i64))]), .sl 3 (.int .i64)], .str], [], none, .p, .int .i64, .p, []⟩
def T_spec_ActivityIndex : FSig := ⟨H_spec_ActivityIndex.ps, H_spec_ActivityIndex.cs, H_spec_ActivityIndex.io, H_spec_ActivityIndex.im, H_spec_ActivityIndex.R, H_spec_ActivityIndex.m, spec_ActivityIndex⟩
theorem E_spec_ActivityIndex : fnOf tys [] Try.f78 H_spec_ActivityIndex = T_spec_ActivityIndex := by kernel_rfl
theorem K_spec_ActivityIndex : SigOk Try.prog 78 T_spec_ActivityIndex := (congrArg (SigOk Try.prog 78) E_spec_ActivityIndex).mp (fnOf_ok rfl tysOk trivial Try.func78 (by decide) rfl (fun _ h => by cases h) (nilEq_of (by kernel_rfl)))
def spec_StepsOk_L0 : (Int × (Int × ((List D_Step) × ((List D_Step) × Unit)))) → Option (Out (Int × (Int × ((List D_Step) × ((List D_Step) × Unit)))) ((Bool × (Int × (Int × ((List D_Step) × ((List D_Step) × Unit))))) ⊕ Empty) (Bool × Unit)) :=
  (fun v0 => (if (ltZ v0.1 v0.2.1) = true then (Option.bind (getI v0.2.2.1 v0.1) fun v1 => (Option.bind ((Option.bind (spec_l01In (v1.1, (0, (60, ()))) ()) fun v2 => (some v2.1)) : (Option Bool)) fun v3 => (Option.bind ((if (notB v3) = true then (some (true, (v0.1, (v0.2.1, (v0.2.2.1, (v0.2.2.2.1, ())))))) else (Option.bind ((Option.bind (spec_l01In (v1.2.1, (0, (20, ()))) ()) fun v4 => (some v4.1)) : (Option Bool)) fun v5 => (Option.bind ((if (notB v5) = true then (some (true, (v0.1, (v0.2.1, (v0.2.2.1, (v0.2.2.2.1, ())))))) else (Option.bind ((if (ltZ 0 v0.1) = true then (Option.bind (getI v0.2.2.2.1 (subZ .i64 v0.1 1)) fun v6 => (some ((leZ v1.1 v6.1), (v0.1, (v0.2.1, (v0.2.2.1, (v0.2.2.2.1, ()))))))) else (some (false, (v0.1, (v0.2.1, (v0.2.2.1, (v0.2.2.2.1, ()))))))) : (Option (Bool × (Int × (Int × ((List D_Step) × ((List D_Step) × Unit))))))) fun v7 => (some (v7.1, (v7.2.1, (v7.2.2.1, (v7.2.2.2.1, (v7.2.2.2.2.1, ())))))))) : (Option (Bool × (Int × (Int × ((List D_Step) × ((List D_Step) × Unit))))))) fun v8 => (some (v8.1, (v8.2.1, (v8.2.2.1, (v8.2.2.2.1, (v8.2.2.2.2.1, ()))))))))) : (Option (Bool × (Int × (Int × ((List D_Step) × ((List D_Step) × Unit))))))) fun v9 => (if v9.1 = true then (some (Out.ret (false, ()))) else (some (Out.norm ((addZ .i64 v9.2.1 1), (v9.2.2.1, (v9.2.2.2.1, (v9.2.2.2.2.1, ())))))))))) else (some (Out.exit (Sum.inl ((ltZ v0.1 v0.2.1), (v0.1, (v0.2.1, (v0.2.2.1, (v0.2.2.2.1, ()))))))))))
def spec_StepsOk (x : ((List D_Step) × Unit)) (c : Unit) : (Option (Bool × Unit)) :=
  (Option.bind (loopN (A := (Int × (Int × ((List D_Step) × ((List D_Step) × Unit))))) big spec_StepsOk_L0 (0, ((lenI x.1), (x.1, (x.1, ()))))) fun v10 => (match v10 with | Out.norm v11 => none | Out.exit v12 => (match ((match v12 with | Sum.inl v19 => (Sum.inl (v19.2.2.2.2.1, ())) | Sum.inr v20 => (Empty.elim v20)) : (((List D_Step) × Unit) ⊕ Empty)) with | Sum.inl v13 => (Option.bind ((Option.bind (spec_l01In ((lenI v13.1), (1, (8, ()))) ()) fun v14 => (some v14.1)) : (Option Bool)) fun v15 => (Option.bind ((if v15 = true then (Option.bind (getI v13.1 0) fun v16 => (some ((eqZ v16.1 0), ()))) else (some (false, ()))) : (Option (Bool × Unit))) fun v17 => (some (v17.1, ())))) | Sum.inr v18 => none) | Out.ret v21 => (some v21)))
def H_spec_StepsOk : Hd := ⟨[.sl 126 (.st [.int .i64, .int .i64])], [], none, .p, .bool, .p, []⟩
def T_spec_StepsOk : FSig := ⟨H_spec_StepsOk.ps, H_spec_StepsOk.cs, H_spec_StepsOk.io, H_spec_StepsOk.im, H_spec_StepsOk.R, H_spec_StepsOk.m, spec_StepsOk⟩
theorem E_spec_StepsOk : fnOf tys [(64, T_spec_l01In)] Try.f114 H_spec_StepsOk = T_spec_StepsOk := by kernel_rfl
theorem K_spec_StepsOk : SigOk Try.prog 114 T_spec_StepsOk := (congrArg (SigOk Try.prog 114) E_spec_StepsOk).mp (fnOf_ok rfl tysOk ⟨K_spec_l01In, trivial⟩ Try.func114 (by decide) rfl (fun _ h => by cases h) (nilEq_of (by kernel_rfl)))
def spec_ResourceOk_L0 : (Int × (Int × ((List Int) × (Int × (Int × ((List (List Int)) × (D_Resource × Unit))))))) → Option (Out (Int × (Int × ((List Int) × (Int × (Int × ((List (List Int)) × (D_Resource × Unit))))))) ((Bool × (Int × (Int × ((List Int) × (Int × (Int × ((List (List Int)) × (D_Resource × Unit)))))))) ⊕ Empty) (Bool × Unit)) :=
  (fun v2 => (if (ltZ v2.1 v2.2.1) = true then (Option.bind (getI v2.2.2.1 v2.1) fun v3 => (Option.bind ((Option.bind (spec_l01In (v3, (0, (12, ()))) ()) fun v4 => (some v4.1)) : (Option Bool)) fun v5 => (if (notB v5) = true then (some (Out.ret (false, ()))) else (some (Out.norm ((addZ .i64 v2.1 1), (v2.2.1, (v2.2.2.1, (v2.2.2.2.1, (v2.2.2.2.2.1, (v2.2.2.2.2.2.1, (v2.2.2.2.2.2.2.1, ())))))))))))) else (some (Out.exit (Sum.inl ((ltZ v2.1 v2.2.1), (v2.1, (v2.2.1, (v2.2.2.1, (v2.2.2.2.1, (v2.2.2.2.2.1, (v2.2.2.2.2.2.1, (v2.2.2.2.2.2.2.1, ())))))))))))))
def spec_ResourceOk_L1 : (Int × (Int × ((List (List Int)) × (D_Resource × Unit)))) → Option (Out (Int × (Int × ((List (List Int)) × (D_Resource × Unit)))) ((Bool × (Int × (Int × ((List (List Int)) × (D_Resource × Unit))))) ⊕ Empty) (Bool × Unit)) :=
  (fun v0 => (if (ltZ v0.1 v0.2.1) = true then (Option.bind (getI v0.2.2.1 v0.1) fun v1 => (if (notB (eqZ (lenI v1) 4)) = true then (some (Out.ret (false, ()))) else (Option.bind (loopN (A := (Int × (Int × ((List Int) × (Int × (Int × ((List (List Int)) × (D_Resource × Unit)))))))) big spec_ResourceOk_L0 (0, ((lenI v1), (v1, (v0.1, (v0.2.1, (v0.2.2.1, (v0.2.2.2.1, ())))))))) fun v6 => (match v6 with | Out.norm v7 => none | Out.exit v8 => (match ((match v8 with | Sum.inl v13 => (Sum.inl (v13.2.2.2.2.1, (v13.2.2.2.2.2.1, (v13.2.2.2.2.2.2.1, (v13.2.2.2.2.2.2.2.1, ()))))) | Sum.inr v14 => (Empty.elim v14)) : ((Int × (Int × ((List (List Int)) × (D_Resource × Unit)))) ⊕ Empty)) with | Sum.inl v9 => (some (Out.norm ((addZ .i64 v9.1 1), (v9.2.1, (v9.2.2.1, (v9.2.2.2.1, ())))))) | Sum.inr v10 => (match ((Empty.elim v10) : ((Int × (Int × ((List (List Int)) × (D_Resource × Unit)))) ⊕ Empty)) with | Sum.inl v11 => (some (Out.norm ((addZ .i64 v11.1 1), (v11.2.1, (v11.2.2.1, (v11.2.2.2.1, ())))))) | Sum.inr v12 => (some (Out.exit (Sum.inr (Empty.elim v12)))))) | Out.ret v15 => (some (Out.ret v15)))))) else (some (Out.exit (Sum.inl ((ltZ v0.1 v0.2.1), (v0.1, (v0.2.1, (v0.2.2.1, (v0.2.2.2.1, ()))))))))))
def spec_ResourceOk (x : (D_Resource × Unit)) (c : Unit) : (Option (Bool × Unit)) :=
  (Option.bind (loopN (A := (Int × (Int × ((List (List Int)) × (D_Resource × Unit))))) big spec_ResourceOk_L1 (0, ((lenI x.1.2.1), (x.1.2.1, (x.1, ()))))) fun v16 => (match v16 with | Out.norm v17 => none | Out.exit v18 => (match ((match v18 with | Sum.inl v25 => (Sum.inl (v25.2.2.2.2.1, ())) | Sum.inr v26 => (Empty.elim v26)) : ((D_Resource × Unit) ⊕ Empty)) with | Sum.inl v19 => (Option.bind ((Option.bind (spec_StepsOk (v19.1.1, ()) ()) fun v20 => (some v20.1)) : (Option Bool)) fun v21 => (Option.bind ((if v21 = true then (Option.bind ((if (eqZ (lenI v19.1.2.1) 0) = true then (some (true, ())) else (some ((eqZ (lenI v19.1.2.1) 4), ()))) : (Option (Bool × Unit))) fun v22 => (some (v22.1, ()))) else (some (false, ()))) : (Option (Bool × Unit))) fun v23 => (some (v23.1, ())))) | Sum.inr v24 => none) | Out.ret v27 => (some v27)))
def H_spec_ResourceOk : Hd := ⟨[.st [.sl 126 (.st [.int .i64, .int .i64]), .sl 25 (.sl 3 (.int .i64))]], [], none, .p, .bool, .p, []⟩
def T_spec_ResourceOk : FSig := ⟨H_spec_ResourceOk.ps, H_spec_ResourceOk.cs, H_spec_ResourceOk.io, H_spec_ResourceOk.im, H_spec_ResourceOk.R, H_spec_ResourceOk.m, spec_ResourceOk⟩
theorem E_spec_ResourceOk : fnOf tys [(64, T_spec_l01In), (114, T_spec_StepsOk)] Try.f79 H_spec_ResourceOk = T_spec_ResourceOk := by kernel_rfl
theorem K_spec_ResourceOk : SigOk Try.prog 79 T_spec_ResourceOk := (congrArg (SigOk Try.prog 79) E_spec_ResourceOk).mp (fnOf_ok rfl tysOk ⟨K_spec_l01In, K_spec_StepsOk, trivial⟩ Try.func79 (by decide) rfl (fun _ h => by cases h) (nilEq_of (by kernel_rfl)))
def spec_ProjectOk_L0 : (Int × (Int × ((List D_Activity) × (D_Project × (Int × Unit))))) → Option (Out (Int × (Int × ((List D_Activity) × (D_Project × (Int × Unit))))) ((Bool × (Int × (Int × ((List D_Activity) × (D_Project × (Int × Unit)))))) ⊕ Empty) (Bool × Unit)) :=
  (fun v8 => (if (ltZ v8.1 v8.2.1) = true then (Option.bind (getI v8.2.2.1 v8.1) fun v9 => (Option.bind ((Option.bind (spec_ActivityOk (v9, ((lenI v8.2.2.2.1.2.2.2.1), ((lenI v8.2.2.2.1.2.2.2.2.1), ()))) ()) fun v10 => (some v10.1)) : (Option Bool)) fun v11 => (Option.bind ((if (notB v11) = true then (some (true, (v8.1, (v8.2.1, (v8.2.2.1, (v8.2.2.2.1, (v8.2.2.2.2.1, ()))))))) else (Option.bind ((Option.bind (spec_ActivityIndex (v8.2.2.2.1, (v9.1, ())) ()) fun v12 => (some v12.1)) : (Option Int)) fun v13 => (some ((notB (eqZ v13 v8.1)), (v8.1, (v8.2.1, (v8.2.2.1, (v8.2.2.2.1, (v8.2.2.2.2.1, ()))))))))) : (Option (Bool × (Int × (Int × ((List D_Activity) × (D_Project × (Int × Unit)))))))) fun v14 => (if v14.1 = true then (some (Out.ret (false, ()))) else (some (Out.norm ((addZ .i64 v14.2.1 1), (v14.2.2.1, (v14.2.2.2.1, (v14.2.2.2.2.1, (v14.2.2.2.2.2.1, ()))))))))))) else (some (Out.exit (Sum.inl ((ltZ v8.1 v8.2.1), (v8.1, (v8.2.1, (v8.2.2.1, (v8.2.2.2.1, (v8.2.2.2.2.1, ())))))))))))
def spec_ProjectOk_L1 : (Int × (Int × ((List D_Resource) × (D_Project × (Int × Unit))))) → Option (Out (Int × (Int × ((List D_Resource) × (D_Project × (Int × Unit))))) ((Bool × (Int × (Int × ((List D_Resource) × (D_Project × (Int × Unit)))))) ⊕ Empty) (Bool × Unit)) :=
  (fun v19 => (if (ltZ v19.1 v19.2.1) = true then (Option.bind (getI v19.2.2.1 v19.1) fun v20 => (Option.bind ((Option.bind (spec_ResourceOk (v20, ()) ()) fun v21 => (some v21.1)) : (Option Bool)) fun v22 => (if (notB v22) = true then (some (Out.ret (false, ()))) else (some (Out.norm ((addZ .i64 v19.1 1), (v19.2.1, (v19.2.2.1, (v19.2.2.2.1, (v19.2.2.2.2.1, ())))))))))) else (some (Out.exit (Sum.inl ((ltZ v19.1 v19.2.1), (v19.1, (v19.2.1, (v19.2.2.1, (v19.2.2.2.1, (v19.2.2.2.2.1, ())))))))))))
def spec_ProjectOk_L2 : (Int × (Int × ((List Int) × (D_Project × (Int × Unit))))) → Option (Out (Int × (Int × ((List Int) × (D_Project × (Int × Unit))))) ((Bool × (Int × (Int × ((List Int) × (D_Project × (Int × Unit)))))) ⊕ Empty) (Bool × Unit)) :=
  (fun v27 => (if (ltZ v27.1 v27.2.1) = true then (Option.bind (getI v27.2.2.1 v27.1) fun v28 => (Option.bind ((Option.bind (spec_l01In (v28, (0, (100, ()))) ()) fun v29 => (some v29.1)) : (Option Bool)) fun v30 => (if (notB v30) = true then (some (Out.ret (false, ()))) else (some (Out.norm ((addZ .i64 v27.1 1), (v27.2.1, (v27.2.2.1, (v27.2.2.2.1, (v27.2.2.2.2.1, ())))))))))) else (some (Out.exit (Sum.inl ((ltZ v27.1 v27.2.1), (v27.1, (v27.2.1, (v27.2.2.1, (v27.2.2.2.1, (v27.2.2.2.2.1, ())))))))))))
def spec_ProjectOk_L3 : (Int × (Int × ((List D_Link) × (Int × Unit)))) → Option (Out (Int × (Int × ((List D_Link) × (Int × Unit)))) ((Bool × (Int × (Int × ((List D_Link) × (Int × Unit))))) ⊕ Empty) (Bool × Unit)) :=
  (fun v35 => (if (ltZ v35.1 v35.2.1) = true then (Option.bind (getI v35.2.2.1 v35.1) fun v36 => (Option.bind ((Option.bind (spec_l01In (v36.1, (0, ((subZ .i64 v35.2.2.2.1 1), ()))) ()) fun v37 => (some v37.1)) : (Option Bool)) fun v38 => (Option.bind ((if (notB v38) = true then (some (true, (v35.1, (v35.2.1, (v35.2.2.1, (v35.2.2.2.1, ())))))) else (Option.bind ((Option.bind (spec_l01In (v36.2.1, (0, ((subZ .i64 v35.2.2.2.1 1), ()))) ()) fun v39 => (some v39.1)) : (Option Bool)) fun v40 => (Option.bind ((if (notB v40) = true then (some (true, (v35.1, (v35.2.1, (v35.2.2.1, (v35.2.2.2.1, ())))))) else (Option.bind ((if (eqZ v36.1 v36.2.1) = true then (some (true, (v35.1, (v35.2.1, (v35.2.2.1, (v35.2.2.2.1, ())))))) else (Option.bind ((Option.bind (spec_l01In (v36.2.2.2.1, ((-60), (60, ()))) ()) fun v41 => (some v41.1)) : (Option Bool)) fun v42 => (some ((notB v42), (v35.1, (v35.2.1, (v35.2.2.1, (v35.2.2.2.1, ())))))))) : (Option (Bool × (Int × (Int × ((List D_Link) × (Int × Unit))))))) fun v43 => (some (v43.1, (v43.2.1, (v43.2.2.1, (v43.2.2.2.1, (v43.2.2.2.2.1, ())))))))) : (Option (Bool × (Int × (Int × ((List D_Link) × (Int × Unit))))))) fun v44 => (some (v44.1, (v44.2.1, (v44.2.2.1, (v44.2.2.2.1, (v44.2.2.2.2.1, ()))))))))) : (Option (Bool × (Int × (Int × ((List D_Link) × (Int × Unit))))))) fun v45 => (if v45.1 = true then (some (Out.ret (false, ()))) else (some (Out.norm ((addZ .i64 v45.2.1 1), (v45.2.2.1, (v45.2.2.2.1, (v45.2.2.2.2.1, ())))))))))) else (some (Out.exit (Sum.inl ((ltZ v35.1 v35.2.1), (v35.1, (v35.2.1, (v35.2.2.1, (v35.2.2.2.1, ()))))))))))
def spec_ProjectOk (x : (D_Project × Unit)) (c : Unit) : (Option (Bool × Unit)) :=
  (Option.bind ((Option.bind (spec_l01In (x.1.1, (1, (60, ()))) ()) fun v0 => (some v0.1)) : (Option Bool)) fun v1 => (Option.bind ((if (notB v1) = true then (some (true, (x.1, ((lenI x.1.2.1), ())))) else (Option.bind ((Option.bind (spec_l01In ((lenI x.1.2.1), (1, (6, ()))) ()) fun v2 => (some v2.1)) : (Option Bool)) fun v3 => (Option.bind ((if (notB v3) = true then (some (true, (x.1, ((lenI x.1.2.1), ())))) else (Option.bind ((if (ltZ 3 (lenI x.1.2.2.2.1)) = true then (some (true, (x.1, ((lenI x.1.2.1), ())))) else (Option.bind ((if (ltZ 2 (lenI x.1.2.2.2.2.1)) = true then (some (true, (x.1, ((lenI x.1.2.1), ())))) else (some ((ltZ 12 (lenI x.1.2.2.1)), (x.1, ((lenI x.1.2.1), ()))))) : (Option (Bool × (D_Project × (Int × Unit))))) fun v4 => (some (v4.1, (v4.2.1, (v4.2.2.1, ())))))) : (Option (Bool × (D_Project × (Int × Unit))))) fun v5 => (some (v5.1, (v5.2.1, (v5.2.2.1, ())))))) : (Option (Bool × (D_Project × (Int × Unit))))) fun v6 => (some (v6.1, (v6.2.1, (v6.2.2.1, ()))))))) : (Option (Bool × (D_Project × (Int × Unit))))) fun v7 => (if v7.1 = true then (some (false, ())) else (Option.bind (loopN (A := (Int × (Int × ((List D_Activity) × (D_Project × (Int × Unit)))))) big spec_ProjectOk_L0 (0, ((lenI v7.2.1.2.1), (v7.2.1.2.1, (v7.2.1, (v7.2.2.1, ())))))) fun v15 => (match v15 with | Out.norm v16 => none | Out.exit v17 => (match ((match v17 with | Sum.inl v63 => (Sum.inl (v63.2.2.2.2.1, (v63.2.2.2.2.2.1, ()))) | Sum.inr v64 => (Empty.elim v64)) : ((D_Project × (Int × Unit)) ⊕ Empty)) with | Sum.inl v18 => (Option.bind (loopN (A := (Int × (Int × ((List D_Resource) × (D_Project × (Int × Unit)))))) big spec_ProjectOk_L1 (0, ((lenI v18.1.2.2.2.1), (v18.1.2.2.2.1, (v18.1, (v18.2.1, ())))))) fun v23 => (match v23 with | Out.norm v24 => none | Out.exit v25 => (match ((match v25 with | Sum.inl v59 => (Sum.inl (v59.2.2.2.2.1, (v59.2.2.2.2.2.1, ()))) | Sum.inr v60 => (Empty.elim v60)) : ((D_Project × (Int × Unit)) ⊕ Empty)) with | Sum.inl v26 => (Option.bind (loopN (A := (Int × (Int × ((List Int) × (D_Project × (Int × Unit)))))) big spec_ProjectOk_L2 (0, ((lenI v26.1.2.2.2.2.1), (v26.1.2.2.2.2.1, (v26.1, (v26.2.1, ())))))) fun v31 => (match v31 with | Out.norm v32 => none | Out.exit v33 => (match ((match v33 with | Sum.inl v55 => (Sum.inl (v55.2.2.2.2.1, (v55.2.2.2.2.2.1, ()))) | Sum.inr v56 => (Empty.elim v56)) : ((D_Project × (Int × Unit)) ⊕ Empty)) with | Sum.inl v34 => (Option.bind (loopN (A := (Int × (Int × ((List D_Link) × (Int × Unit))))) big spec_ProjectOk_L3 (0, ((lenI v34.1.2.2.1), (v34.1.2.2.1, (v34.2.1, ()))))) fun v46 => (match v46 with | Out.norm v47 => none | Out.exit v48 => (match ((match v48 with | Sum.inl v51 => (Sum.inl ()) | Sum.inr v52 => (Empty.elim v52)) : (Unit ⊕ Empty)) with | Sum.inl v49 => (some (true, ())) | Sum.inr v50 => none) | Out.ret v53 => (some v53))) | Sum.inr v54 => none) | Out.ret v57 => (some v57))) | Sum.inr v58 => none) | Out.ret v61 => (some v61))) | Sum.inr v62 => none) | Out.ret v65 => (some v65))))))
def H_spec_ProjectOk : Hd := ⟨[.st [.int .i64, .sl 79 (.st [.str, .int .i64, .sl 87 (.st [.int .i64, .sl 3 (.int .i64), .sl 3 (.int .i64)])]), .sl 105 (.st [.int .i64, .int .i64, .bool, .int .i64]), .sl 91 (.st [.sl 126 (.st [.int .i64, .int .i64]), .sl 25 (.sl 3 (.int .i64))]), .sl 3 (.int .i64)]], [], none, .p, .bool, .p, []⟩
def T_spec_ProjectOk : FSig := ⟨H_spec_ProjectOk.ps, H_spec_ProjectOk.cs, H_spec_ProjectOk.io, H_spec_ProjectOk.im, H_spec_ProjectOk.R, H_spec_ProjectOk.m, spec_ProjectOk⟩
theorem E_spec_ProjectOk : fnOf tys [(64, T_spec_l01In), (77, T_spec_ActivityOk), (78, T_spec_ActivityIndex), (79, T_spec_ResourceOk)] Try.f44 H_spec_ProjectOk = T_spec_ProjectOk := by kernel_rfl
theorem K_spec_ProjectOk : SigOk Try.prog 44 T_spec_ProjectOk := (congrArg (SigOk Try.prog 44) E_spec_ProjectOk).mp (fnOf_ok rfl tysOk ⟨K_spec_l01In, K_spec_ActivityOk, K_spec_ActivityIndex, K_spec_ResourceOk, trivial⟩ Try.func44 (by decide) rfl (fun _ h => by cases h) (nilEq_of (by kernel_rfl)))
def laws_toIntS_L0 : D_Mode → Option (Out D_Mode ((Bool × D_Mode) ⊕ Empty) ((List Int) × Unit)) :=
  (fun v1 => (if (ltZ v1.1 (lenI v1.2.1)) = true then (Option.bind (getI v1.2.1 v1.1) fun v2 => (Option.bind ((Option.bind (getI v1.2.2.1 v1.1) fun v3 => (some ())) : (Option Unit)) fun v4 => (Option.bind ((Option.bind ((Option.bind (getI v1.2.2.1 v1.1) fun v5 => (some v5)) : (Option Int)) fun v6 => (some v2)) : (Option Int)) fun v7 => (some (Out.norm ((addZ .i64 v1.1 1), (v1.2.1, ((setI v1.2.2.1 v1.1 (fun v8 => v7)), ())))))))) else (some (Out.exit (Sum.inl ((ltZ v1.1 (lenI v1.2.1)), (v1.1, (v1.2.1, (v1.2.2.1, ())))))))))
def laws_toIntS (x : ((List Int) × Unit)) (c : Unit) : (Option ((List Int) × Unit)) :=
  (Option.bind ((if (eqZ (lenI x.1) (lenI x.1)) = true then (zerosI (lenI x.1) 0) else none) : (Option (List Int))) fun v0 => (Option.bind (loopN (A := D_Mode) big laws_toIntS_L0 (0, (x.1, (v0, ())))) fun v9 => (match v9 with | Out.norm v10 => none | Out.exit v11 => (match ((match v11 with | Sum.inl v14 => (Sum.inl (v14.2.2.2.1, ())) | Sum.inr v15 => (Empty.elim v15)) : (((List Int) × Unit) ⊕ Empty)) with | Sum.inl v12 => (some (v12.1, ())) | Sum.inr v13 => none) | Out.ret v16 => (some v16))))
def H_laws_toIntS : Hd := ⟨[.sl 3 (.int .i64)], [], none, .p, .sl 3 (.int .i64), (Ty.all (.sl 3 (.int .i64))), []⟩
def T_laws_toIntS : FSig := ⟨H_laws_toIntS.ps, H_laws_toIntS.cs, H_laws_toIntS.io, H_laws_toIntS.im, H_laws_toIntS.R, H_laws_toIntS.m, laws_toIntS⟩
theorem E_laws_toIntS : fnOf tys [] Try.f36 H_laws_toIntS = T_laws_toIntS := by kernel_rfl
theorem K_laws_toIntS : SigOk Try.prog 36 T_laws_toIntS := (congrArg (SigOk Try.prog 36) E_laws_toIntS).mp (fnOf_ok rfl tysOk trivial Try.func36 (by decide) rfl (fun _ h => by cases h) (nilEq_of (by kernel_rfl)))
def laws_toMode (x : (D_Mode × Unit)) (c : Unit) : (Option (D_Mode × Unit)) :=
  (Option.bind ((Option.bind (laws_toIntS (x.1.2.1, ()) ()) fun v0 => (some v0.1)) : (Option (List Int))) fun v1 => (Option.bind ((Option.bind (laws_toIntS (x.1.2.2.1, ()) ()) fun v2 => (some v2.1)) : (Option (List Int))) fun v3 => (some ((x.1.1, (v1, (v3, ()))), ()))))
def H_laws_toMode : Hd := ⟨[.st [.int .i64, .sl 3 (.int .i64), .sl 3 (.int .i64)]], [], none, .p, .st [.int .i64, .sl 3 (.int .i64), .sl 3 (.int .i64)], (Ty.all (.st [.int .i64, .sl 3 (.int .i64), .sl 3 (.int .i64)])), []⟩
def T_laws_toMode : FSig := ⟨H_laws_toMode.ps, H_laws_toMode.cs, H_laws_toMode.io, H_laws_toMode.im, H_laws_toMode.R, H_laws_toMode.m, laws_toMode⟩
theorem E_laws_toMode : fnOf tys [(36, T_laws_toIntS)] Try.f122 H_laws_toMode = T_laws_toMode := by kernel_rfl
theorem K_laws_toMode : SigOk Try.prog 122 T_laws_toMode := (congrArg (SigOk Try.prog 122) E_laws_toMode).mp (fnOf_ok rfl tysOk ⟨K_laws_toIntS, trivial⟩ Try.func122 (by decide) rfl (fun _ h => by cases h) (nilEq_of (by kernel_rfl)))
def laws_toModeS_L0 : (Int × ((List D_Mode) × ((List D_Mode) × Unit))) → Option (Out (Int × ((List D_Mode) × ((List D_Mode) × Unit))) ((Bool × (Int × ((List D_Mode) × ((List D_Mode) × Unit)))) ⊕ Empty) ((List D_Mode) × Unit)) :=
  (fun v1 => (if (ltZ v1.1 (lenI v1.2.1)) = true then (Option.bind (getI v1.2.1 v1.1) fun v2 => (Option.bind ((Option.bind (laws_toMode (v2, ()) ()) fun v3 => (some v3.1)) : (Option D_Mode)) fun v4 => (Option.bind ((Option.bind (getI v1.2.2.1 v1.1) fun v5 => (some ())) : (Option Unit)) fun v6 => (Option.bind ((Option.bind ((Option.bind (getI v1.2.2.1 v1.1) fun v7 => (some v7)) : (Option D_Mode)) fun v8 => (some v4)) : (Option D_Mode)) fun v9 => (some (Out.norm ((addZ .i64 v1.1 1), (v1.2.1, ((setI v1.2.2.1 v1.1 (fun v10 => v9)), ()))))))))) else (some (Out.exit (Sum.inl ((ltZ v1.1 (lenI v1.2.1)), (v1.1, (v1.2.1, (v1.2.2.1, ())))))))))
def laws_toModeS (x : ((List D_Mode) × Unit)) (c : Unit) : (Option ((List D_Mode) × Unit)) :=
  (Option.bind ((if (eqZ (lenI x.1) (lenI x.1)) = true then (zerosI (lenI x.1) (0, ([], ([], ())))) else none) : (Option (List D_Mode))) fun v0 => (Option.bind (loopN (A := (Int × ((List D_Mode) × ((List D_Mode) × Unit)))) big laws_toModeS_L0 (0, (x.1, (v0, ())))) fun v11 => (match v11 with | Out.norm v12 => none | Out.exit v13 => (match ((match v13 with | Sum.inl v16 => (Sum.inl (v16.2.2.2.1, ())) | Sum.inr v17 => (Empty.elim v17)) : (((List D_Mode) × Unit) ⊕ Empty)) with | Sum.inl v14 => (some (v14.1, ())) | Sum.inr v15 => none) | Out.ret v18 => (some v18))))
def H_laws_toModeS : Hd := ⟨[.sl 145 (.st [.int .i64, .sl 3 (.int .i64), .sl 3 (.int .i64)])], [], none, .p, .sl 87 (.st [.int .i64, .sl 3 (.int .i64), .sl 3 (.int .i64)]), (Ty.all (.sl 87 (.st [.int .i64, .sl 3 (.int .i64), .sl 3 (.int .i64)]))), []⟩
def T_laws_toModeS : FSig := ⟨H_laws_toModeS.ps, H_laws_toModeS.cs, H_laws_toModeS.io, H_laws_toModeS.im, H_laws_toModeS.R, H_laws_toModeS.m, laws_toModeS⟩
theorem E_laws_toModeS : fnOf tys [(122, T_laws_toMode)] Try.f103 H_laws_toModeS = T_laws_toModeS := by kernel_rfl
theorem K_laws_toModeS : SigOk Try.prog 103 T_laws_toModeS := (congrArg (SigOk Try.prog 103) E_laws_toModeS).mp (fnOf_ok rfl tysOk ⟨K_laws_toMode, trivial⟩ Try.func103 (by decide) rfl (fun _ h => by cases h) (nilEq_of (by kernel_rfl)))
def laws_toActivity (x : (D_Activity × Unit)) (c : Unit) : (Option (D_Activity × Unit)) :=
  (Option.bind ((Option.bind (laws_toModeS (x.1.2.2.1, ()) ()) fun v0 => (some v0.1)) : (Option (List D_Mode))) fun v1 => (some ((x.1.1, (x.1.2.1, (v1, ()))), ())))
def H_laws_toActivity : Hd := ⟨[.st [.str, .int .i64, .sl 145 (.st [.int .i64, .sl 3 (.int .i64), .sl 3 (.int .i64)])]], [], none, .p, .st [.str, .int .i64, .sl 87 (.st [.int .i64, .sl 3 (.int .i64), .sl 3 (.int .i64)])], (Ty.all (.st [.str, .int .i64, .sl 87 (.st [.int .i64, .sl 3 (.int .i64), .sl 3 (.int .i64)])])), []⟩
def T_laws_toActivity : FSig := ⟨H_laws_toActivity.ps, H_laws_toActivity.cs, H_laws_toActivity.io, H_laws_toActivity.im, H_laws_toActivity.R, H_laws_toActivity.m, laws_toActivity⟩
theorem E_laws_toActivity : fnOf tys [(103, T_laws_toModeS)] Try.f67 H_laws_toActivity = T_laws_toActivity := by kernel_rfl
theorem K_laws_toActivity : SigOk Try.prog 67 T_laws_toActivity := (congrArg (SigOk Try.prog 67) E_laws_toActivity).mp (fnOf_ok rfl tysOk ⟨K_laws_toModeS, trivial⟩ Try.func67 (by decide) rfl (fun _ h => by cases h) (nilEq_of (by kernel_rfl)))
def laws_toActivityS_L0 : (Int × ((List D_Activity) × ((List D_Activity) × Unit))) → Option (Out (Int × ((List D_Activity) × ((List D_Activity) × Unit))) ((Bool × (Int × ((List D_Activity) × ((List D_Activity) × Unit)))) ⊕ Empty) ((List D_Activity) × Unit)) :=
  (fun v1 => (if (ltZ v1.1 (lenI v1.2.1)) = true then (Option.bind (getI v1.2.1 v1.1) fun v2 => (Option.bind ((Option.bind (laws_toActivity (v2, ()) ()) fun v3 => (some v3.1)) : (Option D_Activity)) fun v4 => (Option.bind ((Option.bind (getI v1.2.2.1 v1.1) fun v5 => (some ())) : (Option Unit)) fun v6 => (Option.bind ((Option.bind ((Option.bind (getI v1.2.2.1 v1.1) fun v7 => (some v7)) : (Option D_Activity)) fun v8 => (some v4)) : (Option D_Activity)) fun v9 => (some (Out.norm ((addZ .i64 v1.1 1), (v1.2.1, ((setI v1.2.2.1 v1.1 (fun v10 => v9)), ()))))))))) else (some (Out.exit (Sum.inl ((ltZ v1.1 (lenI v1.2.1)), (v1.1, (v1.2.1, (v1.2.2.1, ())))))))))
def laws_toActivityS (x : ((List D_Activity) × Unit)) (c : Unit) : (Option ((List D_Activity) × Unit)) :=
  (Option.bind ((if (eqZ (lenI x.1) (lenI x.1)) = true then (zerosI (lenI x.1) ([], (0, ([], ())))) else none) : (Option (List D_Activity))) fun v0 => (Option.bind (loopN (A := (Int × ((List D_Activity) × ((List D_Activity) × Unit)))) big laws_toActivityS_L0 (0, (x.1, (v0, ())))) fun v11 => (match v11 with | Out.norm v12 => none | Out.exit v13 => (match ((match v13 with | Sum.inl v16 => (Sum.inl (v16.2.2.2.1, ())) | Sum.inr v17 => (Empty.elim v17)) : (((List D_Activity) × Unit) ⊕ Empty)) with | Sum.inl v14 => (some (v14.1, ())) | Sum.inr v15 => none) | Out.ret v18 => (some v18))))
def H_laws_toActivityS : Hd := ⟨[.sl 95 (.st [.str, .int .i64, .sl 145 (.st [.int .i64, .sl 3 (.int .i64), .sl 3 (.int .i64)])])], [], none, .p, .sl 79 (.st [.str, .int .i64, .sl 87 (.st [.int .i64, .sl 3 (.int .i64), .sl 3 (.int .i64)])]), (Ty.all (.sl 79 (.st [.str, .int .i64, .sl 87 (.st [.int .i64, .sl 3 (.int .i64), .sl 3 (.int .i64)])]))), []⟩
def T_laws_toActivityS : FSig := ⟨H_laws_toActivityS.ps, H_laws_toActivityS.cs, H_laws_toActivityS.io, H_laws_toActivityS.im, H_laws_toActivityS.R, H_laws_toActivityS.m, laws_toActivityS⟩
theorem E_laws_toActivityS : fnOf tys [(67, T_laws_toActivity)] Try.f33 H_laws_toActivityS = T_laws_toActivityS := by kernel_rfl
theorem K_laws_toActivityS : SigOk Try.prog 33 T_laws_toActivityS := (congrArg (SigOk Try.prog 33) E_laws_toActivityS).mp (fnOf_ok rfl tysOk ⟨K_laws_toActivity, trivial⟩ Try.func33 (by decide) rfl (fun _ h => by cases h) (nilEq_of (by kernel_rfl)))
def laws_toLink (x : (D_Link × Unit)) (c : Unit) : (Option (D_Link × Unit)) :=
  (some ((x.1.1, (x.1.2.1, (x.1.2.2.1, (x.1.2.2.2.1, ())))), ()))
def H_laws_toLink : Hd := ⟨[.st [.int .i64, .int .i64, .bool, .int .i64]], [], none, .p, .st [.int .i64, .int .i64, .bool, .int .i64], .p, []⟩
def T_laws_toLink : FSig := ⟨H_laws_toLink.ps, H_laws_toLink.cs, H_laws_toLink.io, H_laws_toLink.im, H_laws_toLink.R, H_laws_toLink.m, laws_toLink⟩
theorem E_laws_toLink : fnOf tys [] Try.f68 H_laws_toLink = T_laws_toLink := by kernel_rfl
theorem K_laws_toLink : SigOk Try.prog 68 T_laws_toLink := (congrArg (SigOk Try.prog 68) E_laws_toLink).mp (fnOf_ok rfl tysOk trivial Try.func68 (by decide) rfl (fun _ h => by cases h) (nilEq_of (by kernel_rfl)))
def laws_toLinkS_L0 : (Int × ((List D_Link) × ((List D_Link) × Unit))) → Option (Out (Int × ((List D_Link) × ((List D_Link) × Unit))) ((Bool × (Int × ((List D_Link) × ((List D_Link) × Unit)))) ⊕ Empty) ((List D_Link) × Unit)) :=
  (fun v1 => (if (ltZ v1.1 (lenI v1.2.1)) = true then (Option.bind (getI v1.2.1 v1.1) fun v2 => (Option.bind ((Option.bind (laws_toLink (v2, ()) ()) fun v3 => (some v3.1)) : (Option D_Link)) fun v4 => (Option.bind ((Option.bind (getI v1.2.2.1 v1.1) fun v5 => (some ())) : (Option Unit)) fun v6 => (Option.bind ((Option.bind ((Option.bind (getI v1.2.2.1 v1.1) fun v7 => (some v7)) : (Option D_Link)) fun v8 => (some v4)) : (Option D_Link)) fun v9 => (some (Out.norm ((addZ .i64 v1.1 1), (v1.2.1, ((setI v1.2.2.1 v1.1 (fun v10 => v9)), ()))))))))) else (some (Out.exit (Sum.inl ((ltZ v1.1 (lenI v1.2.1)), (v1.1, (v1.2.1, (v1.2.2.1, ())))))))))
def laws_toLinkS (x : ((List D_Link) × Unit)) (c : Unit) : (Option ((List D_Link) × Unit)) :=
  (Option.bind ((if (eqZ (lenI x.1) (lenI x.1)) = true then (zerosI (lenI x.1) (0, (0, (false, (0, ()))))) else none) : (Option (List D_Link))) fun v0 => (Option.bind (loopN (A := (Int × ((List D_Link) × ((List D_Link) × Unit)))) big laws_toLinkS_L0 (0, (x.1, (v0, ())))) fun v11 => (match v11 with | Out.norm v12 => none | Out.exit v13 => (match ((match v13 with | Sum.inl v16 => (Sum.inl (v16.2.2.2.1, ())) | Sum.inr v17 => (Empty.elim v17)) : (((List D_Link) × Unit) ⊕ Empty)) with | Sum.inl v14 => (some (v14.1, ())) | Sum.inr v15 => none) | Out.ret v18 => (some v18))))
def H_laws_toLinkS : Hd := ⟨[.sl 107 (.st [.int .i64, .int .i64, .bool, .int .i64])], [], none, .p, .sl 105 (.st [.int .i64, .int .i64, .bool, .int .i64]), (Ty.all (.sl 105 (.st [.int .i64, .int .i64, .bool, .int .i64]))), []⟩
def T_laws_toLinkS : FSig := ⟨H_laws_toLinkS.ps, H_laws_toLinkS.cs, H_laws_toLinkS.io, H_laws_toLinkS.im, H_laws_toLinkS.R, H_laws_toLinkS.m, laws_toLinkS⟩
theorem E_laws_toLinkS : fnOf tys [(68, T_laws_toLink)] Try.f34 H_laws_toLinkS = T_laws_toLinkS := by kernel_rfl
theorem K_laws_toLinkS : SigOk Try.prog 34 T_laws_toLinkS := (congrArg (SigOk Try.prog 34) E_laws_toLinkS).mp (fnOf_ok rfl tysOk ⟨K_laws_toLink, trivial⟩ Try.func34 (by decide) rfl (fun _ h => by cases h) (nilEq_of (by kernel_rfl)))
def laws_toStep (x : (D_Step × Unit)) (c : Unit) : (Option (D_Step × Unit)) :=
  (some ((x.1.1, (x.1.2.1, ())), ()))
def H_laws_toStep : Hd := ⟨[.st [.int .i64, .int .i64]], [], none, .p, .st [.int .i64, .int .i64], .p, []⟩
def T_laws_toStep : FSig := ⟨H_laws_toStep.ps, H_laws_toStep.cs, H_laws_toStep.io, H_laws_toStep.im, H_laws_toStep.R, H_laws_toStep.m, laws_toStep⟩
theorem E_laws_toStep : fnOf tys [] Try.f123 H_laws_toStep = T_laws_toStep := by kernel_rfl
theorem K_laws_toStep : SigOk Try.prog 123 T_laws_toStep := (congrArg (SigOk Try.prog 123) E_laws_toStep).mp (fnOf_ok rfl tysOk trivial Try.func123 (by decide) rfl (fun _ h => by cases h) (nilEq_of (by kernel_rfl)))
def laws_toStepS_L0 : (Int × ((List D_Step) × ((List D_Step) × Unit))) → Option (Out (Int × ((List D_Step) × ((List D_Step) × Unit))) ((Bool × (Int × ((List D_Step) × ((List D_Step) × Unit)))) ⊕ Empty) ((List D_Step) × Unit)) :=
  (fun v1 => (if (ltZ v1.1 (lenI v1.2.1)) = true then (Option.bind (getI v1.2.1 v1.1) fun v2 => (Option.bind ((Option.bind (laws_toStep (v2, ()) ()) fun v3 => (some v3.1)) : (Option D_Step)) fun v4 => (Option.bind ((Option.bind (getI v1.2.2.1 v1.1) fun v5 => (some ())) : (Option Unit)) fun v6 => (Option.bind ((Option.bind ((Option.bind (getI v1.2.2.1 v1.1) fun v7 => (some v7)) : (Option D_Step)) fun v8 => (some v4)) : (Option D_Step)) fun v9 => (some (Out.norm ((addZ .i64 v1.1 1), (v1.2.1, ((setI v1.2.2.1 v1.1 (fun v10 => v9)), ()))))))))) else (some (Out.exit (Sum.inl ((ltZ v1.1 (lenI v1.2.1)), (v1.1, (v1.2.1, (v1.2.2.1, ())))))))))
def laws_toStepS (x : ((List D_Step) × Unit)) (c : Unit) : (Option ((List D_Step) × Unit)) :=
  (Option.bind ((if (eqZ (lenI x.1) (lenI x.1)) = true then (zerosI (lenI x.1) (0, (0, ()))) else none) : (Option (List D_Step))) fun v0 => (Option.bind (loopN (A := (Int × ((List D_Step) × ((List D_Step) × Unit)))) big laws_toStepS_L0 (0, (x.1, (v0, ())))) fun v11 => (match v11 with | Out.norm v12 => none | Out.exit v13 => (match ((match v13 with | Sum.inl v16 => (Sum.inl (v16.2.2.2.1, ())) | Sum.inr v17 => (Empty.elim v17)) : (((List D_Step) × Unit) ⊕ Empty)) with | Sum.inl v14 => (some (v14.1, ())) | Sum.inr v15 => none) | Out.ret v18 => (some v18))))
def H_laws_toStepS : Hd := ⟨[.sl 148 (.st [.int .i64, .int .i64])], [], none, .p, .sl 126 (.st [.int .i64, .int .i64]), (Ty.all (.sl 126 (.st [.int .i64, .int .i64]))), []⟩
def T_laws_toStepS : FSig := ⟨H_laws_toStepS.ps, H_laws_toStepS.cs, H_laws_toStepS.io, H_laws_toStepS.im, H_laws_toStepS.R, H_laws_toStepS.m, laws_toStepS⟩
theorem E_laws_toStepS : fnOf tys [(123, T_laws_toStep)] Try.f104 H_laws_toStepS = T_laws_toStepS := by kernel_rfl
theorem K_laws_toStepS : SigOk Try.prog 104 T_laws_toStepS := (congrArg (SigOk Try.prog 104) E_laws_toStepS).mp (fnOf_ok rfl tysOk ⟨K_laws_toStep, trivial⟩ Try.func104 (by decide) rfl (fun _ h => by cases h) (nilEq_of (by kernel_rfl)))
def laws_toIntSS_L0 : (Int × ((List (List Int)) × ((List (List Int)) × Unit))) → Option (Out (Int × ((List (List Int)) × ((List (List Int)) × Unit))) ((Bool × (Int × ((List (List Int)) × ((List (List Int)) × Unit)))) ⊕ Empty) ((List (List Int)) × Unit)) :=
  (fun v1 => (if (ltZ v1.1 (lenI v1.2.1)) = true then (Option.bind (getI v1.2.1 v1.1) fun v2 => (Option.bind ((Option.bind (laws_toIntS (v2, ()) ()) fun v3 => (some v3.1)) : (Option (List Int))) fun v4 => (Option.bind ((Option.bind (getI v1.2.2.1 v1.1) fun v5 => (some ())) : (Option Unit)) fun v6 => (Option.bind ((Option.bind ((Option.bind (getI v1.2.2.1 v1.1) fun v7 => (some v7)) : (Option (List Int))) fun v8 => (some v4)) : (Option (List Int))) fun v9 => (some (Out.norm ((addZ .i64 v1.1 1), (v1.2.1, ((setI v1.2.2.1 v1.1 (fun v10 => v9)), ()))))))))) else (some (Out.exit (Sum.inl ((ltZ v1.1 (lenI v1.2.1)), (v1.1, (v1.2.1, (v1.2.2.1, ())))))))))
def laws_toIntSS (x : ((List (List Int)) × Unit)) (c : Unit) : (Option ((List (List Int)) × Unit)) :=
  (Option.bind ((if (eqZ (lenI x.1) (lenI x.1)) = true then (zerosI (lenI x.1) []) else none) : (Option (List (List Int)))) fun v0 => (Option.bind (loopN (A := (Int × ((List (List Int)) × ((List (List Int)) × Unit)))) big laws_toIntSS_L0 (0, (x.1, (v0, ())))) fun v11 => (match v11 with | Out.norm v12 => none | Out.exit v13 => (match ((match v13 with | Sum.inl v16 => (Sum.inl (v16.2.2.2.1, ())) | Sum.inr v17 => (Empty.elim v17)) : (((List (List Int)) × Unit) ⊕ Empty)) with | Sum.inl v14 => (some (v14.1, ())) | Sum.inr v15 => none) | Out.ret v18 => (some v18))))
def H_laws_toIntSS : Hd := ⟨[.sl 25 (.sl 3 (.int .i64))], [], none, .p, .sl 25 (.sl 3 (.int .i64)), (Ty.all (.sl 25 (.sl 3 (.int .i64)))), []⟩
def T_laws_toIntSS : FSig := ⟨H_laws_toIntSS.ps, H_laws_toIntSS.cs, H_laws_toIntSS.io, H_laws_toIntSS.im, H_laws_toIntSS.R, H_laws_toIntSS.m, laws_toIntSS⟩
theorem E_laws_toIntSS : fnOf tys [(36, T_laws_toIntS)] Try.f105 H_laws_toIntSS = T_laws_toIntSS := by kernel_rfl
theorem K_laws_toIntSS : SigOk Try.prog 105 T_laws_toIntSS := (congrArg (SigOk Try.prog 105) E_laws_toIntSS).mp (fnOf_ok rfl tysOk ⟨K_laws_toIntS, trivial⟩ Try.func105 (by decide) rfl (fun _ h => by cases h) (nilEq_of (by kernel_rfl)))
def laws_toResource (x : (D_Resource × Unit)) (c : Unit) : (Option (D_Resource × Unit)) :=
  (Option.bind ((Option.bind (laws_toStepS (x.1.1, ()) ()) fun v0 => (some v0.1)) : (Option (List D_Step))) fun v1 => (Option.bind ((Option.bind (laws_toIntSS (x.1.2.1, ()) ()) fun v2 => (some v2.1)) : (Option (List (List Int)))) fun v3 => (some ((v1, (v3, ())), ()))))
def H_laws_toResource : Hd := ⟨[.st [.sl 148 (.st [.int .i64, .int .i64]), .sl 25 (.sl 3 (.int .i64))]], [], none, .p, .st [.sl 126 (.st [.int .i64, .int .i64]), .sl 25 (.sl 3 (.int .i64))], (Ty.all (.st [.sl 126 (.st [.int .i64, .int .i64]), .sl 25 (.sl 3 (.int .i64))])), []⟩
def T_laws_toResource : FSig := ⟨H_laws_toResource.ps, H_laws_toResource.cs, H_laws_toResource.io, H_laws_toResource.im, H_laws_toResource.R, H_laws_toResource.m, laws_toResource⟩
theorem E_laws_toResource : fnOf tys [(104, T_laws_toStepS), (105, T_laws_toIntSS)] Try.f69 H_laws_toResource = T_laws_toResource := by kernel_rfl
theorem K_laws_toResource : SigOk Try.prog 69 T_laws_toResource := (congrArg (SigOk Try.prog 69) E_laws_toResource).mp (fnOf_ok rfl tysOk ⟨K_laws_toStepS, K_laws_toIntSS, trivial⟩ Try.func69 (by decide) rfl (fun _ h => by cases h) (nilEq_of (by kernel_rfl)))
def laws_toResourceS_L0 : (Int × ((List D_Resource) × ((List D_Resource) × Unit))) → Option (Out (Int × ((List D_Resource) × ((List D_Resource) × Unit))) ((Bool × (Int × ((List D_Resource) × ((List D_Resource) × Unit)))) ⊕ Empty) ((List D_Resource) × Unit)) :=
  (fun v1 => (if (ltZ v1.1 (lenI v1.2.1)) = true then (Option.bind (getI v1.2.1 v1.1) fun v2 => (Option.bind ((Option.bind (laws_toResource (v2, ()) ()) fun v3 => (some v3.1)) : (Option D_Resource)) fun v4 => (Option.bind ((Option.bind (getI v1.2.2.1 v1.1) fun v5 => (some ())) : (Option Unit)) fun v6 => (Option.bind ((Option.bind ((Option.bind (getI v1.2.2.1 v1.1) fun v7 => (some v7)) : (Option D_Resource)) fun v8 => (some v4)) : (Option D_Resource)) fun v9 => (some (Out.norm ((addZ .i64 v1.1 1), (v1.2.1, ((setI v1.2.2.1 v1.1 (fun v10 => v9)), ()))))))))) else (some (Out.exit (Sum.inl ((ltZ v1.1 (lenI v1.2.1)), (v1.1, (v1.2.1, (v1.2.2.1, ())))))))))
def laws_toResourceS (x : ((List D_Resource) × Unit)) (c : Unit) : (Option ((List D_Resource) × Unit)) :=
  (Option.bind ((if (eqZ (lenI x.1) (lenI x.1)) = true then (zerosI (lenI x.1) ([], ([], ()))) else none) : (Option (List D_Resource))) fun v0 => (Option.bind (loopN (A := (Int × ((List D_Resource) × ((List D_Resource) × Unit)))) big laws_toResourceS_L0 (0, (x.1, (v0, ())))) fun v11 => (match v11 with | Out.norm v12 => none | Out.exit v13 => (match ((match v13 with | Sum.inl v16 => (Sum.inl (v16.2.2.2.1, ())) | Sum.inr v17 => (Empty.elim v17)) : (((List D_Resource) × Unit) ⊕ Empty)) with | Sum.inl v14 => (some (v14.1, ())) | Sum.inr v15 => none) | Out.ret v18 => (some v18))))
def H_laws_toResourceS : Hd := ⟨[.sl 99 (.st [.sl 148 (.st [.int .i64, .int .i64]), .sl 25 (.sl 3 (.int .i64))])], [], none, .p, .sl 91 (.st [.sl 126 (.st [.int .i64, .int .i64]), .sl 25 (.sl 3 (.int .i64))]), (Ty.all (.sl 91 (.st [.sl 126 (.st [.int .i64, .int .i64]), .sl 25 (.sl 3 (.int .i64))]))), []⟩
def T_laws_toResourceS : FSig := ⟨H_laws_toResourceS.ps, H_laws_toResourceS.cs, H_laws_toResourceS.io, H_laws_toResourceS.im, H_laws_toResourceS.R, H_laws_toResourceS.m, laws_toResourceS⟩
theorem E_laws_toResourceS : fnOf tys [(69, T_laws_toResource)] Try.f35 H_laws_toResourceS = T_laws_toResourceS := by kernel_rfl
theorem K_laws_toResourceS : SigOk Try.prog 35 T_laws_toResourceS := (congrArg (SigOk Try.prog 35) E_laws_toResourceS).mp (fnOf_ok rfl tysOk ⟨K_laws_toResource, trivial⟩ Try.func35 (by decide) rfl (fun _ h => by cases h) (nilEq_of (by kernel_rfl)))
def laws_toProject (x : (D_Project × Unit)) (c : Unit) : (Option (D_Project × Unit)) :=
  (Option.bind ((Option.bind (laws_toActivityS (x.1.2.1, ()) ()) fun v0 => (some v0.1)) : (Option (List D_Activity))) fun v1 => (Option.bind ((Option.bind (laws_toLinkS (x.1.2.2.1, ()) ()) fun v2 => (some v2.1)) : (Option (List D_Link))) fun v3 => (Option.bind ((Option.bind (laws_toResourceS (x.1.2.2.2.1, ()) ()) fun v4 => (some v4.1)) : (Option (List D_Resource))) fun v5 => (Option.bind ((Option.bind (laws_toIntS (x.1.2.2.2.2.1, ()) ()) fun v6 => (some v6.1)) : (Option (List Int))) fun v7 => (some ((x.1.1, (v1, (v3, (v5, (v7, ()))))), ()))))))
def H_laws_toProject : Hd := ⟨[.st [.int .i64, .sl 95 (.st [.str, .int .i64, .sl 145 (.st [.int .i64, .sl 3 (.int .i64), .sl 3 (.int .i64)])]), .sl 107 (.st [.int .i64, .int .i64, .bool, .int .i64]), .sl 99 (.st [.sl 148 (.st [.int .i64, .int .i64]), .sl 25 (.sl 3 (.int .i64))]), .sl 3 (.int .i64)]], [], none, .p, .st [.int .i64, .sl 79 (.st [.str, .int .i64, .sl 87 (.st [.int .i64, .sl 3 (.int .i64), .sl 3 (.int .i64)])]), .sl 105 (.st [.int .i64, .int .i64, .bool, .int .i64]), .sl 91 (.st [.sl 126 (.st [.int .i64, .int .i64]), .sl 25 (.sl 3 (.int .i64))]), .sl 3 (.int .i64)], (Ty.all (.st [.int .i64, .sl 79 (.st [.str, .int .i64, .sl 87 (.st [.int .i64, .sl 3 (.int .i64), .sl 3 (.int .i64)])]), .sl 105 (.st [.int .i64, .int .i64, .bool, .int .i64]), .sl 91 (.st [.sl 126 (.st [.int .i64, .int .i64]), .sl 25 (.sl 3 (.int .i64))]), .sl 3 (.int .i64)])), []⟩
def T_laws_toProject : FSig := ⟨H_laws_toProject.ps, H_laws_toProject.cs, H_laws_toProject.io, H_laws_toProject.im, H_laws_toProject.R, H_laws_toProject.m, laws_toProject⟩
theorem E_laws_toProject : fnOf tys [(33, T_laws_toActivityS), (34, T_laws_toLinkS), (35, T_laws_toResourceS), (36, T_laws_toIntS)] Try.f10 H_laws_toProject = T_laws_toProject := by kernel_rfl
theorem K_laws_toProject : SigOk Try.prog 10 T_laws_toProject := (congrArg (SigOk Try.prog 10) E_laws_toProject).mp (fnOf_ok rfl tysOk ⟨K_laws_toActivityS, K_laws_toLinkS, K_laws_toResourceS, K_laws_toIntS, trivial⟩ Try.func10 (by decide) rfl (fun _ h => by cases h) (nilEq_of (by kernel_rfl)))
def impl_within (x : (Int × D_Step)) (c : Unit) : (Option (Bool × Unit)) :=
  (Option.bind ((if (leZ x.2.1 x.1) = true then (some ((leZ x.1 x.2.2.1), ())) else (some (false, ()))) : (Option (Bool × Unit))) fun v0 => (some (v0.1, ())))
def H_impl_within : Hd := ⟨[.int .i64, .int .i64, .int .i64], [], none, .p, .bool, .p, []⟩
def T_impl_within : FSig := ⟨H_impl_within.ps, H_impl_within.cs, H_impl_within.io, H_impl_within.im, H_impl_within.R, H_impl_within.m, impl_within⟩
theorem E_impl_within : fnOf tys [] Try.f71 H_impl_within = T_impl_within := by kernel_rfl
theorem K_impl_within : SigOk Try.prog 71 T_impl_within := (congrArg (SigOk Try.prog 71) E_impl_within).mp (fnOf_ok rfl tysOk trivial Try.func71 (by decide) rfl (fun _ h => by cases h) (nilEq_of (by kernel_rfl)))
def impl_isAmount (x : (Int × Unit)) (c : Unit) : (Option (Bool × Unit)) :=
  (Option.bind ((Option.bind (impl_within (x.1, (0, (20, ()))) ()) fun v0 => (some v0.1)) : (Option Bool)) fun v1 => (some (v1, ())))
def H_impl_isAmount : Hd := ⟨[.int .i64], [], none, .p, .bool, .p, []⟩
def T_impl_isAmount : FSig := ⟨H_impl_isAmount.ps, H_impl_isAmount.cs, H_impl_isAmount.io, H_impl_isAmount.im, H_impl_isAmount.R, H_impl_isAmount.m, impl_isAmount⟩
theorem E_impl_isAmount : fnOf tys [(71, T_impl_within)] Try.f128 H_impl_isAmount = T_impl_isAmount := by kernel_rfl
theorem K_impl_isAmount : SigOk Try.prog 128 T_impl_isAmount := (congrArg (SigOk Try.prog 128) E_impl_isAmount).mp (fnOf_ok rfl tysOk ⟨K_impl_within, trivial⟩ Try.func128 (by decide) rfl (fun _ h => by cases h) (nilEq_of (by kernel_rfl)))
def impl_areAmounts_L0 : (Int × (Int × ((List Int) × ((List Int) × (Int × Unit))))) → Option (Out (Int × (Int × ((List Int) × ((List Int) × (Int × Unit))))) ((Bool × (Int × (Int × ((List Int) × ((List Int) × (Int × Unit)))))) ⊕ Empty) (Bool × Unit)) :=
  (fun v0 => (if (ltZ v0.1 v0.2.1) = true then (Option.bind (getI v0.2.2.1 v0.1) fun v1 => (Option.bind ((Option.bind (impl_isAmount (v1, ()) ()) fun v2 => (some v2.1)) : (Option Bool)) fun v3 => (if (notB v3) = true then (some (Out.ret (false, ()))) else (some (Out.norm ((addZ .i64 v0.1 1), (v0.2.1, (v0.2.2.1, (v0.2.2.2.1, (v0.2.2.2.2.1, ())))))))))) else (some (Out.exit (Sum.inl ((ltZ v0.1 v0.2.1), (v0.1, (v0.2.1, (v0.2.2.1, (v0.2.2.2.1, (v0.2.2.2.2.1, ())))))))))))
def impl_areAmounts (x : ((List Int) × (Int × Unit))) (c : Unit) : (Option (Bool × Unit)) :=
  (Option.bind (loopN (A := (Int × (Int × ((List Int) × ((List Int) × (Int × Unit)))))) big impl_areAmounts_L0 (0, ((lenI x.1), (x.1, (x.1, (x.2.1, ())))))) fun v4 => (match v4 with | Out.norm v5 => none | Out.exit v6 => (match ((match v6 with | Sum.inl v9 => (Sum.inl (v9.2.2.2.2.1, (v9.2.2.2.2.2.1, ()))) | Sum.inr v10 => (Empty.elim v10)) : (((List Int) × (Int × Unit)) ⊕ Empty)) with | Sum.inl v7 => (some ((eqZ (lenI v7.1) v7.2.1), ())) | Sum.inr v8 => none) | Out.ret v11 => (some v11)))
def H_impl_areAmounts : Hd := ⟨[.sl 3 (.int .i64), .int .i64], [], none, .p, .bool, .p, []⟩
def T_impl_areAmounts : FSig := ⟨H_impl_areAmounts.ps, H_impl_areAmounts.cs, H_impl_areAmounts.io, H_impl_areAmounts.im, H_impl_areAmounts.R, H_impl_areAmounts.m, impl_areAmounts⟩
theorem E_impl_areAmounts : fnOf tys [(128, T_impl_isAmount)] Try.f127 H_impl_areAmounts = T_impl_areAmounts := by kernel_rfl
theorem K_impl_areAmounts : SigOk Try.prog 127 T_impl_areAmounts := (congrArg (SigOk Try.prog 127) E_impl_areAmounts).mp (fnOf_ok rfl tysOk ⟨K_impl_isAmount, trivial⟩ Try.func127 (by decide) rfl (fun _ h => by cases h) (nilEq_of (by kernel_rfl)))
def impl_ModeOk (x : (D_Mode × D_Step)) (c : Unit) : (Option (Bool × Unit)) :=
  (Option.bind ((Option.bind (impl_within (x.1.1, (1, (12, ()))) ()) fun v0 => (some v0.1)) : (Option Bool)) fun v1 => (Option.bind ((if v1 = true then (Option.bind ((Option.bind (impl_areAmounts (x.1.2.1, (x.2.1, ())) ()) fun v2 => (some v2.1)) : (Option Bool)) fun v3 => (Option.bind ((if v3 = true then (Option.bind ((Option.bind (impl_areAmounts (x.1.2.2.1, (x.2.2.1, ())) ()) fun v4 => (some v4.1)) : (Option Bool)) fun v5 => (some (v5, ()))) else (some (false, ()))) : (Option (Bool × Unit))) fun v6 => (some (v6.1, ())))) else (some (false, ()))) : (Option (Bool × Unit))) fun v7 => (some (v7.1, ()))))
def H_impl_ModeOk : Hd := ⟨[.st [.int .i64, .sl 3 (.int .i64), .sl 3 (.int .i64)], .int .i64, .int .i64], [], none, .p, .bool, .p, []⟩
def T_impl_ModeOk : FSig := ⟨H_impl_ModeOk.ps, H_impl_ModeOk.cs, H_impl_ModeOk.io, H_impl_ModeOk.im, H_impl_ModeOk.R, H_impl_ModeOk.m, impl_ModeOk⟩
theorem E_impl_ModeOk : fnOf tys [(71, T_impl_within), (127, T_impl_areAmounts)] Try.f115 H_impl_ModeOk = T_impl_ModeOk := by kernel_rfl
theorem K_impl_ModeOk : SigOk Try.prog 115 T_impl_ModeOk := (congrArg (SigOk Try.prog 115) E_impl_ModeOk).mp (fnOf_ok rfl tysOk ⟨K_impl_within, K_impl_areAmounts, trivial⟩ Try.func115 (by decide) rfl (fun _ h => by cases h) (nilEq_of (by kernel_rfl)))
def impl_IsName_L0 : (Int × (Int × ((List UInt8) × Unit))) → Option (Out (Int × (Int × ((List UInt8) × Unit))) ((Bool × (Int × (Int × ((List UInt8) × Unit)))) ⊕ Empty) (Bool × Unit)) :=
  (fun v0 => (if (ltZ v0.1 v0.2.1) = true then (Option.bind (byteAt v0.2.2.1 v0.1) fun v1 => (Option.bind ((if (leZ 97 v1) = true then (Option.bind (byteAt v0.2.2.1 v0.1) fun v2 => (some ((leZ v2 122), (v0.1, (v0.1, (v0.2.1, (v0.2.2.1, ()))))))) else (some (false, (v0.1, (v0.1, (v0.2.1, (v0.2.2.1, ()))))))) : (Option (Bool × (Int × (Int × (Int × ((List UInt8) × Unit))))))) fun v3 => (Option.bind ((if (notB v3.1) = true then (Option.bind ((if (eqZ v3.2.1 0) = true then (some (true, (v3.2.2.1, (v3.2.2.2.1, (v3.2.2.2.2.1, ()))))) else (Option.bind (byteAt v3.2.2.2.2.1 v3.2.1) fun v4 => (Option.bind ((if (ltZ v4 48) = true then (some (true, (v3.2.2.1, (v3.2.2.2.1, (v3.2.2.2.2.1, ()))))) else (Option.bind (byteAt v3.2.2.2.2.1 v3.2.1) fun v5 => (some ((ltZ 57 v5), (v3.2.2.1, (v3.2.2.2.1, (v3.2.2.2.2.1, ()))))))) : (Option (Bool × (Int × (Int × ((List UInt8) × Unit)))))) fun v6 => (some (v6.1, (v6.2.1, (v6.2.2.1, (v6.2.2.2.1, ())))))))) : (Option (Bool × (Int × (Int × ((List UInt8) × Unit)))))) fun v7 => (some (v7.1, (v7.2.1, (v7.2.2.1, (v7.2.2.2.1, ())))))) else (some (false, (v3.2.2.1, (v3.2.2.2.1, (v3.2.2.2.2.1, ())))))) : (Option (Bool × (Int × (Int × ((List UInt8) × Unit)))))) fun v8 => (if v8.1 = true then (some (Out.ret (false, ()))) else (some (Out.norm ((addZ .i64 v8.2.1 1), (v8.2.2.1, (v8.2.2.2.1, ()))))))))) else (some (Out.exit (Sum.inl ((ltZ v0.1 v0.2.1), (v0.1, (v0.2.1, (v0.2.2.1, ())))))))))
def impl_IsName (x : ((List UInt8) × Unit)) (c : Unit) : (Option (Bool × Unit)) :=
  (Option.bind (loopN (A := (Int × (Int × ((List UInt8) × Unit)))) big impl_IsName_L0 (0, ((lenI x.1), (x.1, ())))) fun v9 => (match v9 with | Out.norm v10 => none | Out.exit v11 => (match ((match v11 with | Sum.inl v16 => (Sum.inl (v16.2.2.2.1, ())) | Sum.inr v17 => (Empty.elim v17)) : (((List UInt8) × Unit) ⊕ Empty)) with | Sum.inl v12 => (Option.bind ((Option.bind (impl_within ((lenI v12.1), (1, (8, ()))) ()) fun v13 => (some v13.1)) : (Option Bool)) fun v14 => (some (v14, ()))) | Sum.inr v15 => none) | Out.ret v18 => (some v18)))
def H_impl_IsName : Hd := ⟨[.str], [], none, .p, .bool, .p, []⟩
def T_impl_IsName : FSig := ⟨H_impl_IsName.ps, H_impl_IsName.cs, H_impl_IsName.io, H_impl_IsName.im, H_impl_IsName.R, H_impl_IsName.m, impl_IsName⟩
theorem E_impl_IsName : fnOf tys [(71, T_impl_within)] Try.f116 H_impl_IsName = T_impl_IsName := by kernel_rfl
theorem K_impl_IsName : SigOk Try.prog 116 T_impl_IsName := (congrArg (SigOk Try.prog 116) E_impl_IsName).mp (fnOf_ok rfl tysOk ⟨K_impl_within, trivial⟩ Try.func116 (by decide) rfl (fun _ h => by cases h) (nilEq_of (by kernel_rfl)))
def impl_ActivityOk_L0 : (Int × (Int × ((List D_Mode) × (Int × (Int × (D_Activity × Unit)))))) → Option (Out (Int × (Int × ((List D_Mode) × (Int × (Int × (D_Activity × Unit)))))) ((Bool × (Int × (Int × ((List D_Mode) × (Int × (Int × (D_Activity × Unit))))))) ⊕ Empty) (Bool × Unit)) :=
  (fun v0 => (if (ltZ v0.1 v0.2.1) = true then (Option.bind (getI v0.2.2.1 v0.1) fun v1 => (Option.bind ((Option.bind (impl_ModeOk (v1, (v0.2.2.2.1, (v0.2.2.2.2.1, ()))) ()) fun v2 => (some v2.1)) : (Option Bool)) fun v3 => (if (notB v3) = true then (some (Out.ret (false, ()))) else (some (Out.norm ((addZ .i64 v0.1 1), (v0.2.1, (v0.2.2.1, (v0.2.2.2.1, (v0.2.2.2.2.1, (v0.2.2.2.2.2.1, ()))))))))))) else (some (Out.exit (Sum.inl ((ltZ v0.1 v0.2.1), (v0.1, (v0.2.1, (v0.2.2.1, (v0.2.2.2.1, (v0.2.2.2.2.1, (v0.2.2.2.2.2.1, ()))))))))))))
def impl_ActivityOk (x : (D_Activity × D_Step)) (c : Unit) : (Option (Bool × Unit)) :=
  (Option.bind (loopN (A := (Int × (Int × ((List D_Mode) × (Int × (Int × (D_Activity × Unit))))))) big impl_ActivityOk_L0 (0, ((lenI x.1.2.2.1), (x.1.2.2.1, (x.2.1, (x.2.2.1, (x.1, ()))))))) fun v4 => (match v4 with | Out.norm v5 => none | Out.exit v6 => (match ((match v6 with | Sum.inl v17 => (Sum.inl (v17.2.2.2.2.2.2.1, ())) | Sum.inr v18 => (Empty.elim v18)) : ((D_Activity × Unit) ⊕ Empty)) with | Sum.inl v7 => (Option.bind ((Option.bind (impl_IsName (v7.1.1, ()) ()) fun v8 => (some v8.1)) : (Option Bool)) fun v9 => (Option.bind ((if v9 = true then (Option.bind ((Option.bind (impl_within (v7.1.2.1, (0, (3, ()))) ()) fun v10 => (some v10.1)) : (Option Bool)) fun v11 => (Option.bind ((if v11 = true then (Option.bind ((Option.bind (impl_within ((lenI v7.1.2.2.1), (1, (3, ()))) ()) fun v12 => (some v12.1)) : (Option Bool)) fun v13 => (some (v13, ()))) else (some (false, ()))) : (Option (Bool × Unit))) fun v14 => (some (v14.1, ())))) else (some (false, ()))) : (Option (Bool × Unit))) fun v15 => (some (v15.1, ())))) | Sum.inr v16 => none) | Out.ret v19 => (some v19)))
def H_impl_ActivityOk : Hd := ⟨[.st [.str, .int .i64, .sl 87 (.st [.int .i64, .sl 3 (.int .i64), .sl 3 (.int .i64)])], .int .i64, .int .i64], [], none, .p, .bool, .p, []⟩
def T_impl_ActivityOk : FSig := ⟨H_impl_ActivityOk.ps, H_impl_ActivityOk.cs, H_impl_ActivityOk.io, H_impl_ActivityOk.im, H_impl_ActivityOk.R, H_impl_ActivityOk.m, impl_ActivityOk⟩
theorem E_impl_ActivityOk : fnOf tys [(71, T_impl_within), (115, T_impl_ModeOk), (116, T_impl_IsName)] Try.f80 H_impl_ActivityOk = T_impl_ActivityOk := by kernel_rfl
theorem K_impl_ActivityOk : SigOk Try.prog 80 T_impl_ActivityOk := (congrArg (SigOk Try.prog 80) E_impl_ActivityOk).mp (fnOf_ok rfl tysOk ⟨K_impl_within, K_impl_ModeOk, K_impl_IsName, trivial⟩ Try.func80 (by decide) rfl (fun _ h => by cases h) (nilEq_of (by kernel_rfl)))
def slices_IndexFunc_impl_Activity_impl_Activity_L0 : (Int × (Int × (((D_Activity × Unit) → (Option Bool)) × ((List D_Activity) × Unit)))) → Option (Out (Int × (Int × (((D_Activity × Unit) → (Option Bool)) × ((List D_Activity) × Unit)))) ((Bool × (Int × (Int × (((D_Activity × Unit) → (Option Bool)) × ((List D_Activity) × Unit))))) ⊕ Empty) (Int × Unit)) :=
  (fun v0 => (if (ltZ v0.1 v0.2.1) = true then (Option.bind (getI v0.2.2.2.1 v0.1) fun v1 => (Option.bind (v0.2.2.1 (v1, ())) fun v2 => (if v2 = true then (some (Out.ret (v0.1, ()))) else (some (Out.norm ((addZ .i64 v0.1 1), (v0.2.1, (v0.2.2.1, (v0.2.2.2.1, ()))))))))) else (some (Out.exit (Sum.inl ((ltZ v0.1 v0.2.1), (v0.1, (v0.2.1, (v0.2.2.1, (v0.2.2.2.1, ()))))))))))
def slices_IndexFunc_impl_Activity_impl_Activity (x : ((List D_Activity) × (((D_Activity × Unit) → (Option Bool)) × Unit))) (c : Unit) : (Option (Int × Unit)) :=
  (Option.bind (loopN (A := (Int × (Int × (((D_Activity × Unit) → (Option Bool)) × ((List D_Activity) × Unit))))) big slices_IndexFunc_impl_Activity_impl_Activity_L0 (0, ((lenI x.1), (x.2.1, (x.1, ()))))) fun v3 => (match v3 with | Out.norm v4 => none | Out.exit v5 => (match ((match v5 with | Sum.inl v8 => (Sum.inl ()) | Sum.inr v9 => (Empty.elim v9)) : (Unit ⊕ Empty)) with | Sum.inl v6 => (some ((-1), ())) | Sum.inr v7 => none) | Out.ret v10 => (some v10)))
def H_slices_IndexFunc_impl_Activity_impl_Activity : Hd := ⟨[.sl 79 (.st [.str, .int .i64, .sl 87 (.st [.int .i64, .sl 3 (.int .i64), .sl 3 (.int .i64)])]), .fn [.st [.str, .int .i64, .sl 87 (.st [.int .i64, .sl 3 (.int .i64), .sl 3 (.int .i64)])]] (.bool)], [], none, .p, .int .i64, .p, []⟩
def T_slices_IndexFunc_impl_Activity_impl_Activity : FSig := ⟨H_slices_IndexFunc_impl_Activity_impl_Activity.ps, H_slices_IndexFunc_impl_Activity_impl_Activity.cs, H_slices_IndexFunc_impl_Activity_impl_Activity.io, H_slices_IndexFunc_impl_Activity_impl_Activity.im, H_slices_IndexFunc_impl_Activity_impl_Activity.R, H_slices_IndexFunc_impl_Activity_impl_Activity.m, slices_IndexFunc_impl_Activity_impl_Activity⟩
theorem E_slices_IndexFunc_impl_Activity_impl_Activity : fnOf tys [] Try.f117 H_slices_IndexFunc_impl_Activity_impl_Activity = T_slices_IndexFunc_impl_Activity_impl_Activity := by kernel_rfl
theorem K_slices_IndexFunc_impl_Activity_impl_Activity : SigOk Try.prog 117 T_slices_IndexFunc_impl_Activity_impl_Activity := (congrArg (SigOk Try.prog 117) E_slices_IndexFunc_impl_Activity_impl_Activity).mp (fnOf_ok rfl tysOk trivial Try.func117 (by decide) rfl (fun _ h => by cases h) (nilEq_of (by kernel_rfl)))
def impl_ActivityIndex_1 (x : (D_Activity × Unit)) (c : ((List UInt8) × Unit)) : (Option (Bool × Unit)) :=
  (some ((eqS x.1.1 c.1), ()))
def H_impl_ActivityIndex_1 : Hd := ⟨[.st [.str, .int .i64, .sl 87 (.st [.int .i64, .sl 3 (.int .i64), .sl 3 (.int .i64)])]], [.str], none, .p, .bool, .p, []⟩
def T_impl_ActivityIndex_1 : FSig := ⟨H_impl_ActivityIndex_1.ps, H_impl_ActivityIndex_1.cs, H_impl_ActivityIndex_1.io, H_impl_ActivityIndex_1.im, H_impl_ActivityIndex_1.R, H_impl_ActivityIndex_1.m, impl_ActivityIndex_1⟩
theorem E_impl_ActivityIndex_1 : fnOf tys [] Try.f118 H_impl_ActivityIndex_1 = T_impl_ActivityIndex_1 := by kernel_rfl
theorem K_impl_ActivityIndex_1 : SigOk Try.prog 118 T_impl_ActivityIndex_1 := (congrArg (SigOk Try.prog 118) E_impl_ActivityIndex_1).mp (fnOf_ok rfl tysOk trivial Try.func118 (by decide) rfl (fun _ h => by cases h) (nilEq_of (by kernel_rfl)))
def impl_ActivityIndex (x : (D_Project × ((List UInt8) × Unit))) (c : Unit) : (Option (Int × Unit)) :=
  (Option.bind ((Option.bind (slices_IndexFunc_impl_Activity_impl_Activity (x.1.2.1, ((fun v0 => (Option.bind (impl_ActivityIndex_1 v0 (x.2.1, ())) fun v1 => (some v1.1))), ())) ()) fun v2 => (some v2.1)) : (Option Int)) fun v3 => (some (v3, ())))
def H_impl_ActivityIndex : Hd := ⟨[.st [.int .i64, .sl 79 (.st [.str, .int .i64, .sl 87 (.st [.int .i64, .sl 3 (.int .i64), .sl 3 (.int .i64)])]), .sl 105 (.st [.int .i64, .int .i64, .bool, .int .i64]), .sl 91 (.st [.sl 126 (.st [.int .i64, .int .i64]), .sl 25 (.sl 3 (.int .i64))]), .sl 3 (.int .i64)], .str], [], none, .p, .int .i64, .p, []⟩
def T_impl_ActivityIndex : FSig := ⟨H_impl_ActivityIndex.ps, H_impl_ActivityIndex.cs, H_impl_ActivityIndex.io, H_impl_ActivityIndex.im, H_impl_ActivityIndex.R, H_impl_ActivityIndex.m, impl_ActivityIndex⟩
theorem E_impl_ActivityIndex : fnOf tys [(117, T_slices_IndexFunc_impl_Activity_impl_Activity), (118, T_impl_ActivityIndex_1)] Try.f81 H_impl_ActivityIndex = T_impl_ActivityIndex := by kernel_rfl
theorem K_impl_ActivityIndex : SigOk Try.prog 81 T_impl_ActivityIndex := (congrArg (SigOk Try.prog 81) E_impl_ActivityIndex).mp (fnOf_ok rfl tysOk ⟨K_slices_IndexFunc_impl_Activity_impl_Activity, K_impl_ActivityIndex_1, trivial⟩ Try.func81 (by decide) rfl (fun _ h => by cases h) (nilEq_of (by kernel_rfl)))
def impl_isTime (x : (Int × Unit)) (c : Unit) : (Option (Bool × Unit)) :=
  (Option.bind ((Option.bind (impl_within (x.1, (0, (60, ()))) ()) fun v0 => (some v0.1)) : (Option Bool)) fun v1 => (some (v1, ())))
def H_impl_isTime : Hd := ⟨[.int .i64], [], none, .p, .bool, .p, []⟩
def T_impl_isTime : FSig := ⟨H_impl_isTime.ps, H_impl_isTime.cs, H_impl_isTime.io, H_impl_isTime.im, H_impl_isTime.R, H_impl_isTime.m, impl_isTime⟩
theorem E_impl_isTime : fnOf tys [(71, T_impl_within)] Try.f70 H_impl_isTime = T_impl_isTime := by kernel_rfl
theorem K_impl_isTime : SigOk Try.prog 70 T_impl_isTime := (congrArg (SigOk Try.prog 70) E_impl_isTime).mp (fnOf_ok rfl tysOk ⟨K_impl_within, trivial⟩ Try.func70 (by decide) rfl (fun _ h => by cases h) (nilEq_of (by kernel_rfl)))
def impl_StepsOk_L0 : (Int × (Int × ((List D_Step) × ((List D_Step) × Unit)))) → Option (Out (Int × (Int × ((List D_Step) × ((List D_Step) × Unit)))) ((Bool × (Int × (Int × ((List D_Step) × ((List D_Step) × Unit))))) ⊕ Empty) (Bool × Unit)) :=
  (fun v0 => (if (ltZ v0.1 v0.2.1) = true then (Option.bind (getI v0.2.2.1 v0.1) fun v1 => (Option.bind ((Option.bind (impl_isTime (v1.1, ()) ()) fun v2 => (some v2.1)) : (Option Bool)) fun v3 => (Option.bind ((if (notB v3) = true then (some (true, (v0.1, (v0.2.1, (v0.2.2.1, (v0.2.2.2.1, ())))))) else (Option.bind ((Option.bind (impl_isAmount (v1.2.1, ()) ()) fun v4 => (some v4.1)) : (Option Bool)) fun v5 => (Option.bind ((if (notB v5) = true then (some (true, (v0.1, (v0.2.1, (v0.2.2.1, (v0.2.2.2.1, ())))))) else (Option.bind ((if (eqZ v0.1 0) = true then (Option.bind ((if (notB (eqZ v1.1 0)) = true then (some (true, (v0.1, (v0.2.1, (v0.2.2.1, (v0.2.2.2.1, ())))))) else (Option.bind ((if (ltZ 0 v0.1) = true then (Option.bind (getI v0.2.2.2.1 (subZ .i64 v0.1 1)) fun v6 => (some ((leZ v1.1 v6.1), (v0.1, (v0.2.1, (v0.2.2.1, (v0.2.2.2.1, ()))))))) else (some (false, (v0.1, (v0.2.1, (v0.2.2.1, (v0.2.2.2.1, ()))))))) : (Option (Bool × (Int × (Int × ((List D_Step) × ((List D_Step) × Unit))))))) fun v7 => (some (v7.1, (v7.2.1, (v7.2.2.1, (v7.2.2.2.1, (v7.2.2.2.2.1, ())))))))) : (Option (Bool × (Int × (Int × ((List D_Step) × ((List D_Step) × Unit))))))) fun v8 => (some (v8.1, (v8.2.1, (v8.2.2.1, (v8.2.2.2.1, (v8.2.2.2.2.1, ()))))))) else (Option.bind ((Option.bind ((if (ltZ 0 v0.1) = true then (Option.bind (getI v0.2.2.2.1 (subZ .i64 v0.1 1)) fun v9 => (some ((leZ v1.1 v9.1), (v0.1, (v0.2.1, (v0.2.2.1, (v0.2.2.2.1, ()))))))) else (some (false, (v0.1, (v0.2.1, (v0.2.2.1, (v0.2.2.2.1, ()))))))) : (Option (Bool × (Int × (Int × ((List D_Step) × ((List D_Step) × Unit))))))) fun v10 => (some (v10.1, (v10.2.1, (v10.2.2.1, (v10.2.2.2.1, (v10.2.2.2.2.1, ()))))))) : (Option (Bool × (Int × (Int × ((List D_Step) × ((List D_Step) × Unit))))))) fun v11 => (some (v11.1, (v11.2.1, (v11.2.2.1, (v11.2.2.2.1, (v11.2.2.2.2.1, ())))))))) : (Option (Bool × (Int × (Int × ((List D_Step) × ((List D_Step) × Unit))))))) fun v12 => (some (v12.1, (v12.2.1, (v12.2.2.1, (v12.2.2.2.1, (v12.2.2.2.2.1, ())))))))) : (Option (Bool × (Int × (Int × ((List D_Step) × ((List D_Step) × Unit))))))) fun v13 => (some (v13.1, (v13.2.1, (v13.2.2.1, (v13.2.2.2.1, (v13.2.2.2.2.1, ()))))))))) : (Option (Bool × (Int × (Int × ((List D_Step) × ((List D_Step) × Unit))))))) fun v14 => (if v14.1 = true then (some (Out.ret (false, ()))) else (some (Out.norm ((addZ .i64 v14.2.1 1), (v14.2.2.1, (v14.2.2.2.1, (v14.2.2.2.2.1, ())))))))))) else (some (Out.exit (Sum.inl ((ltZ v0.1 v0.2.1), (v0.1, (v0.2.1, (v0.2.2.1, (v0.2.2.2.1, ()))))))))))
def impl_StepsOk (x : ((List D_Step) × Unit)) (c : Unit) : (Option (Bool × Unit)) :=
  (Option.bind (loopN (A := (Int × (Int × ((List D_Step) × ((List D_Step) × Unit))))) big impl_StepsOk_L0 (0, ((lenI x.1), (x.1, (x.1, ()))))) fun v15 => (match v15 with | Out.norm v16 => none | Out.exit v17 => (match ((match v17 with | Sum.inl v22 => (Sum.inl (v22.2.2.2.2.1, ())) | Sum.inr v23 => (Empty.elim v23)) : (((List D_Step) × Unit) ⊕ Empty)) with | Sum.inl v18 => (Option.bind ((Option.bind (impl_within ((lenI v18.1), (1, (8, ()))) ()) fun v19 => (some v19.1)) : (Option Bool)) fun v20 => (some (v20, ()))) | Sum.inr v21 => none) | Out.ret v24 => (some v24)))
def H_impl_StepsOk : Hd := ⟨[.sl 126 (.st [.int .i64, .int .i64])], [], none, .p, .bool, .p, []⟩
def T_impl_StepsOk : FSig := ⟨H_impl_StepsOk.ps, H_impl_StepsOk.cs, H_impl_StepsOk.io, H_impl_StepsOk.im, H_impl_StepsOk.R, H_impl_StepsOk.m, impl_StepsOk⟩
theorem E_impl_StepsOk : fnOf tys [(70, T_impl_isTime), (71, T_impl_within), (128, T_impl_isAmount)] Try.f119 H_impl_StepsOk = T_impl_StepsOk := by kernel_rfl
theorem K_impl_StepsOk : SigOk Try.prog 119 T_impl_StepsOk := (congrArg (SigOk Try.prog 119) E_impl_StepsOk).mp (fnOf_ok rfl tysOk ⟨K_impl_isTime, K_impl_within, K_impl_isAmount, trivial⟩ Try.func119 (by decide) rfl (fun _ h => by cases h) (nilEq_of (by kernel_rfl)))
def impl_ResourceOk_L0 : (Int × (Int × ((List Int) × (Int × (Int × ((List (List Int)) × (D_Resource × Unit))))))) → Option (Out (Int × (Int × ((List Int) × (Int × (Int × ((List (List Int)) × (D_Resource × Unit))))))) ((Bool × (Int × (Int × ((List Int) × (Int × (Int × ((List (List Int)) × (D_Resource × Unit)))))))) ⊕ Empty) (Bool × Unit)) :=
  (fun v2 => (if (ltZ v2.1 v2.2.1) = true then (Option.bind (getI v2.2.2.1 v2.1) fun v3 => (Option.bind ((Option.bind (impl_within (v3, (0, (12, ()))) ()) fun v4 => (some v4.1)) : (Option Bool)) fun v5 => (if (notB v5) = true then (some (Out.ret (false, ()))) else (some (Out.norm ((addZ .i64 v2.1 1), (v2.2.1, (v2.2.2.1, (v2.2.2.2.1, (v2.2.2.2.2.1, (v2.2.2.2.2.2.1, (v2.2.2.2.2.2.2.1, ())))))))))))) else (some (Out.exit (Sum.inl ((ltZ v2.1 v2.2.1), (v2.1, (v2.2.1, (v2.2.2.1, (v2.2.2.2.1, (v2.2.2.2.2.1, (v2.2.2.2.2.2.1, (v2.2.2.2.2.2.2.1, ())))))))))))))
def impl_ResourceOk_L1 : (Int × (Int × ((List (List Int)) × (D_Resource × Unit)))) → Option (Out (Int × (Int × ((List (List Int)) × (D_Resource × Unit)))) ((Bool × (Int × (Int × ((List (List Int)) × (D_Resource × Unit))))) ⊕ Empty) (Bool × Unit)) :=
  (fun v0 => (if (ltZ v0.1 v0.2.1) = true then (Option.bind (getI v0.2.2.1 v0.1) fun v1 => (if (notB (eqZ (lenI v1) 4)) = true then (some (Out.ret (false, ()))) else (Option.bind (loopN (A := (Int × (Int × ((List Int) × (Int × (Int × ((List (List Int)) × (D_Resource × Unit)))))))) big impl_ResourceOk_L0 (0, ((lenI v1), (v1, (v0.1, (v0.2.1, (v0.2.2.1, (v0.2.2.2.1, ())))))))) fun v6 => (match v6 with | Out.norm v7 => none | Out.exit v8 => (match ((match v8 with | Sum.inl v13 => (Sum.inl (v13.2.2.2.2.1, (v13.2.2.2.2.2.1, (v13.2.2.2.2.2.2.1, (v13.2.2.2.2.2.2.2.1, ()))))) | Sum.inr v14 => (Empty.elim v14)) : ((Int × (Int × ((List (List Int)) × (D_Resource × Unit)))) ⊕ Empty)) with | Sum.inl v9 => (some (Out.norm ((addZ .i64 v9.1 1), (v9.2.1, (v9.2.2.1, (v9.2.2.2.1, ())))))) | Sum.inr v10 => (match ((Empty.elim v10) : ((Int × (Int × ((List (List Int)) × (D_Resource × Unit)))) ⊕ Empty)) with | Sum.inl v11 => (some (Out.norm ((addZ .i64 v11.1 1), (v11.2.1, (v11.2.2.1, (v11.2.2.2.1, ())))))) | Sum.inr v12 => (some (Out.exit (Sum.inr (Empty.elim v12)))))) | Out.ret v15 => (some (Out.ret v15)))))) else (some (Out.exit (Sum.inl ((ltZ v0.1 v0.2.1), (v0.1, (v0.2.1, (v0.2.2.1, (v0.2.2.2.1, ()))))))))))
def impl_ResourceOk (x : (D_Resource × Unit)) (c : Unit) : (Option (Bool × Unit)) :=
  (Option.bind (loopN (A := (Int × (Int × ((List (List Int)) × (D_Resource × Unit))))) big impl_ResourceOk_L1 (0, ((lenI x.1.2.1), (x.1.2.1, (x.1, ()))))) fun v16 => (match v16 with | Out.norm v17 => none | Out.exit v18 => (match ((match v18 with | Sum.inl v25 => (Sum.inl (v25.2.2.2.2.1, ())) | Sum.inr v26 => (Empty.elim v26)) : ((D_Resource × Unit) ⊕ Empty)) with | Sum.inl v19 => (Option.bind ((Option.bind (impl_StepsOk (v19.1.1, ()) ()) fun v20 => (some v20.1)) : (Option Bool)) fun v21 => (Option.bind ((if v21 = true then (Option.bind ((if (eqZ (lenI v19.1.2.1) 0) = true then (some (true, ())) else (some ((eqZ (lenI v19.1.2.1) 4), ()))) : (Option (Bool × Unit))) fun v22 => (some (v22.1, ()))) else (some (false, ()))) : (Option (Bool × Unit))) fun v23 => (some (v23.1, ())))) | Sum.inr v24 => none) | Out.ret v27 => (some v27)))
def H_impl_ResourceOk : Hd := ⟨[.st [.sl 126 (.st [.int .i64, .int .i64]), .sl 25 (.sl 3 (.int .i64))]], [], none, .p, .bool, .p, []⟩
def T_impl_ResourceOk : FSig := ⟨H_impl_ResourceOk.ps, H_impl_ResourceOk.cs, H_impl_ResourceOk.io, H_impl_ResourceOk.im, H_impl_ResourceOk.R, H_impl_ResourceOk.m, impl_ResourceOk⟩
theorem E_impl_ResourceOk : fnOf tys [(71, T_impl_within), (119, T_impl_StepsOk)] Try.f82 H_impl_ResourceOk = T_impl_ResourceOk := by kernel_rfl
theorem K_impl_ResourceOk : SigOk Try.prog 82 T_impl_ResourceOk := (congrArg (SigOk Try.prog 82) E_impl_ResourceOk).mp (fnOf_ok rfl tysOk ⟨K_impl_within, K_impl_StepsOk, trivial⟩ Try.func82 (by decide) rfl (fun _ h => by cases h) (nilEq_of (by kernel_rfl)))
def slices_IndexFunc_impl_Link_impl_Link_L0 : (Int × (Int × (((D_Link × Unit) → (Option Bool)) × ((List D_Link) × Unit)))) → Option (Out (Int × (Int × (((D_Link × Unit) → (Option Bool)) × ((List D_Link) × Unit)))) ((Bool × (Int × (Int × (((D_Link × Unit) → (Option Bool)) × ((List D_Link) × Unit))))) ⊕ Empty) (Int × Unit)) :=
  (fun v0 => (if (ltZ v0.1 v0.2.1) = true then (Option.bind (getI v0.2.2.2.1 v0.1) fun v1 => (Option.bind (v0.2.2.1 (v1, ())) fun v2 => (if v2 = true then (some (Out.ret (v0.1, ()))) else (some (Out.norm ((addZ .i64 v0.1 1), (v0.2.1, (v0.2.2.1, (v0.2.2.2.1, ()))))))))) else (some (Out.exit (Sum.inl ((ltZ v0.1 v0.2.1), (v0.1, (v0.2.1, (v0.2.2.1, (v0.2.2.2.1, ()))))))))))
def slices_IndexFunc_impl_Link_impl_Link (x : ((List D_Link) × (((D_Link × Unit) → (Option Bool)) × Unit))) (c : Unit) : (Option (Int × Unit)) :=
  (Option.bind (loopN (A := (Int × (Int × (((D_Link × Unit) → (Option Bool)) × ((List D_Link) × Unit))))) big slices_IndexFunc_impl_Link_impl_Link_L0 (0, ((lenI x.1), (x.2.1, (x.1, ()))))) fun v3 => (match v3 with | Out.norm v4 => none | Out.exit v5 => (match ((match v5 with | Sum.inl v8 => (Sum.inl ()) | Sum.inr v9 => (Empty.elim v9)) : (Unit ⊕ Empty)) with | Sum.inl v6 => (some ((-1), ())) | Sum.inr v7 => none) | Out.ret v10 => (some v10)))
def H_slices_IndexFunc_impl_Link_impl_Link : Hd := ⟨[.sl 105 (.st [.int .i64, .int .i64, .bool, .int .i64]), .fn [.st [.int .i64, .int .i64, .bool, .int .i64]] (.bool)], [], none, .p, .int .i64, .p, []⟩
def T_slices_IndexFunc_impl_Link_impl_Link : FSig := ⟨H_slices_IndexFunc_impl_Link_impl_Link.ps, H_slices_IndexFunc_impl_Link_impl_Link.cs, H_slices_IndexFunc_impl_Link_impl_Link.io, H_slices_IndexFunc_impl_Link_impl_Link.im, H_slices_IndexFunc_impl_Link_impl_Link.R, H_slices_IndexFunc_impl_Link_impl_Link.m, slices_IndexFunc_impl_Link_impl_Link⟩
theorem E_slices_IndexFunc_impl_Link_impl_Link : fnOf tys [] Try.f120 H_slices_IndexFunc_impl_Link_impl_Link = T_slices_IndexFunc_impl_Link_impl_Link := by kernel_rfl
theorem K_slices_IndexFunc_impl_Link_impl_Link : SigOk Try.prog 120 T_slices_IndexFunc_impl_Link_impl_Link := (congrArg (SigOk Try.prog 120) E_slices_IndexFunc_impl_Link_impl_Link).mp (fnOf_ok rfl tysOk trivial Try.func120 (by decide) rfl (fun _ h => by cases h) (nilEq_of (by kernel_rfl)))
def slices_ContainsFunc_impl_Link_impl_Link (x : ((List D_Link) × (((D_Link × Unit) → (Option Bool)) × Unit))) (c : Unit) : (Option (Bool × Unit)) :=
  (Option.bind ((Option.bind (slices_IndexFunc_impl_Link_impl_Link (x.1, (x.2.1, ())) ()) fun v0 => (some v0.1)) : (Option Int)) fun v1 => (some ((leZ 0 v1), ())))
def H_slices_ContainsFunc_impl_Link_impl_Link : Hd := ⟨[.sl 105 (.st [.int .i64, .int .i64, .bool, .int .i64]), .fn [.st [.int .i64, .int .i64, .bool, .int .i64]] (.bool)], [], none, .p, .bool, .p, []⟩
def T_slices_ContainsFunc_impl_Link_impl_Link : FSig := ⟨H_slices_ContainsFunc_impl_Link_impl_Link.ps, H_slices_ContainsFunc_impl_Link_impl_Link.cs, H_slices_ContainsFunc_impl_Link_impl_Link.io, H_slices_ContainsFunc_impl_Link_impl_Link.im, H_slices_ContainsFunc_impl_Link_impl_Link.R, H_slices_ContainsFunc_impl_Link_impl_Link.m, slices_ContainsFunc_impl_Link_impl_Link⟩
theorem E_slices_ContainsFunc_impl_Link_impl_Link : fnOf tys [(120, T_slices_IndexFunc_impl_Link_impl_Link)] Try.f83 H_slices_ContainsFunc_impl_Link_impl_Link = T_slices_ContainsFunc_impl_Link_impl_Link := by kernel_rfl
theorem K_slices_ContainsFunc_impl_Link_impl_Link : SigOk Try.prog 83 T_slices_ContainsFunc_impl_Link_impl_Link := (congrArg (SigOk Try.prog 83) E_slices_ContainsFunc_impl_Link_impl_Link).mp (fnOf_ok rfl tysOk ⟨K_slices_IndexFunc_impl_Link_impl_Link, trivial⟩ Try.func83 (by decide) rfl (fun _ h => by cases h) (nilEq_of (by kernel_rfl)))
def impl_Project_hasActivity (x : (D_Project × (Int × Unit))) (c : Unit) : (Option (Bool × Unit)) :=
  (Option.bind ((Option.bind (impl_within (x.2.1, (0, ((subZ .i64 (lenI x.1.2.1) 1), ()))) ()) fun v0 => (some v0.1)) : (Option Bool)) fun v1 => (some (v1, ())))
def H_impl_Project_hasActivity : Hd := ⟨[.st [.int .i64, .sl 79 (.st [.str, .int .i64, .sl 87 (.st [.int .i64, .sl 3 (.int .i64), .sl 3 (.int .i64)])]), .sl 105 (.st [.int .i64, .int .i64, .bool, .int .i64]), .sl 91 (.st [.sl 126 (.st [.int .i64, .int .i64]), .sl 25 (.sl 3 (.int .i64))]), .sl 3 (.int .i64)], .int .i64], [], none, .p, .bool, .p, []⟩
def T_impl_Project_hasActivity : FSig := ⟨H_impl_Project_hasActivity.ps, H_impl_Project_hasActivity.cs, H_impl_Project_hasActivity.io, H_impl_Project_hasActivity.im, H_impl_Project_hasActivity.R, H_impl_Project_hasActivity.m, impl_Project_hasActivity⟩
theorem E_impl_Project_hasActivity : fnOf tys [(71, T_impl_within)] Try.f96 H_impl_Project_hasActivity = T_impl_Project_hasActivity := by kernel_rfl
theorem K_impl_Project_hasActivity : SigOk Try.prog 96 T_impl_Project_hasActivity := (congrArg (SigOk Try.prog 96) E_impl_Project_hasActivity).mp (fnOf_ok rfl tysOk ⟨K_impl_within, trivial⟩ Try.func96 (by decide) rfl (fun _ h => by cases h) (nilEq_of (by kernel_rfl)))
def impl_Project_linkOk (x : (D_Project × (D_Link × Unit))) (c : Unit) : (Option (Bool × Unit)) :=
  (Option.bind ((Option.bind (impl_Project_hasActivity (x.1, (x.2.1.1, ())) ()) fun v0 => (some v0.1)) : (Option Bool)) fun v1 => (Option.bind ((if v1 = true then (Option.bind ((Option.bind (impl_Project_hasActivity (x.1, (x.2.1.2.1, ())) ()) fun v2 => (some v2.1)) : (Option Bool)) fun v3 => (Option.bind ((if v3 = true then (Option.bind ((if (notB (eqZ x.2.1.1 x.2.1.2.1)) = true then (Option.bind ((Option.bind (impl_within (x.2.1.2.2.2.1, ((-60), (60, ()))) ()) fun v4 => (some v4.1)) : (Option Bool)) fun v5 => (some (v5, ()))) else (some (false, ()))) : (Option (Bool × Unit))) fun v6 => (some (v6.1, ()))) else (some (false, ()))) : (Option (Bool × Unit))) fun v7 => (some (v7.1, ())))) else (some (false, ()))) : (Option (Bool × Unit))) fun v8 => (some (v8.1, ()))))
def H_impl_Project_linkOk : Hd := ⟨[.st [.int .i64, .sl 79 (.st [.str, .int .i64, .sl 87 (.st [.int .i64, .sl 3 (.int .i64), .sl 3 (.int .i64)])]), .sl 105 (.st [.int .i64, .int .i64, .bool, .int .i64]), .sl 91 (.st [.sl 126 (.st [.int .i64, .int .i64]), .sl 25 (.sl 3 (.int .i64))]), .sl 3 (.int .i64)], .st [.int .i64, .int .i64, .bool, .int .i64]], [], none, .p, .bool, .p, []⟩
def T_impl_Project_linkOk : FSig := ⟨H_impl_Project_linkOk.ps, H_impl_Project_linkOk.cs, H_impl_Project_linkOk.io, H_impl_Project_linkOk.im, H_impl_Project_linkOk.R, H_impl_Project_linkOk.m, impl_Project_linkOk⟩
theorem E_impl_Project_linkOk : fnOf tys [(71, T_impl_within), (96, T_impl_Project_hasActivity)] Try.f85 H_impl_Project_linkOk = T_impl_Project_linkOk := by kernel_rfl
theorem K_impl_Project_linkOk : SigOk Try.prog 85 T_impl_Project_linkOk := (congrArg (SigOk Try.prog 85) E_impl_Project_linkOk).mp (fnOf_ok rfl tysOk ⟨K_impl_within, K_impl_Project_hasActivity, trivial⟩ Try.func85 (by decide) rfl (fun _ h => by cases h) (nilEq_of (by kernel_rfl)))
def impl_ProjectOk_1 (x : (D_Link × Unit)) (c : (D_Project × Unit)) : (Option (Bool × Unit)) :=
  (Option.bind ((Option.bind (impl_Project_linkOk (c.1, (x.1, ())) ()) fun v0 => (some v0.1)) : (Option Bool)) fun v1 => (some ((notB v1), ())))
def H_impl_ProjectOk_1 : Hd := ⟨[.st [.int .i64, .int .i64, .bool, .int .i64]], [.st [.int .i64, .sl 79 (.st [.str, .int .i64, .sl 87 (.st [.int .i64, .sl 3 (.int .i64), .sl 3 (.int .i64)])]), .sl 105 (.st [.int .i64, .int .i64, .bool, .int .i64]), .sl 91 (.st [.sl 126 (.st [.int .i64, .int .i64]), .sl 25 (.sl 3 (.int .i64))]), .sl 3 (.int .i64)]], none, .p, .bool, .p, []⟩
def T_impl_ProjectOk_1 : FSig := ⟨H_impl_ProjectOk_1.ps, H_impl_ProjectOk_1.cs, H_impl_ProjectOk_1.io, H_impl_ProjectOk_1.im, H_impl_ProjectOk_1.R, H_impl_ProjectOk_1.m, impl_ProjectOk_1⟩
theorem E_impl_ProjectOk_1 : fnOf tys [(85, T_impl_Project_linkOk)] Try.f84 H_impl_ProjectOk_1 = T_impl_ProjectOk_1 := by kernel_rfl
theorem K_impl_ProjectOk_1 : SigOk Try.prog 84 T_impl_ProjectOk_1 := (congrArg (SigOk Try.prog 84) E_impl_ProjectOk_1).mp (fnOf_ok rfl tysOk ⟨K_impl_Project_linkOk, trivial⟩ Try.func84 (by decide) rfl (fun _ h => by cases h) (nilEq_of (by kernel_rfl)))
def impl_ProjectOk_L0 : (Int × (Int × ((List D_Activity) × (D_Project × Unit)))) → Option (Out (Int × (Int × ((List D_Activity) × (D_Project × Unit)))) ((Bool × (Int × (Int × ((List D_Activity) × (D_Project × Unit))))) ⊕ Empty) (Bool × Unit)) :=
  (fun v8 => (if (ltZ v8.1 v8.2.1) = true then (Option.bind (getI v8.2.2.1 v8.1) fun v9 => (Option.bind ((Option.bind (impl_ActivityOk (v9, ((lenI v8.2.2.2.1.2.2.2.1), ((lenI v8.2.2.2.1.2.2.2.2.1), ()))) ()) fun v10 => (some v10.1)) : (Option Bool)) fun v11 => (Option.bind ((if (notB v11) = true then (some (true, (v8.1, (v8.2.1, (v8.2.2.1, (v8.2.2.2.1, ())))))) else (Option.bind ((Option.bind (impl_ActivityIndex (v8.2.2.2.1, (v9.1, ())) ()) fun v12 => (some v12.1)) : (Option Int)) fun v13 => (some ((notB (eqZ v13 v8.1)), (v8.1, (v8.2.1, (v8.2.2.1, (v8.2.2.2.1, ())))))))) : (Option (Bool × (Int × (Int × ((List D_Activity) × (D_Project × Unit))))))) fun v14 => (if v14.1 = true then (some (Out.ret (false, ()))) else (some (Out.norm ((addZ .i64 v14.2.1 1), (v14.2.2.1, (v14.2.2.2.1, (v14.2.2.2.2.1, ())))))))))) else (some (Out.exit (Sum.inl ((ltZ v8.1 v8.2.1), (v8.1, (v8.2.1, (v8.2.2.1, (v8.2.2.2.1, ()))))))))))
def impl_ProjectOk_L1 : (Int × (Int × ((List D_Resource) × (D_Project × Unit)))) → Option (Out (Int × (Int × ((List D_Resource) × (D_Project × Unit)))) ((Bool × (Int × (Int × ((List D_Resource) × (D_Project × Unit))))) ⊕ Empty) (Bool × Unit)) :=
  (fun v19 => (if (ltZ v19.1 v19.2.1) = true then (Option.bind (getI v19.2.2.1 v19.1) fun v20 => (Option.bind ((Option.bind (impl_ResourceOk (v20, ()) ()) fun v21 => (some v21.1)) : (Option Bool)) fun v22 => (if (notB v22) = true then (some (Out.ret (false, ()))) else (some (Out.norm ((addZ .i64 v19.1 1), (v19.2.1, (v19.2.2.1, (v19.2.2.2.1, ()))))))))) else (some (Out.exit (Sum.inl ((ltZ v19.1 v19.2.1), (v19.1, (v19.2.1, (v19.2.2.1, (v19.2.2.2.1, ()))))))))))
def impl_ProjectOk_L2 : (Int × (Int × ((List Int) × (D_Project × Unit)))) → Option (Out (Int × (Int × ((List Int) × (D_Project × Unit)))) ((Bool × (Int × (Int × ((List Int) × (D_Project × Unit))))) ⊕ Empty) (Bool × Unit)) :=
  (fun v27 => (if (ltZ v27.1 v27.2.1) = true then (Option.bind (getI v27.2.2.1 v27.1) fun v28 => (Option.bind ((Option.bind (impl_within (v28, (0, (100, ()))) ()) fun v29 => (some v29.1)) : (Option Bool)) fun v30 => (if (notB v30) = true then (some (Out.ret (false, ()))) else (some (Out.norm ((addZ .i64 v27.1 1), (v27.2.1, (v27.2.2.1, (v27.2.2.2.1, ()))))))))) else (some (Out.exit (Sum.inl ((ltZ v27.1 v27.2.1), (v27.1, (v27.2.1, (v27.2.2.1, (v27.2.2.2.1, ()))))))))))
def impl_ProjectOk (x : (D_Project × Unit)) (c : Unit) : (Option (Bool × Unit)) :=
  (Option.bind ((Option.bind (impl_within (x.1.1, (1, (60, ()))) ()) fun v0 => (some v0.1)) : (Option Bool)) fun v1 => (Option.bind ((if (notB v1) = true then (some (true, (x.1, ()))) else (Option.bind ((Option.bind (impl_within ((lenI x.1.2.1), (1, (6, ()))) ()) fun v2 => (some v2.1)) : (Option Bool)) fun v3 => (Option.bind ((if (notB v3) = true then (some (true, (x.1, ()))) else (Option.bind ((if (ltZ 3 (lenI x.1.2.2.2.1)) = true then (some (true, (x.1, ()))) else (Option.bind ((if (ltZ 2 (lenI x.1.2.2.2.2.1)) = true then (some (true, (x.1, ()))) else (some ((ltZ 12 (lenI x.1.2.2.1)), (x.1, ())))) : (Option (Bool × (D_Project × Unit)))) fun v4 => (some (v4.1, (v4.2.1, ()))))) : (Option (Bool × (D_Project × Unit)))) fun v5 => (some (v5.1, (v5.2.1, ()))))) : (Option (Bool × (D_Project × Unit)))) fun v6 => (some (v6.1, (v6.2.1, ())))))) : (Option (Bool × (D_Project × Unit)))) fun v7 => (if v7.1 = true then (some (false, ())) else (Option.bind (loopN (A := (Int × (Int × ((List D_Activity) × (D_Project × Unit))))) big impl_ProjectOk_L0 (0, ((lenI v7.2.1.2.1), (v7.2.1.2.1, (v7.2.1, ()))))) fun v15 => (match v15 with | Out.norm v16 => none | Out.exit v17 => (match ((match v17 with | Sum.inl v48 => (Sum.inl (v48.2.2.2.2.1, ())) | Sum.inr v49 => (Empty.elim v49)) : ((D_Project × Unit) ⊕ Empty)) with | Sum.inl v18 => (Option.bind (loopN (A := (Int × (Int × ((List D_Resource) × (D_Project × Unit))))) big impl_ProjectOk_L1 (0, ((lenI v18.1.2.2.2.1), (v18.1.2.2.2.1, (v18.1, ()))))) fun v23 => (match v23 with | Out.norm v24 => none | Out.exit v25 => (match ((match v25 with | Sum.inl v44 => (Sum.inl (v44.2.2.2.2.1, ())) | Sum.inr v45 => (Empty.elim v45)) : ((D_Project × Unit) ⊕ Empty)) with | Sum.inl v26 => (Option.bind (loopN (A := (Int × (Int × ((List Int) × (D_Project × Unit))))) big impl_ProjectOk_L2 (0, ((lenI v26.1.2.2.2.2.1), (v26.1.2.2.2.2.1, (v26.1, ()))))) fun v31 => (match v31 with | Out.norm v32 => none | Out.exit v33 => (match ((match v33 with | Sum.inl v40 => (Sum.inl (v40.2.2.2.2.1, ())) | Sum.inr v41 => (Empty.elim v41)) : ((D_Project × Unit) ⊕ Empty)) with | Sum.inl v34 => (Option.bind ((Option.bind (slices_ContainsFunc_impl_Link_impl_Link (v34.1.2.2.1, ((fun v35 => (Option.bind (impl_ProjectOk_1 v35 (v34.1, ())) fun v36 => (some v36.1))), ())) ()) fun v37 => (some v37.1)) : (Option Bool)) fun v38 => (some ((notB v38), ()))) | Sum.inr v39 => none) | Out.ret v42 => (some v42))) | Sum.inr v43 => none) | Out.ret v46 => (some v46))) | Sum.inr v47 => none) | Out.ret v50 => (some v50))))))
def H_impl_ProjectOk : Hd := ⟨[.st [.int .i64, .sl 79 (.st [.str, .int .i64, .sl 87 (.st [.int .i64, .sl 3 (.int .i64), .sl 3 (.int .i64)])]), .sl 105 (.st [.int .i64, .int .i64, .bool, .int .i64]), .sl 91 (.st [.sl 126 (.st [.int .i64, .int .i64]), .sl 25 (.sl 3 (.int .i64))]), .sl 3 (.int .i64)]], [], none, .p, .bool, .p, []⟩
def T_impl_ProjectOk : FSig := ⟨H_impl_ProjectOk.ps, H_impl_ProjectOk.cs, H_impl_ProjectOk.io, H_impl_ProjectOk.im, H_impl_ProjectOk.R, H_impl_ProjectOk.m, impl_ProjectOk⟩
theorem E_impl_ProjectOk : fnOf tys [(71, T_impl_within), (80, T_impl_ActivityOk), (81, T_impl_ActivityIndex), (82, T_impl_ResourceOk), (83, T_slices_ContainsFunc_impl_Link_impl_Link), (84, T_impl_ProjectOk_1)] Try.f45 H_impl_ProjectOk = T_impl_ProjectOk := by kernel_rfl
theorem K_impl_ProjectOk : SigOk Try.prog 45 T_impl_ProjectOk := (congrArg (SigOk Try.prog 45) E_impl_ProjectOk).mp (fnOf_ok rfl tysOk ⟨K_impl_within, K_impl_ActivityOk, K_impl_ActivityIndex, K_impl_ResourceOk, K_slices_ContainsFunc_impl_Link_impl_Link, K_impl_ProjectOk_1, trivial⟩ Try.func45 (by decide) rfl (fun _ h => by cases h) (nilEq_of (by kernel_rfl)))
def laws_eqIntS_L0 : D_Mode → Option (Out D_Mode ((Bool × D_Mode) ⊕ Empty) (Bool × Unit)) :=
  (fun v0 => (if (ltZ v0.1 (lenI v0.2.1)) = true then (Option.bind (getI v0.2.1 v0.1) fun v1 => (Option.bind (getI v0.2.2.1 v0.1) fun v2 => (if (notB (eqZ v1 v2)) = true then (some (Out.ret (false, ()))) else (some (Out.norm ((addZ .i64 v0.1 1), (v0.2.1, (v0.2.2.1, ())))))))) else (some (Out.exit (Sum.inl ((ltZ v0.1 (lenI v0.2.1)), (v0.1, (v0.2.1, (v0.2.2.1, ())))))))))
def laws_eqIntS (x : ((List Int) × ((List Int) × Unit))) (c : Unit) : (Option (Bool × Unit)) :=
  (if (notB (eqZ (lenI x.1) (lenI x.2.1))) = true then (some (false, ())) else (Option.bind (loopN (A := D_Mode) big laws_eqIntS_L0 (0, (x.1, (x.2.1, ())))) fun v3 => (match v3 with | Out.norm v4 => none | Out.exit v5 => (match ((match v5 with | Sum.inl v8 => (Sum.inl ()) | Sum.inr v9 => (Empty.elim v9)) : (Unit ⊕ Empty)) with | Sum.inl v6 => (some (true, ())) | Sum.inr v7 => none) | Out.ret v10 => (some v10))))
def H_laws_eqIntS : Hd := ⟨[.sl 3 (.int .i64), .sl 3 (.int .i64)], [], none, .p, .bool, .p, []⟩
def T_laws_eqIntS : FSig := ⟨H_laws_eqIntS.ps, H_laws_eqIntS.cs, H_laws_eqIntS.io, H_laws_eqIntS.im, H_laws_eqIntS.R, H_laws_eqIntS.m, laws_eqIntS⟩
theorem E_laws_eqIntS : fnOf tys [] Try.f43 H_laws_eqIntS = T_laws_eqIntS := by kernel_rfl
theorem K_laws_eqIntS : SigOk Try.prog 43 T_laws_eqIntS := (congrArg (SigOk Try.prog 43) E_laws_eqIntS).mp (fnOf_ok rfl tysOk trivial Try.func43 (by decide) rfl (fun _ h => by cases h) (nilEq_of (by kernel_rfl)))
def laws_eqMode (x : (D_Mode × (D_Mode × Unit))) (c : Unit) : (Option (Bool × Unit)) :=
  (if (notB (eqZ x.1.1 x.2.1.1)) = true then (some (false, ())) else (Option.bind ((Option.bind (laws_eqIntS (x.1.2.1, (x.2.1.2.1, ())) ()) fun v0 => (some v0.1)) : (Option Bool)) fun v1 => (if (notB v1) = true then (some (false, ())) else (Option.bind ((Option.bind (laws_eqIntS (x.1.2.2.1, (x.2.1.2.2.1, ())) ()) fun v2 => (some v2.1)) : (Option Bool)) fun v3 => (if (notB v3) = true then (some (false, ())) else (some (true, ())))))))
def H_laws_eqMode : Hd := ⟨[.st [.int .i64, .sl 3 (.int .i64), .sl 3 (.int .i64)], .st [.int .i64, .sl 3 (.int .i64), .sl 3 (.int .i64)]], [], none, .p, .bool, .p, []⟩
def T_laws_eqMode : FSig := ⟨H_laws_eqMode.ps, H_laws_eqMode.cs, H_laws_eqMode.io, H_laws_eqMode.im, H_laws_eqMode.R, H_laws_eqMode.m, laws_eqMode⟩
theorem E_laws_eqMode : fnOf tys [(43, T_laws_eqIntS)] Try.f124 H_laws_eqMode = T_laws_eqMode := by kernel_rfl
theorem K_laws_eqMode : SigOk Try.prog 124 T_laws_eqMode := (congrArg (SigOk Try.prog 124) E_laws_eqMode).mp (fnOf_ok rfl tysOk ⟨K_laws_eqIntS, trivial⟩ Try.func124 (by decide) rfl (fun _ h => by cases h) (nilEq_of (by kernel_rfl)))
def laws_eqModeS_L0 : (Int × ((List D_Mode) × ((List D_Mode) × Unit))) → Option (Out (Int × ((List D_Mode) × ((List D_Mode) × Unit))) ((Bool × (Int × ((List D_Mode) × ((List D_Mode) × Unit)))) ⊕ Empty) (Bool × Unit)) :=
  (fun v0 => (if (ltZ v0.1 (lenI v0.2.1)) = true then (Option.bind (getI v0.2.1 v0.1) fun v1 => (Option.bind (getI v0.2.2.1 v0.1) fun v2 => (Option.bind ((Option.bind (laws_eqMode (v1, (v2, ())) ()) fun v3 => (some v3.1)) : (Option Bool)) fun v4 => (if (notB v4) = true then (some (Out.ret (false, ()))) else (some (Out.norm ((addZ .i64 v0.1 1), (v0.2.1, (v0.2.2.1, ()))))))))) else (some (Out.exit (Sum.inl ((ltZ v0.1 (lenI v0.2.1)), (v0.1, (v0.2.1, (v0.2.2.1, ())))))))))
def laws_eqModeS (x : ((List D_Mode) × ((List D_Mode) × Unit))) (c : Unit) : (Option (Bool × Unit)) :=
  (if (notB (eqZ (lenI x.1) (lenI x.2.1))) = true then (some (false, ())) else (Option.bind (loopN (A := (Int × ((List D_Mode) × ((List D_Mode) × Unit)))) big laws_eqModeS_L0 (0, (x.1, (x.2.1, ())))) fun v5 => (match v5 with | Out.norm v6 => none | Out.exit v7 => (match ((match v7 with | Sum.inl v10 => (Sum.inl ()) | Sum.inr v11 => (Empty.elim v11)) : (Unit ⊕ Empty)) with | Sum.inl v8 => (some (true, ())) | Sum.inr v9 => none) | Out.ret v12 => (some v12))))
def H_laws_eqModeS : Hd := ⟨[.sl 87 (.st [.int .i64, .sl 3 (.int .i64), .sl 3 (.int .i64)]), .sl 87 (.st [.int .i64, .sl 3 (.int .i64), .sl 3 (.int .i64)])], [], none, .p, .bool, .p, []⟩
def T_laws_eqModeS : FSig := ⟨H_laws_eqModeS.ps, H_laws_eqModeS.cs, H_laws_eqModeS.io, H_laws_eqModeS.im, H_laws_eqModeS.R, H_laws_eqModeS.m, laws_eqModeS⟩
theorem E_laws_eqModeS : fnOf tys [(124, T_laws_eqMode)] Try.f110 H_laws_eqModeS = T_laws_eqModeS := by kernel_rfl
theorem K_laws_eqModeS : SigOk Try.prog 110 T_laws_eqModeS := (congrArg (SigOk Try.prog 110) E_laws_eqModeS).mp (fnOf_ok rfl tysOk ⟨K_laws_eqMode, trivial⟩ Try.func110 (by decide) rfl (fun _ h => by cases h) (nilEq_of (by kernel_rfl)))
def laws_eqActivity (x : (D_Activity × (D_Activity × Unit))) (c : Unit) : (Option (Bool × Unit)) :=
  (if (notB (eqS x.1.1 x.2.1.1)) = true then (some (false, ())) else (if (notB (eqZ x.1.2.1 x.2.1.2.1)) = true then (some (false, ())) else (Option.bind ((Option.bind (laws_eqModeS (x.1.2.2.1, (x.2.1.2.2.1, ())) ()) fun v0 => (some v0.1)) : (Option Bool)) fun v1 => (if (notB v1) = true then (some (false, ())) else (some (true, ()))))))
def H_laws_eqActivity : Hd := ⟨[.st [.str, .int .i64, .sl 87 (.st [.int .i64, .sl 3 (.int .i64), .sl 3 (.int .i64)])], .st [.str, .int .i64, .sl 87 (.st [.int .i64, .sl 3 (.int .i64), .sl 3 (.int .i64)])]], [], none, .p, .bool, .p, []⟩
def T_laws_eqActivity : FSig := ⟨H_laws_eqActivity.ps, H_laws_eqActivity.cs, H_laws_eqActivity.io, H_laws_eqActivity.im, H_laws_eqActivity.R, H_laws_eqActivity.m, laws_eqActivity⟩
theorem E_laws_eqActivity : fnOf tys [(110, T_laws_eqModeS)] Try.f74 H_laws_eqActivity = T_laws_eqActivity := by kernel_rfl
theorem K_laws_eqActivity : SigOk Try.prog 74 T_laws_eqActivity := (congrArg (SigOk Try.prog 74) E_laws_eqActivity).mp (fnOf_ok rfl tysOk ⟨K_laws_eqModeS, trivial⟩ Try.func74 (by decide) rfl (fun _ h => by cases h) (nilEq_of (by kernel_rfl)))
def laws_eqActivityS_L0 : (Int × ((List D_Activity) × ((List D_Activity) × Unit))) → Option (Out (Int × ((List D_Activity) × ((List D_Activity) × Unit))) ((Bool × (Int × ((List D_Activity) × ((List D_Activity) × Unit)))) ⊕ Empty) (Bool × Unit)) :=
  (fun v0 => (if (ltZ v0.1 (lenI v0.2.1)) = true then (Option.bind (getI v0.2.1 v0.1) fun v1 => (Option.bind (getI v0.2.2.1 v0.1) fun v2 => (Option.bind ((Option.bind (laws_eqActivity (v1, (v2, ())) ()) fun v3 => (some v3.1)) : (Option Bool)) fun v4 => (if (notB v4) = true then (some (Out.ret (false, ()))) else (some (Out.norm ((addZ .i64 v0.1 1), (v0.2.1, (v0.2.2.1, ()))))))))) else (some (Out.exit (Sum.inl ((ltZ v0.1 (lenI v0.2.1)), (v0.1, (v0.2.1, (v0.2.2.1, ())))))))))
def laws_eqActivityS (x : ((List D_Activity) × ((List D_Activity) × Unit))) (c : Unit) : (Option (Bool × Unit)) :=
  (if (notB (eqZ (lenI x.1) (lenI x.2.1))) = true then (some (false, ())) else (Option.bind (loopN (A := (Int × ((List D_Activity) × ((List D_Activity) × Unit)))) big laws_eqActivityS_L0 (0, (x.1, (x.2.1, ())))) fun v5 => (match v5 with | Out.norm v6 => none | Out.exit v7 => (match ((match v7 with | Sum.inl v10 => (Sum.inl ()) | Sum.inr v11 => (Empty.elim v11)) : (Unit ⊕ Empty)) with | Sum.inl v8 => (some (true, ())) | Sum.inr v9 => none) | Out.ret v12 => (some v12))))
def H_laws_eqActivityS : Hd := ⟨[.sl 79 (.st [.str, .int .i64, .sl 87 (.st [.int .i64, .sl 3 (.int .i64), .sl 3 (.int .i64)])]), .sl 79 (.st [.str, .int .i64, .sl 87 (.st [.int .i64, .sl 3 (.int .i64), .sl 3 (.int .i64)])])], [], none, .p, .bool, .p, []⟩
def T_laws_eqActivityS : FSig := ⟨H_laws_eqActivityS.ps, H_laws_eqActivityS.cs, H_laws_eqActivityS.io, H_laws_eqActivityS.im, H_laws_eqActivityS.R, H_laws_eqActivityS.m, laws_eqActivityS⟩
theorem E_laws_eqActivityS : fnOf tys [(74, T_laws_eqActivity)] Try.f40 H_laws_eqActivityS = T_laws_eqActivityS := by kernel_rfl
theorem K_laws_eqActivityS : SigOk Try.prog 40 T_laws_eqActivityS := (congrArg (SigOk Try.prog 40) E_laws_eqActivityS).mp (fnOf_ok rfl tysOk ⟨K_laws_eqActivity, trivial⟩ Try.func40 (by decide) rfl (fun _ h => by cases h) (nilEq_of (by kernel_rfl)))
def laws_eqLink (x : (D_Link × (D_Link × Unit))) (c : Unit) : (Option (Bool × Unit)) :=
  (if (notB (eqZ x.1.1 x.2.1.1)) = true then (some (false, ())) else (if (notB (eqZ x.1.2.1 x.2.1.2.1)) = true then (some (false, ())) else (if (notB (eqB x.1.2.2.1 x.2.1.2.2.1)) = true then (some (false, ())) else (if (notB (eqZ x.1.2.2.2.1 x.2.1.2.2.2.1)) = true then (some (false, ())) else (some (true, ()))))))
def H_laws_eqLink : Hd := ⟨[.st [.int .i64, .int .i64, .bool, .int .i64], .st [.int .i64, .int .i64, .bool, .int .i64]], [], none, .p, .bool, .p, []⟩
def T_laws_eqLink : FSig := ⟨H_laws_eqLink.ps, H_laws_eqLink.cs, H_laws_eqLink.io, H_laws_eqLink.im, H_laws_eqLink.R, H_laws_eqLink.m, laws_eqLink⟩
theorem E_laws_eqLink : fnOf tys [] Try.f75 H_laws_eqLink = T_laws_eqLink := by kernel_rfl
theorem K_laws_eqLink : SigOk Try.prog 75 T_laws_eqLink := (congrArg (SigOk Try.prog 75) E_laws_eqLink).mp (fnOf_ok rfl tysOk trivial Try.func75 (by decide) rfl (fun _ h => by cases h) (nilEq_of (by kernel_rfl)))
def laws_eqLinkS_L0 : (Int × ((List D_Link) × ((List D_Link) × Unit))) → Option (Out (Int × ((List D_Link) × ((List D_Link) × Unit))) ((Bool × (Int × ((List D_Link) × ((List D_Link) × Unit)))) ⊕ Empty) (Bool × Unit)) :=
  (fun v0 => (if (ltZ v0.1 (lenI v0.2.1)) = true then (Option.bind (getI v0.2.1 v0.1) fun v1 => (Option.bind (getI v0.2.2.1 v0.1) fun v2 => (Option.bind ((Option.bind (laws_eqLink (v1, (v2, ())) ()) fun v3 => (some v3.1)) : (Option Bool)) fun v4 => (if (notB v4) = true then (some (Out.ret (false, ()))) else (some (Out.norm ((addZ .i64 v0.1 1), (v0.2.1, (v0.2.2.1, ()))))))))) else (some (Out.exit (Sum.inl ((ltZ v0.1 (lenI v0.2.1)), (v0.1, (v0.2.1, (v0.2.2.1, ())))))))))
def laws_eqLinkS (x : ((List D_Link) × ((List D_Link) × Unit))) (c : Unit) : (Option (Bool × Unit)) :=
  (if (notB (eqZ (lenI x.1) (lenI x.2.1))) = true then (some (false, ())) else (Option.bind (loopN (A := (Int × ((List D_Link) × ((List D_Link) × Unit)))) big laws_eqLinkS_L0 (0, (x.1, (x.2.1, ())))) fun v5 => (match v5 with | Out.norm v6 => none | Out.exit v7 => (match ((match v7 with | Sum.inl v10 => (Sum.inl ()) | Sum.inr v11 => (Empty.elim v11)) : (Unit ⊕ Empty)) with | Sum.inl v8 => (some (true, ())) | Sum.inr v9 => none) | Out.ret v12 => (some v12))))
def H_laws_eqLinkS : Hd := ⟨[.sl 105 (.st [.int .i64, .int .i64, .bool, .int .i64]), .sl 105 (.st [.int .i64, .int .i64, .bool, .int .i64])], [], none, .p, .bool, .p, []⟩
def T_laws_eqLinkS : FSig := ⟨H_laws_eqLinkS.ps, H_laws_eqLinkS.cs, H_laws_eqLinkS.io, H_laws_eqLinkS.im, H_laws_eqLinkS.R, H_laws_eqLinkS.m, laws_eqLinkS⟩
theorem E_laws_eqLinkS : fnOf tys [(75, T_laws_eqLink)] Try.f41 H_laws_eqLinkS = T_laws_eqLinkS := by kernel_rfl
theorem K_laws_eqLinkS : SigOk Try.prog 41 T_laws_eqLinkS := (congrArg (SigOk Try.prog 41) E_laws_eqLinkS).mp (fnOf_ok rfl tysOk ⟨K_laws_eqLink, trivial⟩ Try.func41 (by decide) rfl (fun _ h => by cases h) (nilEq_of (by kernel_rfl)))
def laws_eqIntSS_L0 : (Int × ((List (List Int)) × ((List (List Int)) × Unit))) → Option (Out (Int × ((List (List Int)) × ((List (List Int)) × Unit))) ((Bool × (Int × ((List (List Int)) × ((List (List Int)) × Unit)))) ⊕ Empty) (Bool × Unit)) :=
  (fun v0 => (if (ltZ v0.1 (lenI v0.2.1)) = true then (Option.bind (getI v0.2.1 v0.1) fun v1 => (Option.bind (getI v0.2.2.1 v0.1) fun v2 => (Option.bind ((Option.bind (laws_eqIntS (v1, (v2, ())) ()) fun v3 => (some v3.1)) : (Option Bool)) fun v4 => (if (notB v4) = true then (some (Out.ret (false, ()))) else (some (Out.norm ((addZ .i64 v0.1 1), (v0.2.1, (v0.2.2.1, ()))))))))) else (some (Out.exit (Sum.inl ((ltZ v0.1 (lenI v0.2.1)), (v0.1, (v0.2.1, (v0.2.2.1, ())))))))))
def laws_eqIntSS (x : ((List (List Int)) × ((List (List Int)) × Unit))) (c : Unit) : (Option (Bool × Unit)) :=
  (if (notB (eqZ (lenI x.1) (lenI x.2.1))) = true then (some (false, ())) else (Option.bind (loopN (A := (Int × ((List (List Int)) × ((List (List Int)) × Unit)))) big laws_eqIntSS_L0 (0, (x.1, (x.2.1, ())))) fun v5 => (match v5 with | Out.norm v6 => none | Out.exit v7 => (match ((match v7 with | Sum.inl v10 => (Sum.inl ()) | Sum.inr v11 => (Empty.elim v11)) : (Unit ⊕ Empty)) with | Sum.inl v8 => (some (true, ())) | Sum.inr v9 => none) | Out.ret v12 => (some v12))))
def H_laws_eqIntSS : Hd := ⟨[.sl 25 (.sl 3 (.int .i64)), .sl 25 (.sl 3 (.int .i64))], [], none, .p, .bool, .p, []⟩
def T_laws_eqIntSS : FSig := ⟨H_laws_eqIntSS.ps, H_laws_eqIntSS.cs, H_laws_eqIntSS.io, H_laws_eqIntSS.im, H_laws_eqIntSS.R, H_laws_eqIntSS.m, laws_eqIntSS⟩
theorem E_laws_eqIntSS : fnOf tys [(43, T_laws_eqIntS)] Try.f17 H_laws_eqIntSS = T_laws_eqIntSS := by kernel_rfl
theorem K_laws_eqIntSS : SigOk Try.prog 17 T_laws_eqIntSS := (congrArg (SigOk Try.prog 17) E_laws_eqIntSS).mp (fnOf_ok rfl tysOk ⟨K_laws_eqIntS, trivial⟩ Try.func17 (by decide) rfl (fun _ h => by cases h) (nilEq_of (by kernel_rfl)))
def laws_eqStep (x : (D_Step × (D_Step × Unit))) (c : Unit) : (Option (Bool × Unit)) :=
  (if (notB (eqZ x.1.1 x.2.1.1)) = true then (some (false, ())) else (if (notB (eqZ x.1.2.1 x.2.1.2.1)) = true then (some (false, ())) else (some (true, ()))))
def H_laws_eqStep : Hd := ⟨[.st [.int .i64, .int .i64], .st [.int .i64, .int .i64]], [], none, .p, .bool, .p, []⟩
def T_laws_eqStep : FSig := ⟨H_laws_eqStep.ps, H_laws_eqStep.cs, H_laws_eqStep.io, H_laws_eqStep.im, H_laws_eqStep.R, H_laws_eqStep.m, laws_eqStep⟩
theorem E_laws_eqStep : fnOf tys [] Try.f125 H_laws_eqStep = T_laws_eqStep := by kernel_rfl
theorem K_laws_eqStep : SigOk Try.prog 125 T_laws_eqStep := (congrArg (SigOk Try.prog 125) E_laws_eqStep).mp (fnOf_ok rfl tysOk trivial Try.func125 (by decide) rfl (fun _ h => by cases h) (nilEq_of (by kernel_rfl)))
def laws_eqStepS_L0 : (Int × ((List D_Step) × ((List D_Step) × Unit))) → Option (Out (Int × ((List D_Step) × ((List D_Step) × Unit))) ((Bool × (Int × ((List D_Step) × ((List D_Step) × Unit)))) ⊕ Empty) (Bool × Unit)) :=
  (fun v0 => (if (ltZ v0.1 (lenI v0.2.1)) = true then (Option.bind (getI v0.2.1 v0.1) fun v1 => (Option.bind (getI v0.2.2.1 v0.1) fun v2 => (Option.bind ((Option.bind (laws_eqStep (v1, (v2, ())) ()) fun v3 => (some v3.1)) : (Option Bool)) fun v4 => (if (notB v4) = true then (some (Out.ret (false, ()))) else (some (Out.norm ((addZ .i64 v0.1 1), (v0.2.1, (v0.2.2.1, ()))))))))) else (some (Out.exit (Sum.inl ((ltZ v0.1 (lenI v0.2.1)), (v0.1, (v0.2.1, (v0.2.2.1, ())))))))))
def laws_eqStepS (x : ((List D_Step) × ((List D_Step) × Unit))) (c : Unit) : (Option (Bool × Unit)) :=
  (if (notB (eqZ (lenI x.1) (lenI x.2.1))) = true then (some (false, ())) else (Option.bind (loopN (A := (Int × ((List D_Step) × ((List D_Step) × Unit)))) big laws_eqStepS_L0 (0, (x.1, (x.2.1, ())))) fun v5 => (match v5 with | Out.norm v6 => none | Out.exit v7 => (match ((match v7 with | Sum.inl v10 => (Sum.inl ()) | Sum.inr v11 => (Empty.elim v11)) : (Unit ⊕ Empty)) with | Sum.inl v8 => (some (true, ())) | Sum.inr v9 => none) | Out.ret v12 => (some v12))))
def H_laws_eqStepS : Hd := ⟨[.sl 126 (.st [.int .i64, .int .i64]), .sl 126 (.st [.int .i64, .int .i64])], [], none, .p, .bool, .p, []⟩
def T_laws_eqStepS : FSig := ⟨H_laws_eqStepS.ps, H_laws_eqStepS.cs, H_laws_eqStepS.io, H_laws_eqStepS.im, H_laws_eqStepS.R, H_laws_eqStepS.m, laws_eqStepS⟩
theorem E_laws_eqStepS : fnOf tys [(125, T_laws_eqStep)] Try.f111 H_laws_eqStepS = T_laws_eqStepS := by kernel_rfl
theorem K_laws_eqStepS : SigOk Try.prog 111 T_laws_eqStepS := (congrArg (SigOk Try.prog 111) E_laws_eqStepS).mp (fnOf_ok rfl tysOk ⟨K_laws_eqStep, trivial⟩ Try.func111 (by decide) rfl (fun _ h => by cases h) (nilEq_of (by kernel_rfl)))
def laws_eqResource (x : (D_Resource × (D_Resource × Unit))) (c : Unit) : (Option (Bool × Unit)) :=
  (Option.bind ((Option.bind (laws_eqStepS (x.1.1, (x.2.1.1, ())) ()) fun v0 => (some v0.1)) : (Option Bool)) fun v1 => (if (notB v1) = true then (some (false, ())) else (Option.bind ((Option.bind (laws_eqIntSS (x.1.2.1, (x.2.1.2.1, ())) ()) fun v2 => (some v2.1)) : (Option Bool)) fun v3 => (if (notB v3) = true then (some (false, ())) else (some (true, ()))))))
def H_laws_eqResource : Hd := ⟨[.st [.sl 126 (.st [.int .i64, .int .i64]), .sl 25 (.sl 3 (.int .i64))], .st [.sl 126 (.st [.int .i64, .int .i64]), .sl 25 (.sl 3 (.int .i64))]], [], none, .p, .bool, .p, []⟩
def T_laws_eqResource : FSig := ⟨H_laws_eqResource.ps, H_laws_eqResource.cs, H_laws_eqResource.io, H_laws_eqResource.im, H_laws_eqResource.R, H_laws_eqResource.m, laws_eqResource⟩
theorem E_laws_eqResource : fnOf tys [(17, T_laws_eqIntSS), (111, T_laws_eqStepS)] Try.f76 H_laws_eqResource = T_laws_eqResource := by kernel_rfl
theorem K_laws_eqResource : SigOk Try.prog 76 T_laws_eqResource := (congrArg (SigOk Try.prog 76) E_laws_eqResource).mp (fnOf_ok rfl tysOk ⟨K_laws_eqIntSS, K_laws_eqStepS, trivial⟩ Try.func76 (by decide) rfl (fun _ h => by cases h) (nilEq_of (by kernel_rfl)))
def laws_eqResourceS_L0 : (Int × ((List D_Resource) × ((List D_Resource) × Unit))) → Option (Out (Int × ((List D_Resource) × ((List D_Resource) × Unit))) ((Bool × (Int × ((List D_Resource) × ((List D_Resource) × Unit)))) ⊕ Empty) (Bool × Unit)) :=
  (fun v0 => (if (ltZ v0.1 (lenI v0.2.1)) = true then (Option.bind (getI v0.2.1 v0.1) fun v1 => (Option.bind (getI v0.2.2.1 v0.1) fun v2 => (Option.bind ((Option.bind (laws_eqResource (v1, (v2, ())) ()) fun v3 => (some v3.1)) : (Option Bool)) fun v4 => (if (notB v4) = true then (some (Out.ret (false, ()))) else (some (Out.norm ((addZ .i64 v0.1 1), (v0.2.1, (v0.2.2.1, ()))))))))) else (some (Out.exit (Sum.inl ((ltZ v0.1 (lenI v0.2.1)), (v0.1, (v0.2.1, (v0.2.2.1, ())))))))))
def laws_eqResourceS (x : ((List D_Resource) × ((List D_Resource) × Unit))) (c : Unit) : (Option (Bool × Unit)) :=
  (if (notB (eqZ (lenI x.1) (lenI x.2.1))) = true then (some (false, ())) else (Option.bind (loopN (A := (Int × ((List D_Resource) × ((List D_Resource) × Unit)))) big laws_eqResourceS_L0 (0, (x.1, (x.2.1, ())))) fun v5 => (match v5 with | Out.norm v6 => none | Out.exit v7 => (match ((match v7 with | Sum.inl v10 => (Sum.inl ()) | Sum.inr v11 => (Empty.elim v11)) : (Unit ⊕ Empty)) with | Sum.inl v8 => (some (true, ())) | Sum.inr v9 => none) | Out.ret v12 => (some v12))))
def H_laws_eqResourceS : Hd := ⟨[.sl 91 (.st [.sl 126 (.st [.int .i64, .int .i64]), .sl 25 (.sl 3 (.int .i64))]), .sl 91 (.st [.sl 126 (.st [.int .i64, .int .i64]), .sl 25 (.sl 3 (.int .i64))])], [], none, .p, .bool, .p, []⟩
def T_laws_eqResourceS : FSig := ⟨H_laws_eqResourceS.ps, H_laws_eqResourceS.cs, H_laws_eqResourceS.io, H_laws_eqResourceS.im, H_laws_eqResourceS.R, H_laws_eqResourceS.m, laws_eqResourceS⟩
theorem E_laws_eqResourceS : fnOf tys [(76, T_laws_eqResource)] Try.f42 H_laws_eqResourceS = T_laws_eqResourceS := by kernel_rfl
theorem K_laws_eqResourceS : SigOk Try.prog 42 T_laws_eqResourceS := (congrArg (SigOk Try.prog 42) E_laws_eqResourceS).mp (fnOf_ok rfl tysOk ⟨K_laws_eqResource, trivial⟩ Try.func42 (by decide) rfl (fun _ h => by cases h) (nilEq_of (by kernel_rfl)))
def laws_eqProject (x : (D_Project × (D_Project × Unit))) (c : Unit) : (Option (Bool × Unit)) :=
  (if (notB (eqZ x.1.1 x.2.1.1)) = true then (some (false, ())) else (Option.bind ((Option.bind (laws_eqActivityS (x.1.2.1, (x.2.1.2.1, ())) ()) fun v0 => (some v0.1)) : (Option Bool)) fun v1 => (if (notB v1) = true then (some (false, ())) else (Option.bind ((Option.bind (laws_eqLinkS (x.1.2.2.1, (x.2.1.2.2.1, ())) ()) fun v2 => (some v2.1)) : (Option Bool)) fun v3 => (if (notB v3) = true then (some (false, ())) else (Option.bind ((Option.bind (laws_eqResourceS (x.1.2.2.2.1, (x.2.1.2.2.2.1, ())) ()) fun v4 => (some v4.1)) : (Option Bool)) fun v5 => (if (notB v5) = true then (some (false, ())) else (Option.bind ((Option.bind (laws_eqIntS (x.1.2.2.2.2.1, (x.2.1.2.2.2.2.1, ())) ()) fun v6 => (some v6.1)) : (Option Bool)) fun v7 => (if (notB v7) = true then (some (false, ())) else (some (true, ())))))))))))
def H_laws_eqProject : Hd := ⟨[.st [.int .i64, .sl 79 (.st [.str, .int .i64, .sl 87 (.st [.int .i64, .sl 3 (.int .i64), .sl 3 (.int .i64)])]), .sl 105 (.st [.int .i64, .int .i64, .bool, .int .i64]), .sl 91 (.st [.sl 126 (.st [.int .i64, .int .i64]), .sl 25 (.sl 3 (.int .i64))]), .sl 3 (.int .i64)], .st [.int .i64, .sl 79 (.st [.str, .int .i64, .sl 87 (.st [.int .i64, .sl 3 (.int .i64), .sl 3 (.int .i64)])]), .sl 105 (.st [.int .i64, .int .i64, .bool, .int .i64]), .sl 91 (.st [.sl 126 (.st [.int .i64, .int .i64]), .sl 25 (.sl 3 (.int .i64))]), .sl 3 (.int .i64)]], [], none, .p, .bool, .p, []⟩
def T_laws_eqProject : FSig := ⟨H_laws_eqProject.ps, H_laws_eqProject.cs, H_laws_eqProject.io, H_laws_eqProject.im, H_laws_eqProject.R, H_laws_eqProject.m, laws_eqProject⟩
theorem E_laws_eqProject : fnOf tys [(40, T_laws_eqActivityS), (41, T_laws_eqLinkS), (42, T_laws_eqResourceS), (43, T_laws_eqIntS)] Try.f13 H_laws_eqProject = T_laws_eqProject := by kernel_rfl
theorem K_laws_eqProject : SigOk Try.prog 13 T_laws_eqProject := (congrArg (SigOk Try.prog 13) E_laws_eqProject).mp (fnOf_ok rfl tysOk ⟨K_laws_eqActivityS, K_laws_eqLinkS, K_laws_eqResourceS, K_laws_eqIntS, trivial⟩ Try.func13 (by decide) rfl (fun _ h => by cases h) (nilEq_of (by kernel_rfl)))
def spec_AllModeLists_L0 : (Int × (Int × ((List Int) × (Int × (Int × ((List (List Int)) × (D_Activity × ((List (List Int)) × (Int × (Int × ((List D_Activity) × Unit))))))))))) → Option (Out (Int × (Int × ((List Int) × (Int × (Int × ((List (List Int)) × (D_Activity × ((List (List Int)) × (Int × (Int × ((List D_Activity) × Unit))))))))))) ((Bool × (Int × (Int × ((List Int) × (Int × (Int × ((List (List Int)) × (D_Activity × ((List (List Int)) × (Int × (Int × ((List D_Activity) × Unit)))))))))))) ⊕ Empty) ((List (List Int)) × Unit)) :=
  (fun v6 => (if (ltZ v6.1 v6.2.1) = true then (Option.bind (addI [] v6.2.2.1) fun v7 => (Option.bind (addI v7 (v6.1 :: [])) fun v8 => (Option.bind (addI v6.2.2.2.2.2.2.2.1 (v8 :: [])) fun v9 => (some (Out.norm ((addZ .i64 v6.1 1), (v6.2.1, (v6.2.2.1, (v6.2.2.2.1, (v6.2.2.2.2.1, (v6.2.2.2.2.2.1, (v6.2.2.2.2.2.2.1, (v9, (v6.2.2.2.2.2.2.2.2.1, (v6.2.2.2.2.2.2.2.2.2.1, (v6.2.2.2.2.2.2.2.2.2.2.1, ())))))))))))))))) else (some (Out.exit (Sum.inl ((ltZ v6.1 v6.2.1), (v6.1, (v6.2.1, (v6.2.2.1, (v6.2.2.2.1, (v6.2.2.2.2.1, (v6.2.2.2.2.2.1, (v6.2.2.2.2.2.2.1, (v6.2.2.2.2.2.2.2.1, (v6.2.2.2.2.2.2.2.2.1, (v6.2.2.2.2.2.2.2.2.2.1, (v6.2.2.2.2.2.2.2.2.2.2.1, ())))))))))))))))))
def spec_AllModeLists_L1 : (Int × (Int × ((List (List Int)) × (D_Activity × ((List (List Int)) × (Int × (Int × ((List D_Activity) × Unit)))))))) → Option (Out (Int × (Int × ((List (List Int)) × (D_Activity × ((List (List Int)) × (Int × (Int × ((List D_Activity) × Unit)))))))) ((Bool × (Int × (Int × ((List (List Int)) × (D_Activity × ((List (List Int)) × (Int × (Int × ((List D_Activity) × Unit))))))))) ⊕ Empty) ((List (List Int)) × Unit)) :=
  (fun v4 => (if (ltZ v4.1 v4.2.1) = true then (Option.bind (getI v4.2.2.1 v4.1) fun v5 => (Option.bind (loopN (A := (Int × (Int × ((List Int) × (Int × (Int × ((List (List Int)) × (D_Activity × ((List (List Int)) × (Int × (Int × ((List D_Activity) × Unit)))))))))))) big spec_AllModeLists_L0 (0, ((lenI v4.2.2.2.1.2.2.1), (v5, (v4.1, (v4.2.1, (v4.2.2.1, (v4.2.2.2.1, (v4.2.2.2.2.1, (v4.2.2.2.2.2.1, (v4.2.2.2.2.2.2.1, (v4.2.2.2.2.2.2.2.1, ())))))))))))) fun v10 => (match v10 with | Out.norm v11 => none | Out.exit v12 => (match ((match v12 with | Sum.inl v17 => (Sum.inl (v17.2.2.2.2.1, (v17.2.2.2.2.2.1, (v17.2.2.2.2.2.2.1, (v17.2.2.2.2.2.2.2.1, (v17.2.2.2.2.2.2.2.2.1, (v17.2.2.2.2.2.2.2.2.2.1, (v17.2.2.2.2.2.2.2.2.2.2.1, (v17.2.2.2.2.2.2.2.2.2.2.2.1, ()))))))))) | Sum.inr v18 => (Empty.elim v18)) : ((Int × (Int × ((List (List Int)) × (D_Activity × ((List (List Int)) × (Int × (Int × ((List D_Activity) × Unit)))))))) ⊕ Empty)) with | Sum.inl v13 => (some (Out.norm ((addZ .i64 v13.1 1), (v13.2.1, (v13.2.2.1, (v13.2.2.2.1, (v13.2.2.2.2.1, (v13.2.2.2.2.2.1, (v13.2.2.2.2.2.2.1, (v13.2.2.2.2.2.2.2.1, ())))))))))) | Sum.inr v14 => (match ((Empty.elim v14) : ((Int × (Int × ((List (List Int)) × (D_Activity × ((List (List Int)) × (Int × (Int × ((List D_Activity) × Unit)))))))) ⊕ Empty)) with | Sum.inl v15 => (some (Out.norm ((addZ .i64 v15.1 1), (v15.2.1, (v15.2.2.1, (v15.2.2.2.1, (v15.2.2.2.2.1, (v15.2.2.2.2.2.1, (v15.2.2.2.2.2.2.1, (v15.2.2.2.2.2.2.2.1, ())))))))))) | Sum.inr v16 => (some (Out.exit (Sum.inr (Empty.elim v16)))))) | Out.ret v19 => (some (Out.ret v19))))) else (some (Out.exit (Sum.inl ((ltZ v4.1 v4.2.1), (v4.1, (v4.2.1, (v4.2.2.1, (v4.2.2.2.1, (v4.2.2.2.2.1, (v4.2.2.2.2.2.1, (v4.2.2.2.2.2.2.1, (v4.2.2.2.2.2.2.2.1, ()))))))))))))))
def spec_AllModeLists_L2 : (Int × (Int × ((List D_Activity) × ((List (List Int)) × Unit)))) → Option (Out (Int × (Int × ((List D_Activity) × ((List (List Int)) × Unit)))) ((Bool × (Int × (Int × ((List D_Activity) × ((List (List Int)) × Unit))))) ⊕ Empty) ((List (List Int)) × Unit)) :=
  (fun v2 => (if (ltZ v2.1 v2.2.1) = true then (Option.bind (getI v2.2.2.1 v2.1) fun v3 => (Option.bind (loopN (A := (Int × (Int × ((List (List Int)) × (D_Activity × ((List (List Int)) × (Int × (Int × ((List D_Activity) × Unit))))))))) big spec_AllModeLists_L1 (0, ((lenI v2.2.2.2.1), (v2.2.2.2.1, (v3, ([], (v2.1, (v2.2.1, (v2.2.2.1, ()))))))))) fun v20 => (match v20 with | Out.norm v21 => none | Out.exit v22 => (match ((match v22 with | Sum.inl v27 => (Sum.inl (v27.2.2.2.2.2.1, (v27.2.2.2.2.2.2.1, (v27.2.2.2.2.2.2.2.1, (v27.2.2.2.2.2.2.2.2.1, ()))))) | Sum.inr v28 => (Empty.elim v28)) : (((List (List Int)) × (Int × (Int × ((List D_Activity) × Unit)))) ⊕ Empty)) with | Sum.inl v23 => (some (Out.norm ((addZ .i64 v23.2.1 1), (v23.2.2.1, (v23.2.2.2.1, (v23.1, ())))))) | Sum.inr v24 => (match ((Empty.elim (Empty.elim v24)) : ((Int × (Int × ((List D_Activity) × ((List (List Int)) × Unit)))) ⊕ Empty)) with | Sum.inl v25 => (some (Out.norm ((addZ .i64 v25.1 1), (v25.2.1, (v25.2.2.1, (v25.2.2.2.1, ())))))) | Sum.inr v26 => (some (Out.exit (Sum.inr (Empty.elim v26)))))) | Out.ret v29 => (some (Out.ret v29))))) else (some (Out.exit (Sum.inl ((ltZ v2.1 v2.2.1), (v2.1, (v2.2.1, (v2.2.2.1, (v2.2.2.2.1, ()))))))))))
def spec_AllModeLists (x : (D_Project × Unit)) (c : Unit) : (Option ((List (List Int)) × Unit)) :=
  (Option.bind ((Option.bind (spec_ProjectOk (x.1, ()) ()) fun v0 => (some v0.1)) : (Option Bool)) fun v1 => (if (notB v1) = true then (some ([], ())) else (Option.bind (loopN (A := (Int × (Int × ((List D_Activity) × ((List (List Int)) × Unit))))) big spec_AllModeLists_L2 (0, ((lenI x.1.2.1), (x.1.2.1, (([] :: []), ()))))) fun v30 => (match v30 with | Out.norm v31 => none | Out.exit v32 => (match ((match v32 with | Sum.inl v35 => (Sum.inl (v35.2.2.2.2.1, ())) | Sum.inr v36 => (Empty.elim v36)) : (((List (List Int)) × Unit) ⊕ Empty)) with | Sum.inl v33 => (some (v33.1, ())) | Sum.inr v34 => none) | Out.ret v37 => (some v37)))))
def H_spec_AllModeLists : Hd := ⟨[.st [.int .i64, .sl 79 (.st [.str, .int .i64, .sl 87 (.st [.int .i64, .sl 3 (.int .i64), .sl 3 (.int .i64)])]), .sl 105 (.st [.int .i64, .int .i64, .bool, .int .i64]), .sl 91 (.st [.sl 126 (.st [.int .i64, .int .i64]), .sl 25 (.sl 3 (.int .i64))]), .sl 3 (.int .i64)]], [], none, .p, .sl 25 (.sl 3 (.int .i64)), .p, [(2, .p), (3, .p)]⟩
def T_spec_AllModeLists : FSig := ⟨H_spec_AllModeLists.ps, H_spec_AllModeLists.cs, H_spec_AllModeLists.io, H_spec_AllModeLists.im, H_spec_AllModeLists.R, H_spec_AllModeLists.m, spec_AllModeLists⟩
theorem E_spec_AllModeLists : fnOf tys [(44, T_spec_ProjectOk)] Try.f15 H_spec_AllModeLists = T_spec_AllModeLists := by kernel_rfl
theorem K_spec_AllModeLists : SigOk Try.prog 15 T_spec_AllModeLists := (congrArg (SigOk Try.prog 15) E_spec_AllModeLists).mp (fnOf_ok rfl tysOk ⟨K_spec_ProjectOk, trivial⟩ Try.func15 (by decide) rfl (fun _ h => by cases h) (nilEq_of (by kernel_rfl)))
def slices_Clone_int_int (x : ((List Int) × Unit)) (c : Unit) : (Option ((List Int) × Unit)) :=
  (Option.bind (addI [] x.1) fun v0 => (some (v0, ())))
def H_slices_Clone_int_int : Hd := ⟨[.sl 3 (.int .i64)], [], none, .p, .sl 3 (.int .i64), (Ty.all (.sl 3 (.int .i64))), []⟩
def T_slices_Clone_int_int : FSig := ⟨H_slices_Clone_int_int.ps, H_slices_Clone_int_int.cs, H_slices_Clone_int_int.io, H_slices_Clone_int_int.im, H_slices_Clone_int_int.R, H_slices_Clone_int_int.m, slices_Clone_int_int⟩
theorem E_slices_Clone_int_int : fnOf tys [] Try.f46 H_slices_Clone_int_int = T_slices_Clone_int_int := by kernel_rfl
theorem K_slices_Clone_int_int : SigOk Try.prog 46 T_slices_Clone_int_int := (congrArg (SigOk Try.prog 46) E_slices_Clone_int_int).mp (fnOf_ok rfl tysOk trivial Try.func46 (by decide) rfl (fun _ h => by cases h) (nilEq_of (by kernel_rfl)))
def impl_AllModeLists_L0 : (Int × (Int × ((List Int) × (Int × (Int × ((List (List Int)) × (D_Activity × ((List (List Int)) × (Int × (Int × ((List D_Activity) × Unit))))))))))) → Option (Out (Int × (Int × ((List Int) × (Int × (Int × ((List (List Int)) × (D_Activity × ((List (List Int)) × (Int × (Int × ((List D_Activity) × Unit))))))))))) ((Bool × (Int × (Int × ((List Int) × (Int × (Int × ((List (List Int)) × (D_Activity × ((List (List Int)) × (Int × (Int × ((List D_Activity) × Unit)))))))))))) ⊕ Empty) ((List (List Int)) × Unit)) :=
  (fun v6 => (if (ltZ v6.1 v6.2.1) = true then (Option.bind ((Option.bind (slices_Clone_int_int (v6.2.2.1, ()) ()) fun v7 => (some v7.1)) : (Option (List Int))) fun v8 => (Option.bind (addI v8 (v6.1 :: [])) fun v9 => (Option.bind (addI v6.2.2.2.2.2.2.2.1 (v9 :: [])) fun v10 => (some (Out.norm ((addZ .i64 v6.1 1), (v6.2.1, (v6.2.2.1, (v6.2.2.2.1, (v6.2.2.2.2.1, (v6.2.2.2.2.2.1, (v6.2.2.2.2.2.2.1, (v10, (v6.2.2.2.2.2.2.2.2.1, (v6.2.2.2.2.2.2.2.2.2.1, (v6.2.2.2.2.2.2.2.2.2.2.1, ())))))))))))))))) else (some (Out.exit (Sum.inl ((ltZ v6.1 v6.2.1), (v6.1, (v6.2.1, (v6.2.2.1, (v6.2.2.2.1, (v6.2.2.2.2.1, (v6.2.2.2.2.2.1, (v6.2.2.2.2.2.2.1, (v6.2.2.2.2.2.2.2.1, (v6.2.2.2.2.2.2.2.2.1, (v6.2.2.2.2.2.2.2.2.2.1, (v6.2.2.2.2.2.2.2.2.2.2.1, ())))))))))))))))))
def impl_AllModeLists_L1 : (Int × (Int × ((List (List Int)) × (D_Activity × ((List (List Int)) × (Int × (Int × ((List D_Activity) × Unit)))))))) → Option (Out (Int × (Int × ((List (List Int)) × (D_Activity × ((List (List Int)) × (Int × (Int × ((List D_Activity) × Unit)))))))) ((Bool × (Int × (Int × ((List (List Int)) × (D_Activity × ((List (List Int)) × (Int × (Int × ((List D_Activity) × Unit))))))))) ⊕ Empty) ((List (List Int)) × Unit)) :=
  (fun v4 => (if (ltZ v4.1 v4.2.1) = true then (Option.bind (getI v4.2.2.1 v4.1) fun v5 => (Option.bind (loopN (A := (Int × (Int × ((List Int) × (Int × (Int × ((List (List Int)) × (D_Activity × ((List (List Int)) × (Int × (Int × ((List D_Activity) × Unit)))))))))))) big impl_AllModeLists_L0 (0, ((lenI v4.2.2.2.1.2.2.1), (v5, (v4.1, (v4.2.1, (v4.2.2.1, (v4.2.2.2.1, (v4.2.2.2.2.1, (v4.2.2.2.2.2.1, (v4.2.2.2.2.2.2.1, (v4.2.2.2.2.2.2.2.1, ())))))))))))) fun v11 => (match v11 with | Out.norm v12 => none | Out.exit v13 => (match ((match v13 with | Sum.inl v18 => (Sum.inl (v18.2.2.2.2.1, (v18.2.2.2.2.2.1, (v18.2.2.2.2.2.2.1, (v18.2.2.2.2.2.2.2.1, (v18.2.2.2.2.2.2.2.2.1, (v18.2.2.2.2.2.2.2.2.2.1, (v18.2.2.2.2.2.2.2.2.2.2.1, (v18.2.2.2.2.2.2.2.2.2.2.2.1, ()))))))))) | Sum.inr v19 => (Empty.elim v19)) : ((Int × (Int × ((List (List Int)) × (D_Activity × ((List (List Int)) × (Int × (Int × ((List D_Activity) × Unit)))))))) ⊕ Empty)) with | Sum.inl v14 => (some (Out.norm ((addZ .i64 v14.1 1), (v14.2.1, (v14.2.2.1, (v14.2.2.2.1, (v14.2.2.2.2.1, (v14.2.2.2.2.2.1, (v14.2.2.2.2.2.2.1, (v14.2.2.2.2.2.2.2.1, ())))))))))) | Sum.inr v15 => (match ((Empty.elim v15) : ((Int × (Int × ((List (List Int)) × (D_Activity × ((List (List Int)) × (Int × (Int × ((List D_Activity) × Unit)))))))) ⊕ Empty)) with | Sum.inl v16 => (some (Out.norm ((addZ .i64 v16.1 1), (v16.2.1, (v16.2.2.1, (v16.2.2.2.1, (v16.2.2.2.2.1, (v16.2.2.2.2.2.1, (v16.2.2.2.2.2.2.1, (v16.2.2.2.2.2.2.2.1, ())))))))))) | Sum.inr v17 => (some (Out.exit (Sum.inr (Empty.elim v17)))))) | Out.ret v20 => (some (Out.ret v20))))) else (some (Out.exit (Sum.inl ((ltZ v4.1 v4.2.1), (v4.1, (v4.2.1, (v4.2.2.1, (v4.2.2.2.1, (v4.2.2.2.2.1, (v4.2.2.2.2.2.1, (v4.2.2.2.2.2.2.1, (v4.2.2.2.2.2.2.2.1, ()))))))))))))))
def impl_AllModeLists_L2 : (Int × (Int × ((List D_Activity) × ((List (List Int)) × Unit)))) → Option (Out (Int × (Int × ((List D_Activity) × ((List (List Int)) × Unit)))) ((Bool × (Int × (Int × ((List D_Activity) × ((List (List Int)) × Unit))))) ⊕ Empty) ((List (List Int)) × Unit)) :=
  (fun v2 => (if (ltZ v2.1 v2.2.1) = true then (Option.bind (getI v2.2.2.1 v2.1) fun v3 => (Option.bind (loopN (A := (Int × (Int × ((List (List Int)) × (D_Activity × ((List (List Int)) × (Int × (Int × ((List D_Activity) × Unit))))))))) big impl_AllModeLists_L1 (0, ((lenI v2.2.2.2.1), (v2.2.2.2.1, (v3, ([], (v2.1, (v2.2.1, (v2.2.2.1, ()))))))))) fun v21 => (match v21 with | Out.norm v22 => none | Out.exit v23 => (match ((match v23 with | Sum.inl v28 => (Sum.inl (v28.2.2.2.2.2.1, (v28.2.2.2.2.2.2.1, (v28.2.2.2.2.2.2.2.1, (v28.2.2.2.2.2.2.2.2.1, ()))))) | Sum.inr v29 => (Empty.elim v29)) : (((List (List Int)) × (Int × (Int × ((List D_Activity) × Unit)))) ⊕ Empty)) with | Sum.inl v24 => (some (Out.norm ((addZ .i64 v24.2.1 1), (v24.2.2.1, (v24.2.2.2.1, (v24.1, ())))))) | Sum.inr v25 => (match ((Empty.elim (Empty.elim v25)) : ((Int × (Int × ((List D_Activity) × ((List (List Int)) × Unit)))) ⊕ Empty)) with | Sum.inl v26 => (some (Out.norm ((addZ .i64 v26.1 1), (v26.2.1, (v26.2.2.1, (v26.2.2.2.1, ())))))) | Sum.inr v27 => (some (Out.exit (Sum.inr (Empty.elim v27)))))) | Out.ret v30 => (some (Out.ret v30))))) else (some (Out.exit (Sum.inl ((ltZ v2.1 v2.2.1), (v2.1, (v2.2.1, (v2.2.2.1, (v2.2.2.2.1, ()))))))))))
def impl_AllModeLists (x : (D_Project × Unit)) (c : Unit) : (Option ((List (List Int)) × Unit)) :=
  (Option.bind ((Option.bind (impl_ProjectOk (x.1, ()) ()) fun v0 => (some v0.1)) : (Option Bool)) fun v1 => (if (notB v1) = true then (some ([], ())) else (Option.bind (loopN (A := (Int × (Int × ((List D_Activity) × ((List (List Int)) × Unit))))) big impl_AllModeLists_L2 (0, ((lenI x.1.2.1), (x.1.2.1, (([] :: []), ()))))) fun v31 => (match v31 with | Out.norm v32 => none | Out.exit v33 => (match ((match v33 with | Sum.inl v36 => (Sum.inl (v36.2.2.2.2.1, ())) | Sum.inr v37 => (Empty.elim v37)) : (((List (List Int)) × Unit) ⊕ Empty)) with | Sum.inl v34 => (some (v34.1, ())) | Sum.inr v35 => none) | Out.ret v38 => (some v38)))))
def H_impl_AllModeLists : Hd := ⟨[.st [.int .i64, .sl 79 (.st [.str, .int .i64, .sl 87 (.st [.int .i64, .sl 3 (.int .i64), .sl 3 (.int .i64)])]), .sl 105 (.st [.int .i64, .int .i64, .bool, .int .i64]), .sl 91 (.st [.sl 126 (.st [.int .i64, .int .i64]), .sl 25 (.sl 3 (.int .i64))]), .sl 3 (.int .i64)]], [], none, .p, .sl 25 (.sl 3 (.int .i64)), (Ty.all (.sl 25 (.sl 3 (.int .i64)))), [(999999, .p), (900003, .p)]⟩
def T_impl_AllModeLists : FSig := ⟨H_impl_AllModeLists.ps, H_impl_AllModeLists.cs, H_impl_AllModeLists.io, H_impl_AllModeLists.im, H_impl_AllModeLists.R, H_impl_AllModeLists.m, impl_AllModeLists⟩
theorem E_impl_AllModeLists : fnOf tys [(45, T_impl_ProjectOk), (46, T_slices_Clone_int_int)] Try.f16 H_impl_AllModeLists = T_impl_AllModeLists := by kernel_rfl
theorem K_impl_AllModeLists : SigOk Try.prog 16 T_impl_AllModeLists := (congrArg (SigOk Try.prog 16) E_impl_AllModeLists).mp (fnOf_ok rfl tysOk ⟨K_impl_ProjectOk, K_slices_Clone_int_int, trivial⟩ Try.func16 (by decide) rfl (fun _ h => by cases h) (nilEq_of (by kernel_rfl)))
def laws_markText_L0 : (Int × ((List UInt8) × Unit)) → Option (Out (Int × ((List UInt8) × Unit)) ((Bool × (Int × ((List UInt8) × Unit))) ⊕ Empty) ((List UInt8) × Unit)) :=
  (fun v0 => (if (ltZ 0 v0.1) = true then (Option.bind (remZ v0.1 10) fun v1 => (Option.bind (addI (ofBytes ((wrapI .u8 (addZ .i64 48 v1)) :: [])) v0.2.1) fun v2 => (Option.bind (quoZ .i64 v0.1 10) fun v3 => (some (Out.norm (v3, (v2, ()))))))) else (some (Out.exit (Sum.inl ((ltZ 0 v0.1), (v0.1, (v0.2.1, ()))))))))
def laws_markText (x : (Int × Unit)) (c : Unit) : (Option ((List UInt8) × Unit)) :=
  (if (leZ x.1 0) = true then (some ([109, 48], ())) else (Option.bind (loopN (A := (Int × ((List UInt8) × Unit))) big laws_markText_L0 (x.1, ([], ()))) fun v4 => (match v4 with | Out.norm v5 => none | Out.exit v6 => (match ((match v6 with | Sum.inl v10 => (Sum.inl (v10.2.2.1, ())) | Sum.inr v11 => (Empty.elim v11)) : (((List UInt8) × Unit) ⊕ Empty)) with | Sum.inl v7 => (Option.bind (addI [109] v7.1) fun v8 => (some (v8, ()))) | Sum.inr v9 => none) | Out.ret v12 => (some v12))))
def H_laws_markText : Hd := ⟨[.int .i64], [], none, .p, .str, .p, []⟩
def T_laws_markText : FSig := ⟨H_laws_markText.ps, H_laws_markText.cs, H_laws_markText.io, H_laws_markText.im, H_laws_markText.R, H_laws_markText.m, laws_markText⟩
theorem E_laws_markText : fnOf tys [] Try.f86 H_laws_markText = T_laws_markText := by kernel_rfl
theorem K_laws_markText : SigOk Try.prog 86 T_laws_markText := (congrArg (SigOk Try.prog 86) E_laws_markText).mp (fnOf_ok rfl tysOk trivial Try.func86 (by decide) rfl (fun _ h => by cases h) (nilEq_of (by kernel_rfl)))
def laws_markIntS_L0 : (Int × (Int × ((List Int) × Unit))) → Option (Out (Int × (Int × ((List Int) × Unit))) ((Bool × (Int × (Int × ((List Int) × Unit)))) ⊕ Empty) (Int × (List Int))) :=
  (fun v0 => (if (ltZ v0.1 (lenI v0.2.2.1)) = true then (Option.bind ((Option.bind (getI v0.2.2.1 v0.1) fun v1 => (some ())) : (Option Unit)) fun v2 => (Option.bind ((Option.bind ((Option.bind (getI v0.2.2.1 v0.1) fun v3 => (some v3)) : (Option Int)) fun v4 => (some v0.2.1)) : (Option Int)) fun v5 => (some (Out.norm ((addZ .i64 v0.1 1), ((addZ .i64 v0.2.1 1), ((setI v0.2.2.1 v0.1 (fun v6 => v5)), ()))))))) else (some (Out.exit (Sum.inl ((ltZ v0.1 (lenI v0.2.2.1)), (v0.1, (v0.2.1, (v0.2.2.1, ())))))))))
def laws_markIntS (x : ((List Int) × (Int × Unit))) (c : Unit) : (Option (Int × (List Int))) :=
  (Option.bind (loopN (A := (Int × (Int × ((List Int) × Unit)))) big laws_markIntS_L0 (0, (x.2.1, (x.1, ())))) fun v7 => (match v7 with | Out.norm v8 => none | Out.exit v9 => (match ((match v9 with | Sum.inl v12 => (Sum.inl (v12.2.2.1, (v12.2.2.2.1, ()))) | Sum.inr v13 => (Empty.elim v13)) : ((Int × ((List Int) × Unit)) ⊕ Empty)) with | Sum.inl v10 => (some (v10.1, v10.2.1)) | Sum.inr v11 => none) | Out.ret v14 => (some v14)))
def H_laws_markIntS : Hd := ⟨[.sl 3 (.int .i64), .int .i64], [], some 0, Ty.all (.sl 3 (.int .i64)), .int .i64, .p, []⟩
def T_laws_markIntS : FSig := ⟨H_laws_markIntS.ps, H_laws_markIntS.cs, H_laws_markIntS.io, H_laws_markIntS.im, H_laws_markIntS.R, H_laws_markIntS.m, laws_markIntS⟩
theorem E_laws_markIntS : fnOf tys [] Try.f50 H_laws_markIntS = T_laws_markIntS := by kernel_rfl
theorem K_laws_markIntS : SigOk Try.prog 50 T_laws_markIntS := (congrArg (SigOk Try.prog 50) E_laws_markIntS).mp (fnOf_ok rfl tysOk trivial Try.func50 (by decide) rfl (fun _ h => by cases h; decide) (nilEq_of (by kernel_rfl)))
def laws_markModeS_L0 : (Int × (Int × ((List D_Mode) × Unit))) → Option (Out (Int × (Int × ((List D_Mode) × Unit))) ((Bool × (Int × (Int × ((List D_Mode) × Unit)))) ⊕ Empty) (Int × (List D_Mode))) :=
  (fun v0 => (if (ltZ v0.1 (lenI v0.2.2.1)) = true then (Option.bind ((Option.bind (getI v0.2.2.1 v0.1) fun v1 => (some ())) : (Option Unit)) fun v2 => (Option.bind ((Option.bind ((Option.bind (getI v0.2.2.1 v0.1) fun v3 => (some v3.1)) : (Option Int)) fun v4 => (some v0.2.1)) : (Option Int)) fun v5 => (Option.bind ((Option.bind (getI (setI v0.2.2.1 v0.1 (fun v6 => (v5, v6.2))) v0.1) fun v7 => (some ())) : (Option Unit)) fun v8 => (Option.bind ((Option.bind (getI (setI v0.2.2.1 v0.1 (fun v9 => (v5, v9.2))) v0.1) fun v10 => (some v10.2.1)) : (Option (List Int))) fun v11 => (Option.bind ((Option.bind ((Option.bind ((Option.bind (getI (setI v0.2.2.1 v0.1 (fun v12 => (v5, v12.2))) v0.1) fun v13 => (some v13.2.1)) : (Option (List Int))) fun v14 => (some (v14, ((addZ .i64 v0.2.1 1), ())))) : (Option ((List Int) × (Int × Unit)))) fun v15 => (laws_markIntS v15 ())) : (Option (Int × (List Int)))) fun v16 => (Option.bind ((Option.bind (getI (setI (setI v0.2.2.1 v0.1 (fun v17 => (v5, v17.2))) v0.1 (fun v18 => (v18.1, (v16.2, v18.2.2)))) v0.1) fun v19 => (some ())) : (Option Unit)) fun v20 => (Option.bind ((Option.bind (getI (setI (setI v0.2.2.1 v0.1 (fun v21 => (v5, v21.2))) v0.1 (fun v22 => (v22.1, (v16.2, v22.2.2)))) v0.1) fun v23 => (some v23.2.2.1)) : (Option (List Int))) fun v24 => (Option.bind ((Option.bind ((Option.bind ((Option.bind (getI (setI (setI v0.2.2.1 v0.1 (fun v25 => (v5, v25.2))) v0.1 (fun v26 => (v26.1, (v16.2, v26.2.2)))) v0.1) fun v27 => (some v27.2.2.1)) : (Option (List Int))) fun v28 => (some (v28, (v16.1, ())))) : (Option ((List Int) × (Int × Unit)))) fun v29 => (laws_markIntS v29 ())) : (Option (Int × (List Int)))) fun v30 => (some (Out.norm ((addZ .i64 v0.1 1), (v30.1, ((setI (setI (setI v0.2.2.1 v0.1 (fun v31 => (v5, v31.2))) v0.1 (fun v32 => (v32.1, (v16.2, v32.2.2)))) v0.1 (fun v33 => (v33.1, (v33.2.1, (v30.2, v33.2.2.2))))), ()))))))))))))) else (some (Out.exit (Sum.inl ((ltZ v0.1 (lenI v0.2.2.1)), (v0.1, (v0.2.1, (v0.2.2.1, ())))))))))
def laws_markModeS (x : ((List D_Mode) × (Int × Unit))) (c : Unit) : (Option (Int × (List D_Mode))) :=
  (Option.bind (loopN (A := (Int × (Int × ((List D_Mode) × Unit)))) big laws_markModeS_L0 (0, (x.2.1, (x.1, ())))) fun v34 => (match v34 with | Out.norm v35 => none | Out.exit v36 => (match ((match v36 with | Sum.inl v39 => (Sum.inl (v39.2.2.1, (v39.2.2.2.1, ()))) | Sum.inr v40 => (Empty.elim v40)) : ((Int × ((List D_Mode) × Unit)) ⊕ Empty)) with | Sum.inl v37 => (some (v37.1, v37.2.1)) | Sum.inr v38 => none) | Out.ret v41 => (some v41)))
def H_laws_markModeS : Hd := ⟨[.sl 87 (.st [.int .i64, .sl 3 (.int .i64), .sl 3 (.int .i64)]), .int .i64], [], some 0, Ty.all (.sl 87 (.st [.int .i64, .sl 3 (.int .i64), .sl 3 (.int .i64)])), .int .i64, .p, []⟩
def T_laws_markModeS : FSig := ⟨H_laws_markModeS.ps, H_laws_markModeS.cs, H_laws_markModeS.io, H_laws_markModeS.im, H_laws_markModeS.R, H_laws_markModeS.m, laws_markModeS⟩
theorem E_laws_markModeS : fnOf tys [(50, T_laws_markIntS)] Try.f87 H_laws_markModeS = T_laws_markModeS := by kernel_rfl
theorem K_laws_markModeS : SigOk Try.prog 87 T_laws_markModeS := (congrArg (SigOk Try.prog 87) E_laws_markModeS).mp (fnOf_ok rfl tysOk ⟨K_laws_markIntS, trivial⟩ Try.func87 (by decide) rfl (fun _ h => by cases h; decide) (nilEq_of (by kernel_rfl)))
def laws_markActivityS_L0 : (Int × (Int × ((List D_Activity) × Unit))) → Option (Out (Int × (Int × ((List D_Activity) × Unit))) ((Bool × (Int × (Int × ((List D_Activity) × Unit)))) ⊕ Empty) (Int × (List D_Activity))) :=
  (fun v0 => (if (ltZ v0.1 (lenI v0.2.2.1)) = true then (Option.bind ((Option.bind (laws_markText (v0.2.1, ()) ()) fun v1 => (some v1.1)) : (Option (List UInt8))) fun v2 => (Option.bind ((Option.bind (getI v0.2.2.1 v0.1) fun v3 => (some ())) : (Option Unit)) fun v4 => (Option.bind ((Option.bind ((Option.bind (getI v0.2.2.1 v0.1) fun v5 => (some v5.1)) : (Option (List UInt8))) fun v6 => (some v2)) : (Option (List UInt8))) fun v7 => (Option.bind ((Option.bind (getI (setI v0.2.2.1 v0.1 (fun v8 => (v7, v8.2))) v0.1) fun v9 => (some ())) : (Option Unit)) fun v10 => (Option.bind ((Option.bind ((Option.bind (getI (setI v0.2.2.1 v0.1 (fun v11 => (v7, v11.2))) v0.1) fun v12 => (some v12.2.1)) : (Option Int)) fun v13 => (some (addZ .i64 v0.2.1 1))) : (Option Int)) fun v14 => (Option.bind ((Option.bind (getI (setI (setI v0.2.2.1 v0.1 (fun v15 => (v7, v15.2))) v0.1 (fun v16 => (v16.1, (v14, v16.2.2)))) v0.1) fun v17 => (some ())) : (Option Unit)) fun v18 => (Option.bind ((Option.bind (getI (setI (setI v0.2.2.1 v0.1 (fun v19 => (v7, v19.2))) v0.1 (fun v20 => (v20.1, (v14, v20.2.2)))) v0.1) fun v21 => (some v21.2.2.1)) : (Option (List D_Mode))) fun v22 => (Option.bind ((Option.bind ((Option.bind ((Option.bind (getI (setI (setI v0.2.2.1 v0.1 (fun v23 => (v7, v23.2))) v0.1 (fun v24 => (v24.1, (v14, v24.2.2)))) v0.1) fun v25 => (some v25.2.2.1)) : (Option (List D_Mode))) fun v26 => (some (v26, ((addZ .i64 (addZ .i64 v0.2.1 1) 1), ())))) : (Option ((List D_Mode) × (Int × Unit)))) fun v27 => (laws_markModeS v27 ())) : (Option (Int × (List D_Mode)))) fun v28 => (some (Out.norm ((addZ .i64 v0.1 1), (v28.1, ((setI (setI (setI v0.2.2.1 v0.1 (fun v29 => (v7, v29.2))) v0.1 (fun v30 => (v30.1, (v14, v30.2.2)))) v0.1 (fun v31 => (v31.1, (v31.2.1, (v28.2, v31.2.2.2))))), ()))))))))))))) else (some (Out.exit (Sum.inl ((ltZ v0.1 (lenI v0.2.2.1)), (v0.1, (v0.2.1, (v0.2.2.1, ())))))))))
def laws_markActivityS (x : ((List D_Activity) × (Int × Unit))) (c : Unit) : (Option (Int × (List D_Activity))) :=
  (Option.bind (loopN (A := (Int × (Int × ((List D_Activity) × Unit)))) big laws_markActivityS_L0 (0, (x.2.1, (x.1, ())))) fun v32 => (match v32 with | Out.norm v33 => none | Out.exit v34 => (match ((match v34 with | Sum.inl v37 => (Sum.inl (v37.2.2.1, (v37.2.2.2.1, ()))) | Sum.inr v38 => (Empty.elim v38)) : ((Int × ((List D_Activity) × Unit)) ⊕ Empty)) with | Sum.inl v35 => (some (v35.1, v35.2.1)) | Sum.inr v36 => none) | Out.ret v39 => (some v39)))
def H_laws_markActivityS : Hd := ⟨[.sl 79 (.st [.str, .int .i64, .sl 87 (.st [.int .i64, .sl 3 (.int .i64), .sl 3 (.int .i64)])]), .int .i64], [], some 0, Ty.all (.sl 79 (.st [.str, .int .i64, .sl 87 (.st [.int .i64, .sl 3 (.int .i64), .sl 3 (.int .i64)])])), .int .i64, .p, []⟩
def T_laws_markActivityS : FSig := ⟨H_laws_markActivityS.ps, H_laws_markActivityS.cs, H_laws_markActivityS.io, H_laws_markActivityS.im, H_laws_markActivityS.R, H_laws_markActivityS.m, laws_markActivityS⟩
theorem E_laws_markActivityS : fnOf tys [(86, T_laws_markText), (87, T_laws_markModeS)] Try.f47 H_laws_markActivityS = T_laws_markActivityS := by kernel_rfl
theorem K_laws_markActivityS : SigOk Try.prog 47 T_laws_markActivityS := (congrArg (SigOk Try.prog 47) E_laws_markActivityS).mp (fnOf_ok rfl tysOk ⟨K_laws_markText, K_laws_markModeS, trivial⟩ Try.func47 (by decide) rfl (fun _ h => by cases h; decide) (nilEq_of (by kernel_rfl)))
def laws_markLinkS_L0 : (Int × (Int × ((List D_Link) × Unit))) → Option (Out (Int × (Int × ((List D_Link) × Unit))) ((Bool × (Int × (Int × ((List D_Link) × Unit)))) ⊕ Empty) (Int × (List D_Link))) :=
  (fun v0 => (if (ltZ v0.1 (lenI v0.2.2.1)) = true then (Option.bind ((Option.bind (getI v0.2.2.1 v0.1) fun v1 => (some ())) : (Option Unit)) fun v2 => (Option.bind ((Option.bind ((Option.bind (getI v0.2.2.1 v0.1) fun v3 => (some v3.1)) : (Option Int)) fun v4 => (some v0.2.1)) : (Option Int)) fun v5 => (Option.bind ((Option.bind (getI (setI v0.2.2.1 v0.1 (fun v6 => (v5, v6.2))) v0.1) fun v7 => (some ())) : (Option Unit)) fun v8 => (Option.bind ((Option.bind ((Option.bind (getI (setI v0.2.2.1 v0.1 (fun v9 => (v5, v9.2))) v0.1) fun v10 => (some v10.2.1)) : (Option Int)) fun v11 => (some (addZ .i64 v0.2.1 1))) : (Option Int)) fun v12 => (Option.bind (remZ (addZ .i64 (addZ .i64 v0.2.1 1) 1) 3) fun v13 => (Option.bind ((Option.bind (getI (setI (setI v0.2.2.1 v0.1 (fun v14 => (v5, v14.2))) v0.1 (fun v15 => (v15.1, (v12, v15.2.2)))) v0.1) fun v16 => (some ())) : (Option Unit)) fun v17 => (Option.bind ((Option.bind ((Option.bind (getI (setI (setI v0.2.2.1 v0.1 (fun v18 => (v5, v18.2))) v0.1 (fun v19 => (v19.1, (v12, v19.2.2)))) v0.1) fun v20 => (some v20.2.2.1)) : (Option Bool)) fun v21 => (some (eqZ v13 0))) : (Option Bool)) fun v22 => (Option.bind ((Option.bind (getI (setI (setI (setI v0.2.2.1 v0.1 (fun v23 => (v5, v23.2))) v0.1 (fun v24 => (v24.1, (v12, v24.2.2)))) v0.1 (fun v25 => (v25.1, (v25.2.1, (v22, v25.2.2.2))))) v0.1) fun v26 => (some ())) : (Option Unit)) fun v27 => (Option.bind ((Option.bind ((Option.bind (getI (setI (setI (setI v0.2.2.1 v0.1 (fun v28 => (v5, v28.2))) v0.1 (fun v29 => (v29.1, (v12, v29.2.2)))) v0.1 (fun v30 => (v30.1, (v30.2.1, (v22, v30.2.2.2))))) v0.1) fun v31 => (some v31.2.2.2.1)) : (Option Int)) fun v32 => (some (addZ .i64 (addZ .i64 (addZ .i64 v0.2.1 1) 1) 1))) : (Option Int)) fun v33 => (some (Out.norm ((addZ .i64 v0.1 1), ((addZ .i64 (addZ .i64 (addZ .i64 (addZ .i64 v0.2.1 1) 1) 1) 1), ((setI (setI (setI (setI v0.2.2.1 v0.1 (fun v34 => (v5, v34.2))) v0.1 (fun v35 => (v35.1, (v12, v35.2.2)))) v0.1 (fun v36 => (v36.1, (v36.2.1, (v22, v36.2.2.2))))) v0.1 (fun v37 => (v37.1, (v37.2.1, (v37.2.2.1, (v33, v37.2.2.2.2)))))), ())))))))))))))) else (some (Out.exit (Sum.inl ((ltZ v0.1 (lenI v0.2.2.1)), (v0.1, (v0.2.1, (v0.2.2.1, ())))))))))
def laws_markLinkS (x : ((List D_Link) × (Int × Unit))) (c : Unit) : (Option (Int × (List D_Link))) :=
  (Option.bind (loopN (A := (Int × (Int × ((List D_Link) × Unit)))) big laws_markLinkS_L0 (0, (x.2.1, (x.1, ())))) fun v38 => (match v38 with | Out.norm v39 => none | Out.exit v40 => (match ((match v40 with | Sum.inl v43 => (Sum.inl (v43.2.2.1, (v43.2.2.2.1, ()))) | Sum.inr v44 => (Empty.elim v44)) : ((Int × ((List D_Link) × Unit)) ⊕ Empty)) with | Sum.inl v41 => (some (v41.1, v41.2.1)) | Sum.inr v42 => none) | Out.ret v45 => (some v45)))
def H_laws_markLinkS : Hd := ⟨[.sl 105 (.st [.int .i64, .int .i64, .bool, .int .i64]), .int .i64], [], some 0, Ty.all (.sl 105 (.st [.int .i64, .int .i64, .bool, .int .i64])), .int .i64, .p, []⟩
def T_laws_markLinkS : FSig := ⟨H_laws_markLinkS.ps, H_laws_markLinkS.cs, H_laws_markLinkS.io, H_laws_markLinkS.im, H_laws_markLinkS.R, H_laws_markLinkS.m, laws_markLinkS⟩
theorem E_laws_markLinkS : fnOf tys [] Try.f48 H_laws_markLinkS = T_laws_markLinkS := by kernel_rfl
theorem K_laws_markLinkS : SigOk Try.prog 48 T_laws_markLinkS := (congrArg (SigOk Try.prog 48) E_laws_markLinkS).mp (fnOf_ok rfl tysOk trivial Try.func48 (by decide) rfl (fun _ h => by cases h; decide) (nilEq_of (by kernel_rfl)))
def laws_markIntSS_L0 : (Int × (Int × ((List (List Int)) × Unit))) → Option (Out (Int × (Int × ((List (List Int)) × Unit))) ((Bool × (Int × (Int × ((List (List Int)) × Unit)))) ⊕ Empty) (Int × (List (List Int)))) :=
  (fun v0 => (if (ltZ v0.1 (lenI v0.2.2.1)) = true then (Option.bind ((Option.bind (getI v0.2.2.1 v0.1) fun v1 => (some ())) : (Option Unit)) fun v2 => (Option.bind ((Option.bind (getI v0.2.2.1 v0.1) fun v3 => (some v3)) : (Option (List Int))) fun v4 => (Option.bind ((Option.bind ((Option.bind ((Option.bind (getI v0.2.2.1 v0.1) fun v5 => (some v5)) : (Option (List Int))) fun v6 => (some (v6, (v0.2.1, ())))) : (Option ((List Int) × (Int × Unit)))) fun v7 => (laws_markIntS v7 ())) : (Option (Int × (List Int)))) fun v8 => (some (Out.norm ((addZ .i64 v0.1 1), (v8.1, ((setI v0.2.2.1 v0.1 (fun v9 => v8.2)), ())))))))) else (some (Out.exit (Sum.inl ((ltZ v0.1 (lenI v0.2.2.1)), (v0.1, (v0.2.1, (v0.2.2.1, ())))))))))
def laws_markIntSS (x : ((List (List Int)) × (Int × Unit))) (c : Unit) : (Option (Int × (List (List Int)))) :=
  (Option.bind (loopN (A := (Int × (Int × ((List (List Int)) × Unit)))) big laws_markIntSS_L0 (0, (x.2.1, (x.1, ())))) fun v10 => (match v10 with | Out.norm v11 => none | Out.exit v12 => (match ((match v12 with | Sum.inl v15 => (Sum.inl (v15.2.2.1, (v15.2.2.2.1, ()))) | Sum.inr v16 => (Empty.elim v16)) : ((Int × ((List (List Int)) × Unit)) ⊕ Empty)) with | Sum.inl v13 => (some (v13.1, v13.2.1)) | Sum.inr v14 => none) | Out.ret v17 => (some v17)))
def H_laws_markIntSS : Hd := ⟨[.sl 25 (.sl 3 (.int .i64)), .int .i64], [], some 0, Ty.all (.sl 25 (.sl 3 (.int .i64))), .int .i64, .p, []⟩
def T_laws_markIntSS : FSig := ⟨H_laws_markIntSS.ps, H_laws_markIntSS.cs, H_laws_markIntSS.io, H_laws_markIntSS.im, H_laws_markIntSS.R, H_laws_markIntSS.m, laws_markIntSS⟩
theorem E_laws_markIntSS : fnOf tys [(50, T_laws_markIntS)] Try.f19 H_laws_markIntSS = T_laws_markIntSS := by kernel_rfl
theorem K_laws_markIntSS : SigOk Try.prog 19 T_laws_markIntSS := (congrArg (SigOk Try.prog 19) E_laws_markIntSS).mp (fnOf_ok rfl tysOk ⟨K_laws_markIntS, trivial⟩ Try.func19 (by decide) rfl (fun _ h => by cases h; decide) (nilEq_of (by kernel_rfl)))
def laws_markStepS_L0 : (Int × (Int × ((List D_Step) × Unit))) → Option (Out (Int × (Int × ((List D_Step) × Unit))) ((Bool × (Int × (Int × ((List D_Step) × Unit)))) ⊕ Empty) (Int × (List D_Step))) :=
  (fun v0 => (if (ltZ v0.1 (lenI v0.2.2.1)) = true then (Option.bind ((Option.bind (getI v0.2.2.1 v0.1) fun v1 => (some ())) : (Option Unit)) fun v2 => (Option.bind ((Option.bind ((Option.bind (getI v0.2.2.1 v0.1) fun v3 => (some v3.1)) : (Option Int)) fun v4 => (some v0.2.1)) : (Option Int)) fun v5 => (Option.bind ((Option.bind (getI (setI v0.2.2.1 v0.1 (fun v6 => (v5, v6.2))) v0.1) fun v7 => (some ())) : (Option Unit)) fun v8 => (Option.bind ((Option.bind ((Option.bind (getI (setI v0.2.2.1 v0.1 (fun v9 => (v5, v9.2))) v0.1) fun v10 => (some v10.2.1)) : (Option Int)) fun v11 => (some (addZ .i64 v0.2.1 1))) : (Option Int)) fun v12 => (some (Out.norm ((addZ .i64 v0.1 1), ((addZ .i64 (addZ .i64 v0.2.1 1) 1), ((setI (setI v0.2.2.1 v0.1 (fun v13 => (v5, v13.2))) v0.1 (fun v14 => (v14.1, (v12, v14.2.2)))), ()))))))))) else (some (Out.exit (Sum.inl ((ltZ v0.1 (lenI v0.2.2.1)), (v0.1, (v0.2.1, (v0.2.2.1, ())))))))))
def laws_markStepS (x : ((List D_Step) × (Int × Unit))) (c : Unit) : (Option (Int × (List D_Step))) :=
  (Option.bind (loopN (A := (Int × (Int × ((List D_Step) × Unit)))) big laws_markStepS_L0 (0, (x.2.1, (x.1, ())))) fun v15 => (match v15 with | Out.norm v16 => none | Out.exit v17 => (match ((match v17 with | Sum.inl v20 => (Sum.inl (v20.2.2.1, (v20.2.2.2.1, ()))) | Sum.inr v21 => (Empty.elim v21)) : ((Int × ((List D_Step) × Unit)) ⊕ Empty)) with | Sum.inl v18 => (some (v18.1, v18.2.1)) | Sum.inr v19 => none) | Out.ret v22 => (some v22)))
def H_laws_markStepS : Hd := ⟨[.sl 126 (.st [.int .i64, .int .i64]), .int .i64], [], some 0, Ty.all (.sl 126 (.st [.int .i64, .int .i64])), .int .i64, .p, []⟩
def T_laws_markStepS : FSig := ⟨H_laws_markStepS.ps, H_laws_markStepS.cs, H_laws_markStepS.io, H_laws_markStepS.im, H_laws_markStepS.R, H_laws_markStepS.m, laws_markStepS⟩
theorem E_laws_markStepS : fnOf tys [] Try.f88 H_laws_markStepS = T_laws_markStepS := by kernel_rfl
theorem K_laws_markStepS : SigOk Try.prog 88 T_laws_markStepS := (congrArg (SigOk Try.prog 88) E_laws_markStepS).mp (fnOf_ok rfl tysOk trivial Try.func88 (by decide) rfl (fun _ h => by cases h; decide) (nilEq_of (by kernel_rfl)))
def laws_markResourceS_L0 : (Int × (Int × ((List D_Resource) × Unit))) → Option (Out (Int × (Int × ((List D_Resource) × Unit))) ((Bool × (Int × (Int × ((List D_Resource) × Unit)))) ⊕ Empty) (Int × (List D_Resource))) :=
  (fun v0 => (if (ltZ v0.1 (lenI v0.2.2.1)) = true then (Option.bind ((Option.bind (getI v0.2.2.1 v0.1) fun v1 => (some ())) : (Option Unit)) fun v2 => (Option.bind ((Option.bind (getI v0.2.2.1 v0.1) fun v3 => (some v3.1)) : (Option (List D_Step))) fun v4 => (Option.bind ((Option.bind ((Option.bind ((Option.bind (getI v0.2.2.1 v0.1) fun v5 => (some v5.1)) : (Option (List D_Step))) fun v6 => (some (v6, (v0.2.1, ())))) : (Option ((List D_Step) × (Int × Unit)))) fun v7 => (laws_markStepS v7 ())) : (Option (Int × (List D_Step)))) fun v8 => (Option.bind ((Option.bind (getI (setI v0.2.2.1 v0.1 (fun v9 => (v8.2, v9.2))) v0.1) fun v10 => (some ())) : (Option Unit)) fun v11 => (Option.bind ((Option.bind (getI (setI v0.2.2.1 v0.1 (fun v12 => (v8.2, v12.2))) v0.1) fun v13 => (some v13.2.1)) : (Option (List (List Int)))) fun v14 => (Option.bind ((Option.bind ((Option.bind ((Option.bind (getI (setI v0.2.2.1 v0.1 (fun v15 => (v8.2, v15.2))) v0.1) fun v16 => (some v16.2.1)) : (Option (List (List Int)))) fun v17 => (some (v17, (v8.1, ())))) : (Option ((List (List Int)) × (Int × Unit)))) fun v18 => (laws_markIntSS v18 ())) : (Option (Int × (List (List Int))))) fun v19 => (some (Out.norm ((addZ .i64 v0.1 1), (v19.1, ((setI (setI v0.2.2.1 v0.1 (fun v20 => (v8.2, v20.2))) v0.1 (fun v21 => (v21.1, (v19.2, v21.2.2)))), ()))))))))))) else (some (Out.exit (Sum.inl ((ltZ v0.1 (lenI v0.2.2.1)), (v0.1, (v0.2.1, (v0.2.2.1, ())))))))))
def laws_markResourceS (x : ((List D_Resource) × (Int × Unit))) (c : Unit) : (Option (Int × (List D_Resource))) :=
  (Option.bind (loopN (A := (Int × (Int × ((List D_Resource) × Unit)))) big laws_markResourceS_L0 (0, (x.2.1, (x.1, ())))) fun v22 => (match v22 with | Out.norm v23 => none | Out.exit v24 => (match ((match v24 with | Sum.inl v27 => (Sum.inl (v27.2.2.1, (v27.2.2.2.1, ()))) | Sum.inr v28 => (Empty.elim v28)) : ((Int × ((List D_Resource) × Unit)) ⊕ Empty)) with | Sum.inl v25 => (some (v25.1, v25.2.1)) | Sum.inr v26 => none) | Out.ret v29 => (some v29)))
def H_laws_markResourceS : Hd := ⟨[.sl 91 (.st [.sl 126 (.st [.int .i64, .int .i64]), .sl 25 (.sl 3 (.int .i64))]), .int .i64], [], some 0, Ty.all (.sl 91 (.st [.sl 126 (.st [.int .i64, .int .i64]), .sl 25 (.sl 3 (.int .i64))])), .int .i64, .p, []⟩
def T_laws_markResourceS : FSig := ⟨H_laws_markResourceS.ps, H_laws_markResourceS.cs, H_laws_markResourceS.io, H_laws_markResourceS.im, H_laws_markResourceS.R, H_laws_markResourceS.m, laws_markResourceS⟩
theorem E_laws_markResourceS : fnOf tys [(19, T_laws_markIntSS), (88, T_laws_markStepS)] Try.f49 H_laws_markResourceS = T_laws_markResourceS := by kernel_rfl
theorem K_laws_markResourceS : SigOk Try.prog 49 T_laws_markResourceS := (congrArg (SigOk Try.prog 49) E_laws_markResourceS).mp (fnOf_ok rfl tysOk ⟨K_laws_markIntSS, K_laws_markStepS, trivial⟩ Try.func49 (by decide) rfl (fun _ h => by cases h; decide) (nilEq_of (by kernel_rfl)))
def laws_markProject (x : (D_Project × (Int × Unit))) (c : Unit) : (Option (Int × D_Project)) :=
  (Option.bind (laws_markActivityS (x.1.2.1, (x.2.1, ())) ()) fun v0 => (Option.bind (laws_markLinkS (x.1.2.2.1, (v0.1, ())) ()) fun v1 => (Option.bind (laws_markResourceS (x.1.2.2.2.1, (v1.1, ())) ()) fun v2 => (Option.bind (laws_markIntS (x.1.2.2.2.2.1, (v2.1, ())) ()) fun v3 => (some (v3.1, (x.1.1, (v0.2, (v1.2, (v2.2, (v3.2, x.1.2.2.2.2.2)))))))))))
def H_laws_markProject : Hd := ⟨[.st [.int .i64, .sl 79 (.st [.str, .int .i64, .sl 87 (.st [.int .i64, .sl 3 (.int .i64), .sl 3 (.int .i64)])]), .sl 105 (.st [.int .i64, .int .i64, .bool, .int .i64]), .sl 91 (.st [.sl 126 (.st [.int .i64, .int .i64]), .sl 25 (.sl 3 (.int .i64))]), .sl 3 (.int .i64)], .int .i64], [], some 0, Ty.all (.st [.int .i64, .sl 79 (.st [.str, .int .i64, .sl 87 (.st [.int .i64, .sl 3 (.int .i64), .sl 3 (.int .i64)])]), .sl 105 (.st [.int .i64, .int .i64, .bool, .int .i64]), .sl 91 (.st [.sl 126 (.st [.int .i64, .int .i64]), .sl 25 (.sl 3 (.int .i64))]), .sl 3 (.int .i64)]), .int .i64, .p, []⟩
def T_laws_markProject : FSig := ⟨H_laws_markProject.ps, H_laws_markProject.cs, H_laws_markProject.io, H_laws_markProject.im, H_laws_markProject.R, H_laws_markProject.m, laws_markProject⟩
theorem E_laws_markProject : fnOf tys [(47, T_laws_markActivityS), (48, T_laws_markLinkS), (49, T_laws_markResourceS), (50, T_laws_markIntS)] Try.f18 H_laws_markProject = T_laws_markProject := by kernel_rfl
theorem K_laws_markProject : SigOk Try.prog 18 T_laws_markProject := (congrArg (SigOk Try.prog 18) E_laws_markProject).mp (fnOf_ok rfl tysOk ⟨K_laws_markActivityS, K_laws_markLinkS, K_laws_markResourceS, K_laws_markIntS, trivial⟩ Try.func18 (by decide) rfl (fun _ h => by cases h; decide) (nilEq_of (by kernel_rfl)))
def laws_heldIntS_L0 : (Int × ((List Int) × (Int × Unit))) → Option (Out (Int × ((List Int) × (Int × Unit))) ((Bool × (Int × ((List Int) × (Int × Unit)))) ⊕ Empty) (Int × Unit)) :=
  (fun v0 => (if (ltZ v0.1 (lenI v0.2.1)) = true then (Option.bind (getI v0.2.1 v0.1) fun v1 => (if (notB (eqZ v1 v0.2.2.1)) = true then (some (Out.ret ((-1), ()))) else (some (Out.norm ((addZ .i64 v0.1 1), (v0.2.1, ((addZ .i64 v0.2.2.1 1), ()))))))) else (some (Out.exit (Sum.inl ((ltZ v0.1 (lenI v0.2.1)), (v0.1, (v0.2.1, (v0.2.2.1, ())))))))))
def laws_heldIntS (x : ((List Int) × (Int × Unit))) (c : Unit) : (Option (Int × Unit)) :=
  (Option.bind (loopN (A := (Int × ((List Int) × (Int × Unit)))) big laws_heldIntS_L0 (0, (x.1, (x.2.1, ())))) fun v2 => (match v2 with | Out.norm v3 => none | Out.exit v4 => (match ((match v4 with | Sum.inl v7 => (Sum.inl (v7.2.2.2.1, ())) | Sum.inr v8 => (Empty.elim v8)) : ((Int × Unit) ⊕ Empty)) with | Sum.inl v5 => (some (v5.1, ())) | Sum.inr v6 => none) | Out.ret v9 => (some v9)))
def H_laws_heldIntS : Hd := ⟨[.sl 3 (.int .i64), .int .i64], [], none, .p, .int .i64, .p, []⟩
def T_laws_heldIntS : FSig := ⟨H_laws_heldIntS.ps, H_laws_heldIntS.cs, H_laws_heldIntS.io, H_laws_heldIntS.im, H_laws_heldIntS.R, H_laws_heldIntS.m, laws_heldIntS⟩
theorem E_laws_heldIntS : fnOf tys [] Try.f51 H_laws_heldIntS = T_laws_heldIntS := by kernel_rfl
theorem K_laws_heldIntS : SigOk Try.prog 51 T_laws_heldIntS := (congrArg (SigOk Try.prog 51) E_laws_heldIntS).mp (fnOf_ok rfl tysOk trivial Try.func51 (by decide) rfl (fun _ h => by cases h) (nilEq_of (by kernel_rfl)))
def laws_heldIntSS_L0 : (Int × ((List (List Int)) × (Int × Unit))) → Option (Out (Int × ((List (List Int)) × (Int × Unit))) ((Bool × (Int × ((List (List Int)) × (Int × Unit)))) ⊕ Empty) (Int × Unit)) :=
  (fun v0 => (if (ltZ v0.1 (lenI v0.2.1)) = true then (Option.bind (getI v0.2.1 v0.1) fun v1 => (Option.bind ((Option.bind (laws_heldIntS (v1, (v0.2.2.1, ())) ()) fun v2 => (some v2.1)) : (Option Int)) fun v3 => (if (ltZ v3 0) = true then (some (Out.ret ((-1), ()))) else (some (Out.norm ((addZ .i64 v0.1 1), (v0.2.1, (v3, ())))))))) else (some (Out.exit (Sum.inl ((ltZ v0.1 (lenI v0.2.1)), (v0.1, (v0.2.1, (v0.2.2.1, ())))))))))
def laws_heldIntSS (x : ((List (List Int)) × (Int × Unit))) (c : Unit) : (Option (Int × Unit)) :=
  (Option.bind (loopN (A := (Int × ((List (List Int)) × (Int × Unit)))) big laws_heldIntSS_L0 (0, (x.1, (x.2.1, ())))) fun v4 => (match v4 with | Out.norm v5 => none | Out.exit v6 => (match ((match v6 with | Sum.inl v9 => (Sum.inl (v9.2.2.2.1, ())) | Sum.inr v10 => (Empty.elim v10)) : ((Int × Unit) ⊕ Empty)) with | Sum.inl v7 => (some (v7.1, ())) | Sum.inr v8 => none) | Out.ret v11 => (some v11)))
def H_laws_heldIntSS : Hd := ⟨[.sl 25 (.sl 3 (.int .i64)), .int .i64], [], none, .p, .int .i64, .p, []⟩
def T_laws_heldIntSS : FSig := ⟨H_laws_heldIntSS.ps, H_laws_heldIntSS.cs, H_laws_heldIntSS.io, H_laws_heldIntSS.im, H_laws_heldIntSS.R, H_laws_heldIntSS.m, laws_heldIntSS⟩
theorem E_laws_heldIntSS : fnOf tys [(51, T_laws_heldIntS)] Try.f20 H_laws_heldIntSS = T_laws_heldIntSS := by kernel_rfl
theorem K_laws_heldIntSS : SigOk Try.prog 20 T_laws_heldIntSS := (congrArg (SigOk Try.prog 20) E_laws_heldIntSS).mp (fnOf_ok rfl tysOk ⟨K_laws_heldIntS, trivial⟩ Try.func20 (by decide) rfl (fun _ h => by cases h) (nilEq_of (by kernel_rfl)))
def laws_FnExactAllModeLists (x : (D_Project × Unit)) (c : Unit) : (Option (Bool × Unit)) :=
  (Option.bind ((Option.bind (laws_szProject (x.1, (1048576, ())) ()) fun v0 => (some v0.1)) : (Option Int)) fun v1 => (if (ltZ v1 0) = true then (some (true, ())) else (Option.bind ((Option.bind (laws_toProject (x.1, ()) ()) fun v2 => (some v2.1)) : (Option D_Project)) fun v3 => (Option.bind ((Option.bind (spec_AllModeLists (v3, ()) ()) fun v4 => (some v4.1)) : (Option (List (List Int)))) fun v5 => (Option.bind ((Option.bind (laws_toProject (x.1, ()) ()) fun v6 => (some v6.1)) : (Option D_Project)) fun v7 => (Option.bind ((Option.bind (impl_AllModeLists (v7, ()) ()) fun v8 => (some v8.1)) : (Option (List (List Int)))) fun v9 => (Option.bind ((Option.bind (laws_eqIntSS (v9, (v5, ())) ()) fun v10 => (some v10.1)) : (Option Bool)) fun v11 => (if (notB v11) = true then (some (false, ())) else (Option.bind ((Option.bind (laws_toProject (x.1, ()) ()) fun v12 => (some v12.1)) : (Option D_Project)) fun v13 => (Option.bind ((Option.bind (laws_eqProject (v7, (v13, ())) ()) fun v14 => (some v14.1)) : (Option Bool)) fun v15 => (if (notB v15) = true then (some (false, ())) else (Option.bind (laws_markProject (v7, (1, ())) ()) fun v16 => (Option.bind ((if (ltZ v16.1 0) = true then (some (true, (x.1, (v5, (v9, ()))))) else (Option.bind ((Option.bind (laws_eqIntSS (v9, (v5, ())) ()) fun v17 => (some v17.1)) : (Option Bool)) fun v18 => (some ((notB v18), (x.1, (v5, (v9, ()))))))) : (Option (Bool × (D_Project × ((List (List Int)) × ((List (List Int)) × Unit)))))) fun v19 => (if v19.1 = true then (some (false, ())) else (Option.bind (laws_markIntSS (v19.2.2.2.1, (1, ())) ()) fun v20 => (Option.bind ((Option.bind (laws_heldIntSS (v20.2, (1, ())) ()) fun v21 => (some v21.1)) : (Option Int)) fun v22 => (if (ltZ v22 0) = true then (some (false, ())) else (if (notB (eqZ v22 v20.1)) = true then (some (false, ())) else (Option.bind ((Option.bind (laws_toProject (v19.2.1, ()) ()) fun v23 => (some v23.1)) : (Option D_Project)) fun v24 => (Option.bind ((Option.bind (impl_AllModeLists (v24, ()) ()) fun v25 => (some v25.1)) : (Option (List (List Int)))) fun v26 => (Option.bind ((Option.bind (laws_eqIntSS (v26, (v19.2.2.1, ())) ()) fun v27 => (some v27.1)) : (Option Bool)) fun v28 => (if (notB v28) = true then (some (false, ())) else (Option.bind ((Option.bind (laws_heldIntSS (v20.2, (1, ())) ()) fun v29 => (some v29.1)) : (Option Int)) fun v30 => (if (ltZ v30 0) = true then (some (false, ())) else (if (notB (eqZ v30 v20.1)) = true then (some (false, ())) else (some (true, ())))))))))))))))))))))))))))
def H_laws_FnExactAllModeLists : Hd := ⟨[.st [.int .i64, .sl 95 (.st [.str, .int .i64, .sl 145 (.st [.int .i64, .sl 3 (.int .i64), .sl 3 (.int .i64)])]), .sl 107 (.st [.int .i64, .int .i64, .bool, .int .i64]), .sl 99 (.st [.sl 148 (.st [.int .i64, .int .i64]), .sl 25 (.sl 3 (.int .i64))]), .sl 3 (.int .i64)]], [], none, .p, .bool, .p, [(1000000017, .p)]⟩
def T_laws_FnExactAllModeLists : FSig := ⟨H_laws_FnExactAllModeLists.ps, H_laws_FnExactAllModeLists.cs, H_laws_FnExactAllModeLists.io, H_laws_FnExactAllModeLists.im, H_laws_FnExactAllModeLists.R, H_laws_FnExactAllModeLists.m, laws_FnExactAllModeLists⟩
theorem E_laws_FnExactAllModeLists : fnOf tys [(7, T_laws_szProject), (10, T_laws_toProject), (13, T_laws_eqProject), (15, T_spec_AllModeLists), (16, T_impl_AllModeLists), (17, T_laws_eqIntSS), (18, T_laws_markProject), (19, T_laws_markIntSS), (20, T_laws_heldIntSS)] Try.f4 H_laws_FnExactAllModeLists = T_laws_FnExactAllModeLists := by kernel_rfl
theorem K_laws_FnExactAllModeLists : SigOk Try.prog 4 T_laws_FnExactAllModeLists := (congrArg (SigOk Try.prog 4) E_laws_FnExactAllModeLists).mp (fnOf_ok rfl tysOk ⟨K_laws_szProject, K_laws_toProject, K_laws_eqProject, K_spec_AllModeLists, K_impl_AllModeLists, K_laws_eqIntSS, K_laws_markProject, K_laws_markIntSS, K_laws_heldIntSS, trivial⟩ Try.func4 (by decide) rfl (fun _ h => by cases h) (nilEq_of (by kernel_rfl)))
end Go.Proofs.Ytdjajoebpdnhnaa
