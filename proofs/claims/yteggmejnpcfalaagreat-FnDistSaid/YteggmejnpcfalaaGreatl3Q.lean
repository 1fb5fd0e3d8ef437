/-
  The functions of this seat as plain Lean functions, and that the program computes them. No condition.
-/
import Derived.Test.YteggmejnpcfalaaGreatN37
import Derived.Test.YteggmejnpcfalaaGreatl3X
import Derived.Test.YteggmejnpcfalaaGreatProg
import Derived.KernelRfl
namespace Go.Proofs.YteggmejnpcfalaaGreat
open Go.Abs
set_option linter.unusedVariables false
set_option maxRecDepth 100000
abbrev D_Mode:Type:=(Int × ((List Int) × ((List Int) × Unit)))
abbrev Ad:Type:=((List UInt8) × (Int × ((List D_Mode) × Unit)))
abbrev D_Link:Type:=(Int × (Int × (Bool × (Int × Unit))))
abbrev D_Step:Type:=(Int × (Int × Unit))
abbrev Ai:Type:=((List D_Step) × ((List (List Int)) × Unit))
abbrev Aa:Type:=(Int × ((List Ad) × ((List D_Link) × ((List Ai) × ((List Int) × Unit)))))
abbrev Ac:Type:=((List Int) × ((List Int) × Unit))
abbrev Ag:Type:=((List Int) × D_Step)
abbrev D_Rule:Type:=(Int × (Int × D_Step))
abbrev Ae:Type:=((List Int) × ((List Int) × ((List (List Int)) × Unit)))
abbrev y_6:Ty:=.st [.sl 3 (.int .i64),.sl 3 (.int .i64)]
abbrev y_5:Ty:=.st [.int .i64,.int .i64,.bool,.int .i64]
abbrev y_4:Ty:=.st [.int .i64,.sl 3 (.int .i64),.sl 3 (.int .i64)]
abbrev y_2:Ty:=.st [.sl 135 (.st [.int .i64,.int .i64]),.sl 26 (.sl 3 (.int .i64))]
abbrev y_3:Ty:=.st [.sl 3 (.int .i64),.sl 3 (.int .i64),.sl 26 (.sl 3 (.int .i64))]
abbrev y_1:Ty:=.st [.str,.int .i64,.sl 86 (y_4)]
abbrev y_0:Ty:=.st [.int .i64,.sl 52 (y_1),.sl 63 (y_5),.sl 92 (y_2),.sl 3 (.int .i64)]
theorem tn3:TnOk Tryz.prog 3 (.int .i64):=⟨Tryz.underlying3,fun _ h => (by cases h),Tryz.t3,rfl,rfl,fun _ _ => rfl⟩
theorem tn4:TnOk Tryz.prog 4 (.bool):=⟨Tryz.underlying4,fun _ h => (by cases h),Tryz.t4,rfl,rfl,fun _ _ => rfl⟩
theorem tn5:TnOk Tryz.prog 5 (.int .u8):=⟨Tryz.underlying5,fun _ h => (by cases h),Tryz.t5,rfl,rfl,fun _ _ => rfl⟩
theorem tn9:TnOk Tryz.prog 9 (.str):=⟨Tryz.underlying9,fun _ h => (by cases h),Tryz.t9,rfl,rfl,fun _ _ => rfl⟩
theorem tn22:TnOk Tryz.prog 22 (.sl 5 (.int .u8)):=⟨⟨Tryz.underlying22,Tryz.t5,_,rfl,rfl,rfl,rfl,by decide,by decide,fun _ _ => rfl,fun k h => by cases h; exact Tryz.underlying5⟩,fun _ h => (by cases h),Tryz.t22,rfl,rfl,fun _ _ => rfl⟩
theorem tn23:TnOk Tryz.prog 23 (.sl 52 y_1):=⟨⟨Tryz.underlying23,Tryz.t52,_,rfl,rfl,rfl,rfl,by decide,by decide,fun _ _ => rfl,fun k h => by cases h⟩,fun _ h => (by cases h),Tryz.t23,rfl,rfl,fun _ _ => rfl⟩
theorem tn24:TnOk Tryz.prog 24 (.sl 63 y_5):=⟨⟨Tryz.underlying24,Tryz.t63,_,rfl,rfl,rfl,rfl,by decide,by decide,fun _ _ => rfl,fun k h => by cases h⟩,fun _ h => (by cases h),Tryz.t24,rfl,rfl,fun _ _ => rfl⟩
theorem tn25:TnOk Tryz.prog 25 (.sl 92 y_2):=⟨⟨Tryz.underlying25,Tryz.t92,_,rfl,rfl,rfl,rfl,by decide,by decide,fun _ _ => rfl,fun k h => by cases h⟩,fun _ h => (by cases h),Tryz.t25,rfl,rfl,fun _ _ => rfl⟩
theorem tn26:TnOk Tryz.prog 26 (.sl 3 (.int .i64)):=⟨⟨Tryz.underlying26,Tryz.t3,_,rfl,rfl,rfl,rfl,by decide,by decide,fun _ _ => rfl,fun k h => by cases h; exact Tryz.underlying3⟩,fun _ h => (by cases h),Tryz.t26,rfl,rfl,fun _ _ => rfl⟩
theorem tn27:TnOk Tryz.prog 27 y_0:=⟨⟨_,Tryz.underlying27,Tryz.eqGuardType27,Tryz.stoodInHeld27,rfl,fun j τ h => by (repeat (rcases j with _ | j; · (cases h; first | exact ⟨_,_,rfl,rfl,by decide,by decide,Tryz.underlying3,rfl,fun us h => by cases h⟩ | exact ⟨_,_,rfl,rfl,by decide,by decide,Tryz.underlying23,rfl,fun us h => by cases h⟩ | exact ⟨_,_,rfl,rfl,by decide,by decide,Tryz.underlying24,rfl,fun us h => by cases h⟩ | exact ⟨_,_,rfl,rfl,by decide,by decide,Tryz.underlying25,rfl,fun us h => by cases h⟩ | exact ⟨_,_,rfl,rfl,by decide,by decide,Tryz.underlying26,rfl,fun us h => by cases h⟩))); cases h⟩,(fun us hus fs hfs j τ h f hf => by cases hus; rw [Tryz.underlying27] at hfs; cases hfs; (repeat (rcases j with _ | j; · (cases h; cases hf; first | exact ⟨fun k e => by cases e; exact Tryz.underlying3,fun e => (by cases e),fun e => (by cases e)⟩ | exact ⟨fun k e => (by cases e),fun e => (by cases e),fun e => (by cases e)⟩))); cases h),Tryz.t27,rfl,rfl,fun _ _ => rfl⟩
theorem tn28:TnOk Tryz.prog 28 y_0:=⟨⟨_,Tryz.underlying28,Tryz.eqGuardType28,Tryz.stoodInHeld28,rfl,fun j τ h => by (repeat (rcases j with _ | j; · (cases h; first | exact ⟨_,_,rfl,rfl,by decide,by decide,Tryz.underlying3,rfl,fun us h => by cases h⟩ | exact ⟨_,_,rfl,rfl,by decide,by decide,Tryz.underlying23,rfl,fun us h => by cases h⟩ | exact ⟨_,_,rfl,rfl,by decide,by decide,Tryz.underlying24,rfl,fun us h => by cases h⟩ | exact ⟨_,_,rfl,rfl,by decide,by decide,Tryz.underlying25,rfl,fun us h => by cases h⟩ | exact ⟨_,_,rfl,rfl,by decide,by decide,Tryz.underlying26,rfl,fun us h => by cases h⟩))); cases h⟩,(fun us hus fs hfs j τ h f hf => by cases hus; rw [Tryz.underlying28] at hfs; cases hfs; (repeat (rcases j with _ | j; · (cases h; cases hf; first | exact ⟨fun k e => by cases e; exact Tryz.underlying3,fun e => (by cases e),fun e => (by cases e)⟩ | exact ⟨fun k e => (by cases e),fun e => (by cases e),fun e => (by cases e)⟩))); cases h),Tryz.t28,rfl,rfl,fun _ _ => rfl⟩
theorem tn29:TnOk Tryz.prog 29 (.fn [.sl 5 (.int .u8)] y_0):=⟨⟨_,_,_,Tryz.underlying29⟩,fun _ h => (by cases h),Tryz.t29,rfl,rfl,fun _ h => by cases h⟩
theorem tn30:TnOk Tryz.prog 30 (.fn [y_0] (.sl 3 (.int .i64))):=⟨⟨_,_,_,Tryz.underlying30⟩,fun _ h => (by cases h),Tryz.t30,rfl,rfl,fun _ h => by cases h⟩
theorem tn31:TnOk Tryz.prog 31 (.sl 35 y_6):=⟨⟨Tryz.underlying31,Tryz.t35,_,rfl,rfl,rfl,rfl,by decide,by decide,fun _ _ => rfl,fun k h => by cases h⟩,fun _ h => (by cases h),Tryz.t31,rfl,rfl,fun _ _ => rfl⟩
theorem tn32:TnOk Tryz.prog 32 (.fn [y_0,.int .i64] (.sl 35 y_6)):=⟨⟨_,_,_,Tryz.underlying32⟩,fun _ h => (by cases h),Tryz.t32,rfl,rfl,fun _ h => by cases h⟩
theorem tn33:TnOk Tryz.prog 33 (.fn [y_0,.int .i64] (.sl 3 (.int .i64))):=⟨⟨_,_,_,Tryz.underlying33⟩,fun _ h => (by cases h),Tryz.t33,rfl,rfl,fun _ h => by cases h⟩
theorem tn34:TnOk Tryz.prog 34 y_6:=⟨⟨_,Tryz.underlying34,Tryz.eqGuardType34,Tryz.stoodInHeld34,rfl,fun j τ h => by (repeat (rcases j with _ | j; · (cases h; first | exact ⟨_,_,rfl,rfl,by decide,by decide,Tryz.underlying26,rfl,fun us h => by cases h⟩))); cases h⟩,(fun us hus fs hfs j τ h f hf => by cases hus; rw [Tryz.underlying34] at hfs; cases hfs; (repeat (rcases j with _ | j; · (cases h; cases hf; first | exact ⟨fun k e => (by cases e),fun e => (by cases e),fun e => (by cases e)⟩))); cases h),Tryz.t34,rfl,rfl,fun _ _ => rfl⟩
theorem tn35:TnOk Tryz.prog 35 y_6:=⟨⟨_,Tryz.underlying35,Tryz.eqGuardType35,Tryz.stoodInHeld35,rfl,fun j τ h => by (repeat (rcases j with _ | j; · (cases h; first | exact ⟨_,_,rfl,rfl,by decide,by decide,Tryz.underlying26,rfl,fun us h => by cases h⟩))); cases h⟩,(fun us hus fs hfs j τ h f hf => by cases hus; rw [Tryz.underlying35] at hfs; cases hfs; (repeat (rcases j with _ | j; · (cases h; cases hf; first | exact ⟨fun k e => (by cases e),fun e => (by cases e),fun e => (by cases e)⟩))); cases h),Tryz.t35,rfl,rfl,fun _ _ => rfl⟩
theorem tn36:TnOk Tryz.prog 36 (.fn [y_0,y_6] (.int .i64)):=⟨⟨_,_,_,Tryz.underlying36⟩,fun _ h => (by cases h),Tryz.t36,rfl,rfl,fun _ h => by cases h⟩
theorem tn37:TnOk Tryz.prog 37 (.fn [y_0,.int .i64] (.int .i64)):=⟨⟨_,_,_,Tryz.underlying37⟩,fun _ h => (by cases h),Tryz.t37,rfl,rfl,fun _ h => by cases h⟩
theorem tn38:TnOk Tryz.prog 38 (.fn [y_0] (.int .i64)):=⟨⟨_,_,_,Tryz.underlying38⟩,fun _ h => (by cases h),Tryz.t38,rfl,rfl,fun _ h => by cases h⟩
theorem tn39:TnOk Tryz.prog 39 (.fn [y_0] (.bool)):=⟨⟨_,_,_,Tryz.underlying39⟩,fun _ h => (by cases h),Tryz.t39,rfl,rfl,fun _ h => by cases h⟩
theorem tn40:TnOk Tryz.prog 40 (.fn [.sl 5 (.int .u8)] (.bool)):=⟨⟨_,_,_,Tryz.underlying40⟩,fun _ h => (by cases h),Tryz.t40,rfl,rfl,fun _ h => by cases h⟩
theorem tn42:TnOk Tryz.prog 42 (.fn [.sl 3 (.int .i64),.sl 3 (.int .i64)] (.bool)):=⟨⟨_,_,_,Tryz.underlying42⟩,fun _ h => (by cases h),Tryz.t42,rfl,rfl,fun _ h => by cases h⟩
theorem tn43:TnOk Tryz.prog 43 (.fn [.sl 3 (.int .i64)] (.sl 3 (.int .i64))):=⟨⟨_,_,_,Tryz.underlying43⟩,fun _ h => (by cases h),Tryz.t43,rfl,rfl,fun _ h => by cases h⟩
theorem tn44:TnOk Tryz.prog 44 (.fn [.int .i64] (.sl 3 (.int .i64))):=⟨⟨_,_,_,Tryz.underlying44⟩,fun _ h => (by cases h),Tryz.t44,rfl,rfl,fun _ h => by cases h⟩
theorem tn45:TnOk Tryz.prog 45 (.sl 4 (.bool)):=⟨⟨Tryz.underlying45,Tryz.t4,_,rfl,rfl,rfl,rfl,by decide,by decide,fun _ _ => rfl,fun k h => by cases h⟩,fun _ h => (by cases h),Tryz.t45,rfl,rfl,fun _ _ => rfl⟩
theorem tn48:TnOk Tryz.prog 48 (.fn [y_0,y_6] (.bool)):=⟨⟨_,_,_,Tryz.underlying48⟩,fun _ h => (by cases h),Tryz.t48,rfl,rfl,fun _ h => by cases h⟩
theorem tn50:TnOk Tryz.prog 50 (.sl 86 y_4):=⟨⟨Tryz.underlying50,Tryz.t86,_,rfl,rfl,rfl,rfl,by decide,by decide,fun _ _ => rfl,fun k h => by cases h⟩,fun _ h => (by cases h),Tryz.t50,rfl,rfl,fun _ _ => rfl⟩
theorem tn51:TnOk Tryz.prog 51 y_1:=⟨⟨_,Tryz.underlying51,Tryz.eqGuardType51,Tryz.stoodInHeld51,rfl,fun j τ h => by (repeat (rcases j with _ | j; · (cases h; first | exact ⟨_,_,rfl,rfl,by decide,by decide,Tryz.underlying9,rfl,fun us h => by cases h⟩ | exact ⟨_,_,rfl,rfl,by decide,by decide,Tryz.underlying3,rfl,fun us h => by cases h⟩ | exact ⟨_,_,rfl,rfl,by decide,by decide,Tryz.underlying50,rfl,fun us h => by cases h⟩))); cases h⟩,(fun us hus fs hfs j τ h f hf => by cases hus; rw [Tryz.underlying51] at hfs; cases hfs; (repeat (rcases j with _ | j; · (cases h; cases hf; first | exact ⟨fun k e => (by cases e),fun e => (by cases e),fun _ => Tryz.underlying9⟩ | exact ⟨fun k e => by cases e; exact Tryz.underlying3,fun e => (by cases e),fun e => (by cases e)⟩ | exact ⟨fun k e => (by cases e),fun e => (by cases e),fun e => (by cases e)⟩))); cases h),Tryz.t51,rfl,rfl,fun _ _ => rfl⟩
theorem tn52:TnOk Tryz.prog 52 y_1:=⟨⟨_,Tryz.underlying52,Tryz.eqGuardType52,Tryz.stoodInHeld52,rfl,fun j τ h => by (repeat (rcases j with _ | j; · (cases h; first | exact ⟨_,_,rfl,rfl,by decide,by decide,Tryz.underlying9,rfl,fun us h => by cases h⟩ | exact ⟨_,_,rfl,rfl,by decide,by decide,Tryz.underlying3,rfl,fun us h => by cases h⟩ | exact ⟨_,_,rfl,rfl,by decide,by decide,Tryz.underlying50,rfl,fun us h => by cases h⟩))); cases h⟩,(fun us hus fs hfs j τ h f hf => by cases hus; rw [Tryz.underlying52] at hfs; cases hfs; (repeat (rcases j with _ | j; · (cases h; cases hf; first | exact ⟨fun k e => (by cases e),fun e => (by cases e),fun _ => Tryz.underlying9⟩ | exact ⟨fun k e => by cases e; exact Tryz.underlying3,fun e => (by cases e),fun e => (by cases e)⟩ | exact ⟨fun k e => (by cases e),fun e => (by cases e),fun e => (by cases e)⟩))); cases h),Tryz.t52,rfl,rfl,fun _ _ => rfl⟩
theorem tn53:TnOk Tryz.prog 53 (.ptr (.st [.sl 5 (.int .u8),.int .i64,.int .i64])):=⟨⟨_,Tryz.underlying53⟩,fun _ h => (by cases h),Tryz.t53,rfl,rfl,fun _ h => by cases h⟩
theorem tn54:TnOk Tryz.prog 54 (.fn [.sl 5 (.int .u8)] (.ptr (.st [.sl 5 (.int .u8),.int .i64,.int .i64]))):=⟨⟨_,_,_,Tryz.underlying54⟩,fun _ h => (by cases h),Tryz.t54,rfl,rfl,fun _ h => by cases h⟩
theorem tn55:TnOk Tryz.prog 55 (.fn [.ptr (.st [.sl 5 (.int .u8),.int .i64,.int .i64]),.int .i64] y_0):=⟨⟨_,_,_,Tryz.underlying55⟩,fun _ h => (by cases h),Tryz.t55,rfl,rfl,fun _ h => by cases h⟩
theorem tn56:TnOk Tryz.prog 56 (.fn [.ptr (.st [.sl 5 (.int .u8),.int .i64,.int .i64]),.int .i64] (.int .i64)):=⟨⟨_,_,_,Tryz.underlying56⟩,fun _ h => (by cases h),Tryz.t56,rfl,rfl,fun _ h => by cases h⟩
theorem tn57:TnOk Tryz.prog 57 (.sl 26 (.sl 3 (.int .i64))):=⟨⟨Tryz.underlying57,Tryz.t26,_,rfl,rfl,rfl,rfl,by decide,by decide,fun _ _ => rfl,fun k h => by cases h⟩,fun _ h => (by cases h),Tryz.t57,rfl,rfl,fun _ _ => rfl⟩
theorem tn58:TnOk Tryz.prog 58 (.fn [y_0] (.sl 26 (.sl 3 (.int .i64)))):=⟨⟨_,_,_,Tryz.underlying58⟩,fun _ h => (by cases h),Tryz.t58,rfl,rfl,fun _ h => by cases h⟩
theorem tn59:TnOk Tryz.prog 59 (.fn [.int .i64,.int .i64,.int .i64] (.bool)):=⟨⟨_,_,_,Tryz.underlying59⟩,fun _ h => (by cases h),Tryz.t59,rfl,rfl,fun _ h => by cases h⟩
theorem tn60:TnOk Tryz.prog 60 (.fn [.int .i64,.int .i64] (.sl 26 (.sl 3 (.int .i64)))):=⟨⟨_,_,_,Tryz.underlying60⟩,fun _ h => (by cases h),Tryz.t60,rfl,rfl,fun _ h => by cases h⟩
theorem tn61:TnOk Tryz.prog 61 (.fn [] y_6):=⟨⟨_,_,_,Tryz.underlying61⟩,fun _ h => (by cases h),Tryz.t61,rfl,rfl,fun _ h => by cases h⟩
theorem tn62:TnOk Tryz.prog 62 y_5:=⟨⟨_,Tryz.underlying62,Tryz.eqGuardType62,Tryz.stoodInHeld62,rfl,fun j τ h => by (repeat (rcases j with _ | j; · (cases h; first | exact ⟨_,_,rfl,rfl,by decide,by decide,Tryz.underlying3,rfl,fun us h => by cases h⟩ | exact ⟨_,_,rfl,rfl,by decide,by decide,Tryz.underlying4,rfl,fun us h => by cases h⟩))); cases h⟩,(fun us hus fs hfs j τ h f hf => by cases hus; rw [Tryz.underlying62] at hfs; cases hfs; (repeat (rcases j with _ | j; · (cases h; cases hf; first | exact ⟨fun k e => by cases e; exact Tryz.underlying3,fun e => (by cases e),fun e => (by cases e)⟩ | exact ⟨fun k e => (by cases e),fun _ => Tryz.underlying4,fun e => (by cases e)⟩))); cases h),Tryz.t62,rfl,rfl,fun _ _ => rfl⟩
theorem tn63:TnOk Tryz.prog 63 y_5:=⟨⟨_,Tryz.underlying63,Tryz.eqGuardType63,Tryz.stoodInHeld63,rfl,fun j τ h => by (repeat (rcases j with _ | j; · (cases h; first | exact ⟨_,_,rfl,rfl,by decide,by decide,Tryz.underlying3,rfl,fun us h => by cases h⟩ | exact ⟨_,_,rfl,rfl,by decide,by decide,Tryz.underlying4,rfl,fun us h => by cases h⟩))); cases h⟩,(fun us hus fs hfs j τ h f hf => by cases hus; rw [Tryz.underlying63] at hfs; cases hfs; (repeat (rcases j with _ | j; · (cases h; cases hf; first | exact ⟨fun k e => by cases e; exact Tryz.underlying3,fun e => (by cases e),fun e => (by cases e)⟩ | exact ⟨fun k e => (by cases e),fun _ => Tryz.underlying4,fun e => (by cases e)⟩))); cases h),Tryz.t63,rfl,rfl,fun _ _ => rfl⟩
theorem tn65:TnOk Tryz.prog 65 (.fn [y_5] (.int .i64)):=⟨⟨_,_,_,Tryz.underlying65⟩,fun _ h => (by cases h),Tryz.t65,rfl,rfl,fun _ h => by cases h⟩
theorem tn66:TnOk Tryz.prog 66 (.fn [.int .i64] (.int .i64)):=⟨⟨_,_,_,Tryz.underlying66⟩,fun _ h => (by cases h),Tryz.t66,rfl,rfl,fun _ h => by cases h⟩
theorem tn67:TnOk Tryz.prog 67 (.fn [y_6,.int .i64] (.int .i64)):=⟨⟨_,_,_,Tryz.underlying67⟩,fun _ h => (by cases h),Tryz.t67,rfl,rfl,fun _ h => by cases h⟩
theorem tn68:TnOk Tryz.prog 68 (.fn [.int .i64] (.bool)):=⟨⟨_,_,_,Tryz.underlying68⟩,fun _ h => (by cases h),Tryz.t68,rfl,rfl,fun _ h => by cases h⟩
theorem tn76:TnOk Tryz.prog 76 (.fn [.sl 3 (.int .i64),.int .i64] (.bool)):=⟨⟨_,_,_,Tryz.underlying76⟩,fun _ h => (by cases h),Tryz.t76,rfl,rfl,fun _ h => by cases h⟩
theorem tn83:TnOk Tryz.prog 83 (.sl 126 (.st [.int .i64,.int .i64,.int .i64,.int .i64])):=⟨⟨Tryz.underlying83,Tryz.t126,_,rfl,rfl,rfl,rfl,by decide,by decide,fun _ _ => rfl,fun k h => by cases h⟩,fun _ h => (by cases h),Tryz.t83,rfl,rfl,fun _ _ => rfl⟩
theorem tn84:TnOk Tryz.prog 84 (.fn [y_0,y_6] (.sl 126 (.st [.int .i64,.int .i64,.int .i64,.int .i64]))):=⟨⟨_,_,_,Tryz.underlying84⟩,fun _ h => (by cases h),Tryz.t84,rfl,rfl,fun _ h => by cases h⟩
theorem tn85:TnOk Tryz.prog 85 y_4:=⟨⟨_,Tryz.underlying85,Tryz.eqGuardType85,Tryz.stoodInHeld85,rfl,fun j τ h => by (repeat (rcases j with _ | j; · (cases h; first | exact ⟨_,_,rfl,rfl,by decide,by decide,Tryz.underlying3,rfl,fun us h => by cases h⟩ | exact ⟨_,_,rfl,rfl,by decide,by decide,Tryz.underlying26,rfl,fun us h => by cases h⟩))); cases h⟩,(fun us hus fs hfs j τ h f hf => by cases hus; rw [Tryz.underlying85] at hfs; cases hfs; (repeat (rcases j with _ | j; · (cases h; cases hf; first | exact ⟨fun k e => by cases e; exact Tryz.underlying3,fun e => (by cases e),fun e => (by cases e)⟩ | exact ⟨fun k e => (by cases e),fun e => (by cases e),fun e => (by cases e)⟩))); cases h),Tryz.t85,rfl,rfl,fun _ _ => rfl⟩
theorem tn86:TnOk Tryz.prog 86 y_4:=⟨⟨_,Tryz.underlying86,Tryz.eqGuardType86,Tryz.stoodInHeld86,rfl,fun j τ h => by (repeat (rcases j with _ | j; · (cases h; first | exact ⟨_,_,rfl,rfl,by decide,by decide,Tryz.underlying3,rfl,fun us h => by cases h⟩ | exact ⟨_,_,rfl,rfl,by decide,by decide,Tryz.underlying26,rfl,fun us h => by cases h⟩))); cases h⟩,(fun us hus fs hfs j τ h f hf => by cases hus; rw [Tryz.underlying86] at hfs; cases hfs; (repeat (rcases j with _ | j; · (cases h; cases hf; first | exact ⟨fun k e => by cases e; exact Tryz.underlying3,fun e => (by cases e),fun e => (by cases e)⟩ | exact ⟨fun k e => (by cases e),fun e => (by cases e),fun e => (by cases e)⟩))); cases h),Tryz.t86,rfl,rfl,fun _ _ => rfl⟩
theorem tn88:TnOk Tryz.prog 88 (.fn [y_1,.int .i64,.int .i64] (.bool)):=⟨⟨_,_,_,Tryz.underlying88⟩,fun _ h => (by cases h),Tryz.t88,rfl,rfl,fun _ h => by cases h⟩
theorem tn89:TnOk Tryz.prog 89 (.fn [y_0,.str] (.int .i64)):=⟨⟨_,_,_,Tryz.underlying89⟩,fun _ h => (by cases h),Tryz.t89,rfl,rfl,fun _ h => by cases h⟩
theorem tn90:TnOk Tryz.prog 90 (.sl 135 (.st [.int .i64,.int .i64])):=⟨⟨Tryz.underlying90,Tryz.t135,_,rfl,rfl,rfl,rfl,by decide,by decide,fun _ _ => rfl,fun k h => by cases h⟩,fun _ h => (by cases h),Tryz.t90,rfl,rfl,fun _ _ => rfl⟩
theorem tn91:TnOk Tryz.prog 91 y_2:=⟨⟨_,Tryz.underlying91,Tryz.eqGuardType91,Tryz.stoodInHeld91,rfl,fun j τ h => by (repeat (rcases j with _ | j; · (cases h; first | exact ⟨_,_,rfl,rfl,by decide,by decide,Tryz.underlying90,rfl,fun us h => by cases h⟩ | exact ⟨_,_,rfl,rfl,by decide,by decide,Tryz.underlying57,rfl,fun us h => by cases h⟩))); cases h⟩,(fun us hus fs hfs j τ h f hf => by cases hus; rw [Tryz.underlying91] at hfs; cases hfs; (repeat (rcases j with _ | j; · (cases h; cases hf; first | exact ⟨fun k e => (by cases e),fun e => (by cases e),fun e => (by cases e)⟩))); cases h),Tryz.t91,rfl,rfl,fun _ _ => rfl⟩
theorem tn92:TnOk Tryz.prog 92 y_2:=⟨⟨_,Tryz.underlying92,Tryz.eqGuardType92,Tryz.stoodInHeld92,rfl,fun j τ h => by (repeat (rcases j with _ | j; · (cases h; first | exact ⟨_,_,rfl,rfl,by decide,by decide,Tryz.underlying90,rfl,fun us h => by cases h⟩ | exact ⟨_,_,rfl,rfl,by decide,by decide,Tryz.underlying57,rfl,fun us h => by cases h⟩))); cases h⟩,(fun us hus fs hfs j τ h f hf => by cases hus; rw [Tryz.underlying92] at hfs; cases hfs; (repeat (rcases j with _ | j; · (cases h; cases hf; first | exact ⟨fun k e => (by cases e),fun e => (by cases e),fun e => (by cases e)⟩))); cases h),Tryz.t92,rfl,rfl,fun _ _ => rfl⟩
theorem tn93:TnOk Tryz.prog 93 (.fn [y_2] (.bool)):=⟨⟨_,_,_,Tryz.underlying93⟩,fun _ h => (by cases h),Tryz.t93,rfl,rfl,fun _ h => by cases h⟩
theorem tn94:TnOk Tryz.prog 94 (.fn [.sl 63 y_5,.fn [y_5] (.bool)] (.bool)):=⟨⟨_,_,_,Tryz.underlying94⟩,fun _ h => (by cases h),Tryz.t94,rfl,rfl,fun _ h => by cases h⟩
theorem tn95:TnOk Tryz.prog 95 (.fn [y_5] (.bool)):=⟨⟨_,_,_,Tryz.underlying95⟩,fun _ h => (by cases h),Tryz.t95,rfl,rfl,fun _ h => by cases h⟩
theorem tn96:TnOk Tryz.prog 96 (.st [.sl 5 (.int .u8),.int .i64,.int .i64]):=⟨⟨_,Tryz.underlying96,Tryz.eqGuardType96,Tryz.stoodInHeld96,rfl,fun j τ h => by (repeat (rcases j with _ | j; · (cases h; first | exact ⟨_,_,rfl,rfl,by decide,by decide,Tryz.underlying22,rfl,fun us h => by cases h⟩ | exact ⟨_,_,rfl,rfl,by decide,by decide,Tryz.underlying3,rfl,fun us h => by cases h⟩))); cases h⟩,(fun us hus fs hfs j τ h f hf => by cases hus; rw [Tryz.underlying96] at hfs; cases hfs; (repeat (rcases j with _ | j; · (cases h; cases hf; first | exact ⟨fun k e => by cases e; exact Tryz.underlying3,fun e => (by cases e),fun e => (by cases e)⟩ | exact ⟨fun k e => (by cases e),fun e => (by cases e),fun e => (by cases e)⟩))); cases h),Tryz.t96,rfl,rfl,fun _ _ => rfl⟩
theorem tn97:TnOk Tryz.prog 97 (.st [.sl 5 (.int .u8),.int .i64,.int .i64]):=⟨⟨_,Tryz.underlying97,Tryz.eqGuardType97,Tryz.stoodInHeld97,rfl,fun j τ h => by (repeat (rcases j with _ | j; · (cases h; first | exact ⟨_,_,rfl,rfl,by decide,by decide,Tryz.underlying22,rfl,fun us h => by cases h⟩ | exact ⟨_,_,rfl,rfl,by decide,by decide,Tryz.underlying3,rfl,fun us h => by cases h⟩))); cases h⟩,(fun us hus fs hfs j τ h f hf => by cases hus; rw [Tryz.underlying97] at hfs; cases hfs; (repeat (rcases j with _ | j; · (cases h; cases hf; first | exact ⟨fun k e => by cases e; exact Tryz.underlying3,fun e => (by cases e),fun e => (by cases e)⟩ | exact ⟨fun k e => (by cases e),fun e => (by cases e),fun e => (by cases e)⟩))); cases h),Tryz.t97,rfl,rfl,fun _ _ => rfl⟩
theorem tn98:TnOk Tryz.prog 98 (.fn [.ptr (.st [.sl 5 (.int .u8),.int .i64,.int .i64])] (.sl 135 (.st [.int .i64,.int .i64]))):=⟨⟨_,_,_,Tryz.underlying98⟩,fun _ h => (by cases h),Tryz.t98,rfl,rfl,fun _ h => by cases h⟩
theorem tn99:TnOk Tryz.prog 99 (.fn [.ptr (.st [.sl 5 (.int .u8),.int .i64,.int .i64]),.int .i64] (.bool)):=⟨⟨_,_,_,Tryz.underlying99⟩,fun _ h => (by cases h),Tryz.t99,rfl,rfl,fun _ h => by cases h⟩
theorem tn100:TnOk Tryz.prog 100 (.fn [.ptr (.st [.sl 5 (.int .u8),.int .i64,.int .i64])] (.sl 26 (.sl 3 (.int .i64)))):=⟨⟨_,_,_,Tryz.underlying100⟩,fun _ h => (by cases h),Tryz.t100,rfl,rfl,fun _ h => by cases h⟩
theorem tn101:TnOk Tryz.prog 101 (.fn [.ptr (.st [.sl 5 (.int .u8),.int .i64,.int .i64]),.int .i64,.int .i64,.int .i64] y_1):=⟨⟨_,_,_,Tryz.underlying101⟩,fun _ h => (by cases h),Tryz.t101,rfl,rfl,fun _ h => by cases h⟩
theorem tn102:TnOk Tryz.prog 102 (.fn [.ptr (.st [.sl 5 (.int .u8),.int .i64,.int .i64])] (.int .i64)):=⟨⟨_,_,_,Tryz.underlying102⟩,fun _ h => (by cases h),Tryz.t102,rfl,rfl,fun _ h => by cases h⟩
theorem tn103:TnOk Tryz.prog 103 (.sl 45 (.sl 4 (.bool))):=⟨⟨Tryz.underlying103,Tryz.t45,_,rfl,rfl,rfl,rfl,by decide,by decide,fun _ _ => rfl,fun k h => by cases h⟩,fun _ h => (by cases h),Tryz.t103,rfl,rfl,fun _ _ => rfl⟩
theorem tn104:TnOk Tryz.prog 104 (.fn [.int .i64,.int .i64,.int .i64] (.tup [])):=⟨⟨_,_,_,Tryz.underlying104⟩,fun _ h => (by cases h),Tryz.t104,rfl,rfl,fun _ h => by cases h⟩
theorem tn105:TnOk Tryz.prog 105 (.fn [y_5,.sl 3 (.int .i64)] (.int .i64)):=⟨⟨_,_,_,Tryz.underlying105⟩,fun _ h => (by cases h),Tryz.t105,rfl,rfl,fun _ h => by cases h⟩
theorem tn106:TnOk Tryz.prog 106 (.fn [y_1] (.sl 3 (.int .i64))):=⟨⟨_,_,_,Tryz.underlying106⟩,fun _ h => (by cases h),Tryz.t106,rfl,rfl,fun _ h => by cases h⟩
theorem tn107:TnOk Tryz.prog 107 (.fn [y_1,.sl 3 (.int .i64)] (.int .i64)):=⟨⟨_,_,_,Tryz.underlying107⟩,fun _ h => (by cases h),Tryz.t107,rfl,rfl,fun _ h => by cases h⟩
theorem tn108:TnOk Tryz.prog 108 (.fn [y_6,.int .i64] y_4):=⟨⟨_,_,_,Tryz.underlying108⟩,fun _ h => (by cases h),Tryz.t108,rfl,rfl,fun _ h => by cases h⟩
theorem tn109:TnOk Tryz.prog 109 (.fn [y_1,.sl 3 (.int .i64),.int .i64] (.int .i64)):=⟨⟨_,_,_,Tryz.underlying109⟩,fun _ h => (by cases h),Tryz.t109,rfl,rfl,fun _ h => by cases h⟩
theorem tn110:TnOk Tryz.prog 110 (.fn [.sl 135 (.st [.int .i64,.int .i64]),.int .i64,.int .i64] (.int .i64)):=⟨⟨_,_,_,Tryz.underlying110⟩,fun _ h => (by cases h),Tryz.t110,rfl,rfl,fun _ h => by cases h⟩
theorem tn111:TnOk Tryz.prog 111 (.fn [y_0,y_3,.int .i64] (.int .i64)):=⟨⟨_,_,_,Tryz.underlying111⟩,fun _ h => (by cases h),Tryz.t111,rfl,rfl,fun _ h => by cases h⟩
theorem tn112:TnOk Tryz.prog 112 y_3:=⟨⟨_,Tryz.underlying112,Tryz.eqGuardType112,Tryz.stoodInHeld112,rfl,fun j τ h => by (repeat (rcases j with _ | j; · (cases h; first | exact ⟨_,_,rfl,rfl,by decide,by decide,Tryz.underlying26,rfl,fun us h => by cases h⟩ | exact ⟨_,_,rfl,rfl,by decide,by decide,Tryz.underlying57,rfl,fun us h => by cases h⟩))); cases h⟩,(fun us hus fs hfs j τ h f hf => by cases hus; rw [Tryz.underlying112] at hfs; cases hfs; (repeat (rcases j with _ | j; · (cases h; cases hf; first | exact ⟨fun k e => (by cases e),fun e => (by cases e),fun e => (by cases e)⟩))); cases h),Tryz.t112,rfl,rfl,fun _ _ => rfl⟩
theorem tn113:TnOk Tryz.prog 113 y_3:=⟨⟨_,Tryz.underlying113,Tryz.eqGuardType113,Tryz.stoodInHeld113,rfl,fun j τ h => by (repeat (rcases j with _ | j; · (cases h; first | exact ⟨_,_,rfl,rfl,by decide,by decide,Tryz.underlying26,rfl,fun us h => by cases h⟩ | exact ⟨_,_,rfl,rfl,by decide,by decide,Tryz.underlying57,rfl,fun us h => by cases h⟩))); cases h⟩,(fun us hus fs hfs j τ h f hf => by cases hus; rw [Tryz.underlying113] at hfs; cases hfs; (repeat (rcases j with _ | j; · (cases h; cases hf; first | exact ⟨fun k e => (by cases e),fun e => (by cases e),fun e => (by cases e)⟩))); cases h),Tryz.t113,rfl,rfl,fun _ _ => rfl⟩
theorem tn114:TnOk Tryz.prog 114 (.fn [y_0] y_3):=⟨⟨_,_,_,Tryz.underlying114⟩,fun _ h => (by cases h),Tryz.t114,rfl,rfl,fun _ h => by cases h⟩
theorem tn115:TnOk Tryz.prog 115 (.fn [.sl 3 (.int .i64),.fn [.int .i64,.int .i64] (.int .i64)] (.tup [])):=⟨⟨_,_,_,Tryz.underlying115⟩,fun _ h => (by cases h),Tryz.t115,rfl,rfl,fun _ h => by cases h⟩
theorem tn116:TnOk Tryz.prog 116 (.fn [.int .i64,.int .i64] (.int .i64)):=⟨⟨_,_,_,Tryz.underlying116⟩,fun _ h => (by cases h),Tryz.t116,rfl,rfl,fun _ h => by cases h⟩
theorem tn119:TnOk Tryz.prog 119 (.int .u64):=⟨Tryz.underlying119,fun _ h => (by cases h),Tryz.t119,rfl,rfl,fun _ _ => rfl⟩
theorem tn123:TnOk Tryz.prog 123 (.fn [y_0,.int .i64] (.bool)):=⟨⟨_,_,_,Tryz.underlying123⟩,fun _ h => (by cases h),Tryz.t123,rfl,rfl,fun _ h => by cases h⟩
theorem tn124:TnOk Tryz.prog 124 (.fn [] (.sl 126 (.st [.int .i64,.int .i64,.int .i64,.int .i64]))):=⟨⟨_,_,_,Tryz.underlying124⟩,fun _ h => (by cases h),Tryz.t124,rfl,rfl,fun _ h => by cases h⟩
theorem tn125:TnOk Tryz.prog 125 (.st [.int .i64,.int .i64,.int .i64,.int .i64]):=⟨⟨_,Tryz.underlying125,Tryz.eqGuardType125,Tryz.stoodInHeld125,rfl,fun j τ h => by (repeat (rcases j with _ | j; · (cases h; first | exact ⟨_,_,rfl,rfl,by decide,by decide,Tryz.underlying3,rfl,fun us h => by cases h⟩))); cases h⟩,(fun us hus fs hfs j τ h f hf => by cases hus; rw [Tryz.underlying125] at hfs; cases hfs; (repeat (rcases j with _ | j; · (cases h; cases hf; first | exact ⟨fun k e => by cases e; exact Tryz.underlying3,fun e => (by cases e),fun e => (by cases e)⟩))); cases h),Tryz.t125,rfl,rfl,fun _ _ => rfl⟩
theorem tn126:TnOk Tryz.prog 126 (.st [.int .i64,.int .i64,.int .i64,.int .i64]):=⟨⟨_,Tryz.underlying126,Tryz.eqGuardType126,Tryz.stoodInHeld126,rfl,fun j τ h => by (repeat (rcases j with _ | j; · (cases h; first | exact ⟨_,_,rfl,rfl,by decide,by decide,Tryz.underlying3,rfl,fun us h => by cases h⟩))); cases h⟩,(fun us hus fs hfs j τ h f hf => by cases hus; rw [Tryz.underlying126] at hfs; cases hfs; (repeat (rcases j with _ | j; · (cases h; cases hf; first | exact ⟨fun k e => by cases e; exact Tryz.underlying3,fun e => (by cases e),fun e => (by cases e)⟩))); cases h),Tryz.t126,rfl,rfl,fun _ _ => rfl⟩
theorem tn127:TnOk Tryz.prog 127 (.fn [y_6,.st [.int .i64,.int .i64,.int .i64,.int .i64]] (.bool)):=⟨⟨_,_,_,Tryz.underlying127⟩,fun _ h => (by cases h),Tryz.t127,rfl,rfl,fun _ h => by cases h⟩
theorem tn128:TnOk Tryz.prog 128 (.fn [y_4,.int .i64,.int .i64] (.bool)):=⟨⟨_,_,_,Tryz.underlying128⟩,fun _ h => (by cases h),Tryz.t128,rfl,rfl,fun _ h => by cases h⟩
theorem tn129:TnOk Tryz.prog 129 (.fn [.str] (.bool)):=⟨⟨_,_,_,Tryz.underlying129⟩,fun _ h => (by cases h),Tryz.t129,rfl,rfl,fun _ h => by cases h⟩
theorem tn130:TnOk Tryz.prog 130 (.fn [.sl 52 y_1,.fn [y_1] (.bool)] (.int .i64)):=⟨⟨_,_,_,Tryz.underlying130⟩,fun _ h => (by cases h),Tryz.t130,rfl,rfl,fun _ h => by cases h⟩
theorem tn131:TnOk Tryz.prog 131 (.fn [y_1] (.bool)):=⟨⟨_,_,_,Tryz.underlying131⟩,fun _ h => (by cases h),Tryz.t131,rfl,rfl,fun _ h => by cases h⟩
theorem tn132:TnOk Tryz.prog 132 (.fn [.sl 135 (.st [.int .i64,.int .i64])] (.bool)):=⟨⟨_,_,_,Tryz.underlying132⟩,fun _ h => (by cases h),Tryz.t132,rfl,rfl,fun _ h => by cases h⟩
theorem tn133:TnOk Tryz.prog 133 (.fn [.sl 63 y_5,.fn [y_5] (.bool)] (.int .i64)):=⟨⟨_,_,_,Tryz.underlying133⟩,fun _ h => (by cases h),Tryz.t133,rfl,rfl,fun _ h => by cases h⟩
theorem tn134:TnOk Tryz.prog 134 (.st [.int .i64,.int .i64]):=⟨⟨_,Tryz.underlying134,Tryz.eqGuardType134,Tryz.stoodInHeld134,rfl,fun j τ h => by (repeat (rcases j with _ | j; · (cases h; first | exact ⟨_,_,rfl,rfl,by decide,by decide,Tryz.underlying3,rfl,fun us h => by cases h⟩))); cases h⟩,(fun us hus fs hfs j τ h f hf => by cases hus; rw [Tryz.underlying134] at hfs; cases hfs; (repeat (rcases j with _ | j; · (cases h; cases hf; first | exact ⟨fun k e => by cases e; exact Tryz.underlying3,fun e => (by cases e),fun e => (by cases e)⟩))); cases h),Tryz.t134,rfl,rfl,fun _ _ => rfl⟩
theorem tn135:TnOk Tryz.prog 135 (.st [.int .i64,.int .i64]):=⟨⟨_,Tryz.underlying135,Tryz.eqGuardType135,Tryz.stoodInHeld135,rfl,fun j τ h => by (repeat (rcases j with _ | j; · (cases h; first | exact ⟨_,_,rfl,rfl,by decide,by decide,Tryz.underlying3,rfl,fun us h => by cases h⟩))); cases h⟩,(fun us hus fs hfs j τ h f hf => by cases hus; rw [Tryz.underlying135] at hfs; cases hfs; (repeat (rcases j with _ | j; · (cases h; cases hf; first | exact ⟨fun k e => by cases e; exact Tryz.underlying3,fun e => (by cases e),fun e => (by cases e)⟩))); cases h),Tryz.t135,rfl,rfl,fun _ _ => rfl⟩
theorem tn136:TnOk Tryz.prog 136 (.fn [.ptr (.st [.sl 5 (.int .u8),.int .i64,.int .i64]),.int .i64] (.str)):=⟨⟨_,_,_,Tryz.underlying136⟩,fun _ h => (by cases h),Tryz.t136,rfl,rfl,fun _ h => by cases h⟩
theorem tn137:TnOk Tryz.prog 137 (.fn [.sl 3 (.int .i64),.int .i64] (.int .i64)):=⟨⟨_,_,_,Tryz.underlying137⟩,fun _ h => (by cases h),Tryz.t137,rfl,rfl,fun _ h => by cases h⟩
theorem tn138:TnOk Tryz.prog 138 (.fn [y_1,.sl 3 (.int .i64)] (.sl 86 y_4)):=⟨⟨_,_,_,Tryz.underlying138⟩,fun _ h => (by cases h),Tryz.t138,rfl,rfl,fun _ h => by cases h⟩
theorem tn139:TnOk Tryz.prog 139 (.fn [.sl 86 y_4,.fn [y_4] (.tup [.int .i64,.bool])] (.int .i64)):=⟨⟨_,_,_,Tryz.underlying139⟩,fun _ h => (by cases h),Tryz.t139,rfl,rfl,fun _ h => by cases h⟩
theorem tn140:TnOk Tryz.prog 140 (.fn [.sl 3 (.int .i64),.int .i64] (.tup [.int .i64,.bool])):=⟨⟨_,_,_,Tryz.underlying140⟩,fun _ h => (by cases h),Tryz.t140,rfl,rfl,fun _ h => by cases h⟩
theorem tn141:TnOk Tryz.prog 141 (.fn [y_4] (.tup [.int .i64,.bool])):=⟨⟨_,_,_,Tryz.underlying141⟩,fun _ h => (by cases h),Tryz.t141,rfl,rfl,fun _ h => by cases h⟩
theorem tn142:TnOk Tryz.prog 142 (.fn [.sl 135 (.st [.int .i64,.int .i64]),.int .i64] (.int .i64)):=⟨⟨_,_,_,Tryz.underlying142⟩,fun _ h => (by cases h),Tryz.t142,rfl,rfl,fun _ h => by cases h⟩
theorem tn143:TnOk Tryz.prog 143 (.fn [y_0,y_3,.int .i64] (.sl 3 (.int .i64))):=⟨⟨_,_,_,Tryz.underlying143⟩,fun _ h => (by cases h),Tryz.t143,rfl,rfl,fun _ h => by cases h⟩
theorem tn144:TnOk Tryz.prog 144 (.fn [y_0,.int .i64,.int .i64,.int .i64] (.int .i64)):=⟨⟨_,_,_,Tryz.underlying144⟩,fun _ h => (by cases h),Tryz.t144,rfl,rfl,fun _ h => by cases h⟩
theorem tn145:TnOk Tryz.prog 145 (.fn [y_3,.int .i64] (.int .i64)):=⟨⟨_,_,_,Tryz.underlying145⟩,fun _ h => (by cases h),Tryz.t145,rfl,rfl,fun _ h => by cases h⟩
theorem tn146:TnOk Tryz.prog 146 (.fn [.sl 3 (.int .i64),.int .i64,.fn [.int .i64,.int .i64] (.int .i64)] (.tup [])):=⟨⟨_,_,_,Tryz.underlying146⟩,fun _ h => (by cases h),Tryz.t146,rfl,rfl,fun _ h => by cases h⟩
theorem tn159:TnOk Tryz.prog 159 (.fn [.sl 3 (.int .i64)] (.bool)):=⟨⟨_,_,_,Tryz.underlying159⟩,fun _ h => (by cases h),Tryz.t159,rfl,rfl,fun _ h => by cases h⟩
theorem tn160:TnOk Tryz.prog 160 (.fn [y_6,y_5] (.bool)):=⟨⟨_,_,_,Tryz.underlying160⟩,fun _ h => (by cases h),Tryz.t160,rfl,rfl,fun _ h => by cases h⟩
theorem tn161:TnOk Tryz.prog 161 (.fn [y_6,.int .i64,.int .i64,.int .i64] (.bool)):=⟨⟨_,_,_,Tryz.underlying161⟩,fun _ h => (by cases h),Tryz.t161,rfl,rfl,fun _ h => by cases h⟩
theorem tn162:TnOk Tryz.prog 162 (.fn [y_6,.int .i64,.int .i64] (.int .i64)):=⟨⟨_,_,_,Tryz.underlying162⟩,fun _ h => (by cases h),Tryz.t162,rfl,rfl,fun _ h => by cases h⟩
theorem tn163:TnOk Tryz.prog 163 (.fn [y_6,.int .i64,.int .i64,.int .i64] (.int .i64)):=⟨⟨_,_,_,Tryz.underlying163⟩,fun _ h => (by cases h),Tryz.t163,rfl,rfl,fun _ h => by cases h⟩
theorem tn164:TnOk Tryz.prog 164 (.fn [y_0,y_6,.int .i64] (.int .i64)):=⟨⟨_,_,_,Tryz.underlying164⟩,fun _ h => (by cases h),Tryz.t164,rfl,rfl,fun _ h => by cases h⟩
theorem tn165:TnOk Tryz.prog 165 (.sl 9 (.str)):=⟨⟨Tryz.underlying165,Tryz.t9,_,rfl,rfl,rfl,rfl,by decide,by decide,fun _ _ => rfl,fun k h => by cases h⟩,fun _ h => (by cases h),Tryz.t165,rfl,rfl,fun _ _ => rfl⟩
theorem tn166:TnOk Tryz.prog 166 (.fn [y_0,y_3,.int .i64] (.bool)):=⟨⟨_,_,_,Tryz.underlying166⟩,fun _ h => (by cases h),Tryz.t166,rfl,rfl,fun _ h => by cases h⟩
theorem tn167:TnOk Tryz.prog 167 (.fn [.sl 3 (.int .i64),.fn [.int .i64] (.bool)] (.sl 3 (.int .i64))):=⟨⟨_,_,_,Tryz.underlying167⟩,fun _ h => (by cases h),Tryz.t167,rfl,rfl,fun _ h => by cases h⟩
theorem tn168:TnOk Tryz.prog 168 (.fn [y_0,y_3,.int .i64,.int .i64] (.int .i64)):=⟨⟨_,_,_,Tryz.underlying168⟩,fun _ h => (by cases h),Tryz.t168,rfl,rfl,fun _ h => by cases h⟩
theorem tn169:TnOk Tryz.prog 169 (.fn [.sl 3 (.int .i64),.int .i64,.int .i64,.fn [.int .i64,.int .i64] (.int .i64)] (.tup [])):=⟨⟨_,_,_,Tryz.underlying169⟩,fun _ h => (by cases h),Tryz.t169,rfl,rfl,fun _ h => by cases h⟩
theorem tn170:TnOk Tryz.prog 170 (.fn [.sl 3 (.int .i64),.int .i64,.int .i64,.int .i64,.fn [.int .i64,.int .i64] (.int .i64)] (.tup [])):=⟨⟨_,_,_,Tryz.underlying170⟩,fun _ h => (by cases h),Tryz.t170,rfl,rfl,fun _ h => by cases h⟩
theorem tn177:TnOk Tryz.prog 177 (.fn [y_6,.int .i64] (.sl 3 (.int .i64))):=⟨⟨_,_,_,Tryz.underlying177⟩,fun _ h => (by cases h),Tryz.t177,rfl,rfl,fun _ h => by cases h⟩
theorem tn178:TnOk Tryz.prog 178 (.fn [y_0,y_3] (.bool)):=⟨⟨_,_,_,Tryz.underlying178⟩,fun _ h => (by cases h),Tryz.t178,rfl,rfl,fun _ h => by cases h⟩
theorem tn182:TnOk Tryz.prog 182 (.fn [y_3] (.bool)):=⟨⟨_,_,_,Tryz.underlying182⟩,fun _ h => (by cases h),Tryz.t182,rfl,rfl,fun _ h => by cases h⟩
theorem tn183:TnOk Tryz.prog 183 (.fn [.sl 26 (.sl 3 (.int .i64)),.fn [.sl 3 (.int .i64)] (.bool)] (.bool)):=⟨⟨_,_,_,Tryz.underlying183⟩,fun _ h => (by cases h),Tryz.t183,rfl,rfl,fun _ h => by cases h⟩
theorem tn184:TnOk Tryz.prog 184 (.fn [.sl 26 (.sl 3 (.int .i64)),.fn [.sl 3 (.int .i64)] (.bool)] (.int .i64)):=⟨⟨_,_,_,Tryz.underlying184⟩,fun _ h => (by cases h),Tryz.t184,rfl,rfl,fun _ h => by cases h⟩
def sg_ (h:Hd) (f:Ty.dens h.ps -> Ty.dens h.cs -> Option (h.R.den × ioT h.ps h.io)):FSig:=⟨h.ps,h.cs,h.io,h.im,h.R,h.m,f⟩
theorem e_k {M:Go.Program} {n:Go.FuncId} {a b:FSig} (e:a = b) (h:SigOk M n a):SigOk M n b:=e ▸ h
def tys:List (Nat × Ty):=[(3,.int .i64),(4,.bool),(5,.int .u8),(9,.str),(22,.sl 5 (.int .u8)),(23,.sl 52 y_1),(24,.sl 63 y_5),(25,.sl 92 y_2),(26,.sl 3 (.int .i64)),(27,y_0),(28,y_0),(29,.fn [.sl 5 (.int .u8)] y_0),(30,.fn [y_0] (.sl 3 (.int .i64))),(31,.sl 35 y_6),(32,.fn [y_0,.int .i64] (.sl 35 y_6)),(33,.fn [y_0,.int .i64] (.sl 3 (.int .i64))),(34,y_6),(35,y_6),(36,.fn [y_0,y_6] (.int .i64)),(37,.fn [y_0,.int .i64] (.int .i64)),(38,.fn [y_0] (.int .i64)),(39,.fn [y_0] (.bool)),(40,.fn [.sl 5 (.int .u8)] (.bool)),(42,.fn [.sl 3 (.int .i64),.sl 3 (.int .i64)] (.bool)),(43,.fn [.sl 3 (.int .i64)] (.sl 3 (.int .i64))),(44,.fn [.int .i64] (.sl 3 (.int .i64))),(45,.sl 4 (.bool)),(48,.fn [y_0,y_6] (.bool)),(50,.sl 86 y_4),(51,y_1),(52,y_1),(53,.ptr (.st [.sl 5 (.int .u8),.int .i64,.int .i64])),(54,.fn [.sl 5 (.int .u8)] (.ptr (.st [.sl 5 (.int .u8),.int .i64,.int .i64]))),(55,.fn [.ptr (.st [.sl 5 (.int .u8),.int .i64,.int .i64]),.int .i64] y_0),(56,.fn [.ptr (.st [.sl 5 (.int .u8),.int .i64,.int .i64]),.int .i64] (.int .i64)),(57,.sl 26 (.sl 3 (.int .i64))),(58,.fn [y_0] (.sl 26 (.sl 3 (.int .i64)))),(59,.fn [.int .i64,.int .i64,.int .i64] (.bool)),(60,.fn [.int .i64,.int .i64] (.sl 26 (.sl 3 (.int .i64)))),(61,.fn [] y_6),(62,y_5),(63,y_5),(65,.fn [y_5] (.int .i64)),(66,.fn [.int .i64] (.int .i64)),(67,.fn [y_6,.int .i64] (.int .i64)),(68,.fn [.int .i64] (.bool)),(76,.fn [.sl 3 (.int .i64),.int .i64] (.bool)),(83,.sl 126 (.st [.int .i64,.int .i64,.int .i64,.int .i64])),(84,.fn [y_0,y_6] (.sl 126 (.st [.int .i64,.int .i64,.int .i64,.int .i64]))),(85,y_4),(86,y_4),(88,.fn [y_1,.int .i64,.int .i64] (.bool)),(89,.fn [y_0,.str] (.int .i64)),(90,.sl 135 (.st [.int .i64,.int .i64])),(91,y_2),(92,y_2),(93,.fn [y_2] (.bool)),(94,.fn [.sl 63 y_5,.fn [y_5] (.bool)] (.bool)),(95,.fn [y_5] (.bool)),(96,.st [.sl 5 (.int .u8),.int .i64,.int .i64]),(97,.st [.sl 5 (.int .u8),.int .i64,.int .i64]),(98,.fn [.ptr (.st [.sl 5 (.int .u8),.int .i64,.int .i64])] (.sl 135 (.st [.int .i64,.int .i64]))),(99,.fn [.ptr (.st [.sl 5 (.int .u8),.int .i64,.int .i64]),.int .i64] (.bool)),(100,.fn [.ptr (.st [.sl 5 (.int .u8),.int .i64,.int .i64])] (.sl 26 (.sl 3 (.int .i64)))),(101,.fn [.ptr (.st [.sl 5 (.int .u8),.int .i64,.int .i64]),.int .i64,.int .i64,.int .i64] y_1),(102,.fn [.ptr (.st [.sl 5 (.int .u8),.int .i64,.int .i64])] (.int .i64)),(103,.sl 45 (.sl 4 (.bool))),(104,.fn [.int .i64,.int .i64,.int .i64] (.tup [])),(105,.fn [y_5,.sl 3 (.int .i64)] (.int .i64)),(106,.fn [y_1] (.sl 3 (.int .i64))),(107,.fn [y_1,.sl 3 (.int .i64)] (.int .i64)),(108,.fn [y_6,.int .i64] y_4),(109,.fn [y_1,.sl 3 (.int .i64),.int .i64] (.int .i64)),(110,.fn [.sl 135 (.st [.int .i64,.int .i64]),.int .i64,.int .i64] (.int .i64)),(111,.fn [y_0,y_3,.int .i64] (.int .i64)),(112,y_3),(113,y_3),(114,.fn [y_0] y_3),(115,.fn [.sl 3 (.int .i64),.fn [.int .i64,.int .i64] (.int .i64)] (.tup [])),(116,.fn [.int .i64,.int .i64] (.int .i64)),(119,.int .u64),(123,.fn [y_0,.int .i64] (.bool)),(124,.fn [] (.sl 126 (.st [.int .i64,.int .i64,.int .i64,.int .i64]))),(125,.st [.int .i64,.int .i64,.int .i64,.int .i64]),(126,.st [.int .i64,.int .i64,.int .i64,.int .i64]),(127,.fn [y_6,.st [.int .i64,.int .i64,.int .i64,.int .i64]] (.bool)),(128,.fn [y_4,.int .i64,.int .i64] (.bool)),(129,.fn [.str] (.bool)),(130,.fn [.sl 52 y_1,.fn [y_1] (.bool)] (.int .i64)),(131,.fn [y_1] (.bool)),(132,.fn [.sl 135 (.st [.int .i64,.int .i64])] (.bool)),(133,.fn [.sl 63 y_5,.fn [y_5] (.bool)] (.int .i64)),(134,.st [.int .i64,.int .i64]),(135,.st [.int .i64,.int .i64]),(136,.fn [.ptr (.st [.sl 5 (.int .u8),.int .i64,.int .i64]),.int .i64] (.str)),(137,.fn [.sl 3 (.int .i64),.int .i64] (.int .i64)),(138,.fn [y_1,.sl 3 (.int .i64)] (.sl 86 y_4)),(139,.fn [.sl 86 y_4,.fn [y_4] (.tup [.int .i64,.bool])] (.int .i64)),(140,.fn [.sl 3 (.int .i64),.int .i64] (.tup [.int .i64,.bool])),(141,.fn [y_4] (.tup [.int .i64,.bool])),(142,.fn [.sl 135 (.st [.int .i64,.int .i64]),.int .i64] (.int .i64)),(143,.fn [y_0,y_3,.int .i64] (.sl 3 (.int .i64))),(144,.fn [y_0,.int .i64,.int .i64,.int .i64] (.int .i64)),(145,.fn [y_3,.int .i64] (.int .i64)),(146,.fn [.sl 3 (.int .i64),.int .i64,.fn [.int .i64,.int .i64] (.int .i64)] (.tup [])),(159,.fn [.sl 3 (.int .i64)] (.bool)),(160,.fn [y_6,y_5] (.bool)),(161,.fn [y_6,.int .i64,.int .i64,.int .i64] (.bool)),(162,.fn [y_6,.int .i64,.int .i64] (.int .i64)),(163,.fn [y_6,.int .i64,.int .i64,.int .i64] (.int .i64)),(164,.fn [y_0,y_6,.int .i64] (.int .i64)),(165,.sl 9 (.str)),(166,.fn [y_0,y_3,.int .i64] (.bool)),(167,.fn [.sl 3 (.int .i64),.fn [.int .i64] (.bool)] (.sl 3 (.int .i64))),(168,.fn [y_0,y_3,.int .i64,.int .i64] (.int .i64)),(169,.fn [.sl 3 (.int .i64),.int .i64,.int .i64,.fn [.int .i64,.int .i64] (.int .i64)] (.tup [])),(170,.fn [.sl 3 (.int .i64),.int .i64,.int .i64,.int .i64,.fn [.int .i64,.int .i64] (.int .i64)] (.tup [])),(177,.fn [y_6,.int .i64] (.sl 3 (.int .i64))),(178,.fn [y_0,y_3] (.bool)),(182,.fn [y_3] (.bool)),(183,.fn [.sl 26 (.sl 3 (.int .i64)),.fn [.sl 3 (.int .i64)] (.bool)] (.bool)),(184,.fn [.sl 26 (.sl 3 (.int .i64)),.fn [.sl 3 (.int .i64)] (.bool)] (.int .i64))]
theorem tysOk:LkAll (TnOk Tryz.prog) tys:=⟨tn3,tn4,tn5,tn9,tn22,tn23,tn24,tn25,tn26,tn27,tn28,tn29,tn30,tn31,tn32,tn33,tn34,tn35,tn36,tn37,tn38,tn39,tn40,tn42,tn43,tn44,tn45,tn48,tn50,tn51,tn52,tn53,tn54,tn55,tn56,tn57,tn58,tn59,tn60,tn61,tn62,tn63,tn65,tn66,tn67,tn68,tn76,tn83,tn84,tn85,tn86,tn88,tn89,tn90,tn91,tn92,tn93,tn94,tn95,tn96,tn97,tn98,tn99,tn100,tn101,tn102,tn103,tn104,tn105,tn106,tn107,tn108,tn109,tn110,tn111,tn112,tn113,tn114,tn115,tn116,tn119,tn123,tn124,tn125,tn126,tn127,tn128,tn129,tn130,tn131,tn132,tn133,tn134,tn135,tn136,tn137,tn138,tn139,tn140,tn141,tn142,tn143,tn144,tn145,tn146,tn159,tn160,tn161,tn162,tn163,tn164,tn165,tn166,tn167,tn168,tn169,tn170,tn177,tn178,tn182,tn183,tn184,trivial⟩
theorem k_o {sgs : List (Nat × FSig)} {f : FuncId} {fn : Func} {h : Hd} {b : FSig} (e : fnOf tys sgs fn h = b) (hs : LkAll (SigOk Tryz.prog) sgs) (hf : Tryz.prog.funcs[f]? = some fn) (hq : nilL tys sgs fn h = nilR tys sgs fn h := by kernel_rfl) (hn : fn.name ≠ "runtime.NumGoroutine" := by decide) (hb : fn.body.isSome = true := by rfl) (hi : ∀ k, h.io = some k → k < h.ps.length := by intro _ h; cases h <;> decide) : SigOk Tryz.prog f b := e_k e (fnOf_ok rfl tysOk hs hf hn hb hi (Adg hq))
abbrev H8:Type:=(Int × ((List Int) × (Int × Unit)))
def L4:H8 -> Option (Out H8 ((Bool × H8) ⊕ Empty) (Ag × Unit)):=
  (fun v0 => (((if (ltZ v0.1 (lenI v0.2.1)) then (some ((ltZ v0.1 4000),v0)) else (some (false,v0))):(Option (Bool × (Int × ((List Int) × (Int × Unit)))))).bind fun v1 => (if v1.1 then ((getI v1.2.2.1 v1.2.1).bind fun v2 => (some (Out.norm ((addZ .i64 v1.2.1 1),(v1.2.2.1,((bitsI .and .i64 (addZ .i64 (addZ .i64 (mulZ .i64 v1.2.2.2.1 59) (wrapI .i64 v2)) 7) 1073741823),())))))) else (some (Out.exit (Sum.inl v1))))))
def Mq (x:((List Int) × Unit)) (c:Unit):(Option (Ag × Unit)):=
  ((loopN (A:=H8) big L4 (0,(x.1,((addZ .i64 1950 (lenI x.1)),())))).bind fun v3 => (match v3 with | Out.norm v4 => none | Out.exit v5 => (match ((match v5 with | Sum.inl v8 => (Sum.inl v8.2.2) | Sum.inr v9 => (Empty.elim v9)):(((List Int) × (Int × Unit)) ⊕ Empty)) with | Sum.inl v6 => (some ((v6.1,(0,(v6.2.1,()))),())) | Sum.inr v7 => none) | Out.ret v10 => (some v10)))
def H_28:Hd:=⟨[.sl 5 (.int .u8)],[],none,.p,.ptr (.st [.sl 5 (.int .u8),.int .i64,.int .i64]),(.u (.s .p (.s .p (.s .p .p)))),[]⟩
def T_28:FSig:=sg_ H_28 Mq
theorem E_28:fnOf tys [] Tryz.f28 H_28 = T_28:=by kernel_rfl
theorem K_28:SigOk Tryz.prog 28 T_28:=k_o E_28 trivial Tryz.func28
def Ea (x:(Ag × Unit)) (c:Unit):(Option (Int × Ag)):=
  ((shiftI false .i64 (addZ .i64 (mulZ .i64 x.1.2.2.1 6364136223846793005) 1442695040888963407) 33).bind fun v0 => ((shiftI false .i64 (addZ .i64 (mulZ .i64 x.1.2.2.1 6364136223846793005) 1442695040888963407) 45).bind fun v1 => (((if (ltZ x.1.2.1 (lenI x.1.1)) then ((getI x.1.1 x.1.2.1).bind fun v2 => (some (Out.norm ((bitsI .and .i64 (addZ .i64 (bitsI .and .i64 (bitsI .xor .i64 v0 v1) 255) (wrapI .i64 v2)) 255),((x.1.1,((addZ .i64 x.1.2.1 1),((addZ .i64 (mulZ .i64 x.1.2.2.1 6364136223846793005) 1442695040888963407),x.1.2.2.2))),()))))) else (some (Out.norm ((bitsI .and .i64 (bitsI .xor .i64 v0 v1) 255),((x.1.1,(x.1.2.1,((addZ .i64 (mulZ .i64 x.1.2.2.1 6364136223846793005) 1442695040888963407),x.1.2.2.2))),()))))):(Option (Out (Int × (Ag × Unit)) Empty (Int × Ag)))).bind fun v3 => (match ((match v3 with | Out.norm v7 => (Out.norm v7) | Out.exit v8 => (Out.exit v8) | Out.ret v9 => (Out.ret v9)):(Out (Int × (Ag × Unit)) Empty (Int × Ag))) with | Out.norm v4 => (some (v4.1,v4.2.1)) | Out.exit v5 => none | Out.ret v6 => (some v6)))))
def H_73:Hd:=⟨[.ptr (.st [.sl 5 (.int .u8),.int .i64,.int .i64])],[],some 0,(.u (.s .p (.s .p (.s .p .p)))),.int .i64,.p,[]⟩
def T_73:FSig:=sg_ H_73 Ea
theorem E_73:fnOf tys [] Tryz.f73 H_73 = T_73:=by kernel_rfl
theorem K_73:SigOk Tryz.prog 73 T_73:=k_o E_73 trivial Tryz.func73
def Ah (x:(Ag × (Int × Unit))) (c:Unit):(Option (Int × Ag)):=
  (if (leZ x.2.1 0) then (some (0,x.1)) else (if (leZ x.2.1 256) then ((Ea (x.1,()) ()).bind fun v0 => ((remZ v0.1 x.2.1).bind fun v1 => (some (v1,v0.2)))) else ((Ea (x.1,()) ()).bind fun v2 => ((Ea (v2.2,()) ()).bind fun v3 => ((Ea (v3.2,()) ()).bind fun v4 => ((Ea (v4.2,()) ()).bind fun v5 => ((remZ (addZ .i64 (addZ .i64 (addZ .i64 (mulZ .i64 v2.1 16777216) (mulZ .i64 v3.1 65536)) (mulZ .i64 v4.1 256)) v5.1) x.2.1).bind fun v6 => (some (v6,v5.2)))))))))
def H_30:Hd:=⟨[.ptr (.st [.sl 5 (.int .u8),.int .i64,.int .i64]),.int .i64],[],some 0,(.u (.s .p (.s .p (.s .p .p)))),.int .i64,.p,[]⟩
def T_30:FSig:=sg_ H_30 Ah
def Ro (f73:(Ag × Unit) -> Unit -> Option (Int × Ag)) (x:(Ag × (Int × Unit))) (c:Unit):(Option (Int × Ag)):=
  (if (leZ x.2.1 0) then (some (0,x.1)) else (if (leZ x.2.1 256) then ((f73 (x.1,()) ()).bind fun v0 => ((remZ v0.1 x.2.1).bind fun v1 => (some (v1,v0.2)))) else ((f73 (x.1,()) ()).bind fun v2 => ((f73 (v2.2,()) ()).bind fun v3 => ((f73 (v3.2,()) ()).bind fun v4 => ((f73 (v4.2,()) ()).bind fun v5 => ((remZ (addZ .i64 (addZ .i64 (addZ .i64 (mulZ .i64 v2.1 16777216) (mulZ .i64 v3.1 65536)) (mulZ .i64 v4.1 256)) v5.1) x.2.1).bind fun v6 => (some (v6,v5.2)))))))))
theorem O4 (f73:(Ag × Unit) -> Unit -> Option (Int × Ag)):fnOf tys [(73,⟨H_73.ps,H_73.cs,H_73.io,H_73.im,H_73.R,H_73.m,f73⟩)] Tryz.f30 H_30 = ⟨H_30.ps,H_30.cs,H_30.io,H_30.im,H_30.R,H_30.m,Ro f73⟩:=by kernel_rfl
theorem E_30:fnOf tys [(73,T_73)] Tryz.f30 H_30 = T_30:=O4 Ea
theorem K_30:SigOk Tryz.prog 30 T_30:=k_o E_30 ⟨K_73,trivial⟩ Tryz.func30
abbrev Hv:Type:=(Int × ((List D_Step) × (Ag × Unit)))
def K9:Hv -> Option (Out Hv ((Bool × Hv) ⊕ Empty) ((List D_Step) × Ag)):=
  (fun v3 => (if (ltZ 0 v3.1) then ((((getI v3.2.1 (subZ .i64 (lenI v3.2.1) 1)).bind fun v4 => (some ())):(Option Unit)).bind fun v5 => ((((getI v3.2.1 (subZ .i64 (lenI v3.2.1) 1)).bind fun v6 => (some v6.1)):(Option Int)).bind fun v7 => ((Ah (v3.2.2.1,(9,())) ()).bind fun v8 => ((Ah (v8.2,(5,())) ()).bind fun v9 => ((addI v3.2.1 (((addZ .i64 (addZ .i64 v7 1) v8.1),(v9.1,())) :: [])).bind fun v10 => (some (Out.norm ((subZ .i64 v3.1 1),(v10,(v9.2,())))))))))) else (some (Out.exit (Sum.inl ((ltZ 0 v3.1),v3))))))
def Lv (x:(Ag × Unit)) (c:Unit):(Option ((List D_Step) × Ag)):=
  ((Ah (x.1,(4,())) ()).bind fun v0 => ((Ah (v0.2,(6,())) ()).bind fun v1 => ((quoZ .i64 v1.1 2).bind fun v2 => ((loopN (A:=Hv) big K9 (v2,(((0,((addZ .i64 1 v0.1),())) :: []),(v1.2,())))).bind fun v11 => (match v11 with | Out.norm v12 => none | Out.exit v13 => (match ((match v13 with | Sum.inl v16 => (Sum.inl v16.2.2) | Sum.inr v17 => (Empty.elim v17)):(((List D_Step) × (Ag × Unit)) ⊕ Empty)) with | Sum.inl v14 => (some (v14.1,v14.2.1)) | Sum.inr v15 => none) | Out.ret v18 => (some v18))))))
def H_69:Hd:=⟨[.ptr (.st [.sl 5 (.int .u8),.int .i64,.int .i64])],[],some 0,(.u (.s .p (.s .p (.s .p .p)))),.sl 135 (.st [.int .i64,.int .i64]),(Ty.all (.sl 135 (.st [.int .i64,.int .i64]))),[(3000000026,.p),(3000000029,.p)]⟩
def T_69:FSig:=sg_ H_69 Lv
theorem E_69:fnOf tys [(30,T_30)] Tryz.f69 H_69 = T_69:=by kernel_rfl
theorem K_69:SigOk Tryz.prog 69 T_69:=k_o E_69 ⟨K_30,trivial⟩ Tryz.func69
def Cr (x:(Ag × (Int × Unit))) (c:Unit):(Option (Bool × Ag)):=
  ((Ah x ()).bind fun v0 => (some ((eqZ v0.1 0),v0.2)))
def H_70:Hd:=⟨[.ptr (.st [.sl 5 (.int .u8),.int .i64,.int .i64]),.int .i64],[],some 0,(.u (.s .p (.s .p (.s .p .p)))),.bool,.p,[]⟩
def T_70:FSig:=sg_ H_70 Cr
theorem E_70:fnOf tys [(30,T_30)] Tryz.f70 H_70 = T_70:=by kernel_rfl
theorem K_70:SigOk Tryz.prog 70 T_70:=k_o E_70 ⟨K_30,trivial⟩ Tryz.func70
abbrev Gk:Type:=(Int × ((List (List Int)) × ((List Int) × (Int × (Ag × Unit)))))
def Ii:Gk -> Option (Out Gk ((Bool × Gk) ⊕ Empty) ((List (List Int)) × Ag)):=
  (fun v1 => (if (ltZ v1.1 4) then (((if (notB (eqZ v1.2.2.2.1 v1.1)) then ((Ah (v1.2.2.2.2.1,(3,())) ()).bind fun v2 => (some (Out.norm (v1.2.2.1,(v2.1,(v1.1,(v1.2.1,(v1.2.2.2.1,(v2.2,()))))))))) else (some (Out.norm (v1.2.2.1,(0,(v1.1,(v1.2.1,v1.2.2.2))))))):(Option (Out ((List Int) × (Int × (Int × ((List (List Int)) × (Int × (Ag × Unit)))))) Empty ((List (List Int)) × Ag)))).bind fun v3 => (match ((match v3 with | Out.norm v10 => (Out.norm v10) | Out.exit v11 => (Out.exit v11) | Out.ret v12 => (Out.ret v12)):(Out ((List Int) × (Int × (Int × ((List (List Int)) × (Int × (Ag × Unit)))))) Empty ((List (List Int)) × Ag))) with | Out.norm v4 => ((addI v4.1 (v4.2.1 :: [])).bind fun v5 => (some (Out.norm ((addZ .i64 v4.2.2.1 1),(v4.2.2.2.1,(v5,v4.2.2.2.2)))))) | Out.exit v6 => (match ((Empty.elim (Empty.elim v6)):((Int × ((List (List Int)) × ((List Int) × (Int × (Ag × Unit))))) ⊕ Empty)) with | Sum.inl v7 => (some (Out.norm ((addZ .i64 v7.1 1),v7.2))) | Sum.inr v8 => (some (Out.exit (Sum.inr (Empty.elim v8))))) | Out.ret v9 => (some (Out.ret v9)))) else (some (Out.exit (Sum.inl ((ltZ v1.1 4),v1))))))
abbrev Gg:Type:=(Int × ((List (List Int)) × (Ag × Unit)))
def Ks:Gg -> Option (Out Gg ((Bool × Gg) ⊕ Empty) ((List (List Int)) × Ag)):=
  (fun v0 => (if (ltZ v0.1 4) then ((loopN (A:=Gk) big Ii (0,(v0.2.1,([],(v0.1,(v0.2.2.1,())))))).bind fun v13 => (match v13 with | Out.norm v14 => none | Out.exit v15 => (match ((match v15 with | Sum.inl v21 => (Sum.inl v21.2.2) | Sum.inr v22 => (Empty.elim v22)):(((List (List Int)) × ((List Int) × (Int × (Ag × Unit)))) ⊕ Empty)) with | Sum.inl v16 => ((addI v16.1 (v16.2.1 :: [])).bind fun v17 => (some (Out.norm ((addZ .i64 v16.2.2.1 1),(v17,(v16.2.2.2.1,())))))) | Sum.inr v18 => (match ((Empty.elim (Empty.elim v18)):((Int × ((List (List Int)) × (Ag × Unit))) ⊕ Empty)) with | Sum.inl v19 => (some (Out.norm ((addZ .i64 v19.1 1),v19.2))) | Sum.inr v20 => (some (Out.exit (Sum.inr (Empty.elim v20)))))) | Out.ret v23 => (some (Out.ret v23)))) else (some (Out.exit (Sum.inl ((ltZ v0.1 4),v0))))))
def Kz (x:(Ag × Unit)) (c:Unit):(Option ((List (List Int)) × Ag)):=
  ((loopN (A:=Gg) big Ks (0,([],(x.1,())))).bind fun v24 => (match v24 with | Out.norm v25 => none | Out.exit v26 => (match ((match v26 with | Sum.inl v29 => (Sum.inl v29.2.2) | Sum.inr v30 => (Empty.elim v30)):(((List (List Int)) × (Ag × Unit)) ⊕ Empty)) with | Sum.inl v27 => (some (v27.1,v27.2.1)) | Sum.inr v28 => none) | Out.ret v31 => (some v31)))
def H_71:Hd:=⟨[.ptr (.st [.sl 5 (.int .u8),.int .i64,.int .i64])],[],some 0,(.u (.s .p (.s .p (.s .p .p)))),.sl 26 (.sl 3 (.int .i64)),(Ty.all (.sl 26 (.sl 3 (.int .i64)))),[]⟩
def T_71:FSig:=sg_ H_71 Kz
theorem E_71:fnOf tys [(30,T_30)] Tryz.f71 H_71 = T_71:=by kernel_rfl
theorem K_71:SigOk Tryz.prog 71 T_71:=k_o E_71 ⟨K_30,trivial⟩ Tryz.func71
def M4 (x:(Ag × (Int × Unit))) (c:Unit):(Option ((List UInt8) × Unit)):=
  ((remZ x.2.1 6).bind fun v0 => ((((getI (([97]:List UInt8) :: (([98]:List UInt8) :: (([99]:List UInt8) :: (([100]:List UInt8) :: (([101,49]:List UInt8) :: (([102]:List UInt8) :: [])))))) v0).bind fun v1 => (some ())):(Option Unit)).bind fun v2 => ((((getI (([97]:List UInt8) :: (([98]:List UInt8) :: (([99]:List UInt8) :: (([100]:List UInt8) :: (([101,49]:List UInt8) :: (([102]:List UInt8) :: [])))))) v0).bind fun v3 => (some v3)):(Option (List UInt8))).bind fun v4 => (some (v4,())))))
def H_103:Hd:=⟨[.ptr (.st [.sl 5 (.int .u8),.int .i64,.int .i64]),.int .i64],[],none,.p,.str,.p,[]⟩
def T_103:FSig:=sg_ H_103 M4
theorem E_103:fnOf tys [] Tryz.f103 H_103 = T_103:=by kernel_rfl
theorem K_103:SigOk Tryz.prog 103 T_103:=k_o E_103 trivial Tryz.func103
abbrev G5:Type:=(D_Mode × (Int × (Int × (Int × (Ad × (Ad × (Ag × Unit)))))))
def Je:G5 -> Option (Out G5 ((Bool × G5) ⊕ Empty) (Ad × Ag)):=
  (fun v7 => (if (ltZ (lenI v7.1.2.1) v7.2.2.1) then ((Ah (v7.2.2.2.2.2.2.1,(3,())) ()).bind fun v8 => ((addI v7.1.2.1 (v8.1 :: [])).bind fun v9 => (some (Out.norm ((v7.1.1,(v9,v7.1.2.2)),(v7.2.1,(v7.2.2.1,(v7.2.2.2.1,(v7.2.2.2.2.1,(v7.2.2.2.2.2.1,(v8.2,()))))))))))) else (some (Out.exit (Sum.inl ((ltZ (lenI v7.1.2.1) v7.2.2.1),v7))))))
abbrev He:Type:=(D_Mode × (Int × (Int × (Int × (Ad × (Ad × (Ag × Unit)))))))
def I0:He -> Option (Out He ((Bool × He) ⊕ Empty) (Ad × Ag)):=
  (fun v14 => (if (ltZ (lenI v14.1.2.2.1) v14.2.2.2.1) then ((Ah (v14.2.2.2.2.2.2.1,(3,())) ()).bind fun v15 => ((addI v14.1.2.2.1 (v15.1 :: [])).bind fun v16 => (some (Out.norm ((v14.1.1,(v14.1.2.1,(v16,v14.1.2.2.2))),(v14.2.1,(v14.2.2.1,(v14.2.2.2.1,(v14.2.2.2.2.1,(v14.2.2.2.2.2.1,(v15.2,()))))))))))) else (some (Out.exit (Sum.inl ((ltZ (lenI v14.1.2.2.1) v14.2.2.2.1),v14))))))
abbrev G9:Type:=(Int × (Int × (Int × (Ad × (Ad × (Ag × Unit))))))
def K8:G9 -> Option (Out G9 ((Bool × G9) ⊕ Empty) (Ad × Ag)):=
  (fun v5 => (if (ltZ 0 v5.1) then ((Ah (v5.2.2.2.2.2.1,(4,())) ()).bind fun v6 => ((loopN (A:=G5) big Je (((addZ .i64 1 v6.1),([],([],()))),(v5.1,(v5.2.1,(v5.2.2.1,(v5.2.2.2.1,(v5.2.2.2.2.1,(v6.2,())))))))).bind fun v10 => (match v10 with | Out.norm v11 => none | Out.exit v12 => (match ((match v12 with | Sum.inl v31 => (Sum.inl v31.2) | Sum.inr v32 => (Empty.elim v32)):((D_Mode × (Int × (Int × (Int × (Ad × (Ad × (Ag × Unit))))))) ⊕ Empty)) with | Sum.inl v13 => ((loopN (A:=He) big I0 v13).bind fun v17 => (match v17 with | Out.norm v18 => none | Out.exit v19 => (match ((match v19 with | Sum.inl v25 => (Sum.inl v25.2) | Sum.inr v26 => (Empty.elim v26)):((D_Mode × (Int × (Int × (Int × (Ad × (Ad × (Ag × Unit))))))) ⊕ Empty)) with | Sum.inl v20 => ((addI v20.2.2.2.2.1.2.2.1 (v20.1 :: [])).bind fun v21 => (some (Out.norm ((subZ .i64 v20.2.1 1),(v20.2.2.1,(v20.2.2.2.1,((v20.2.2.2.2.1.1,(v20.2.2.2.2.1.2.1,(v21,v20.2.2.2.2.1.2.2.2))),v20.2.2.2.2.2))))))) | Sum.inr v22 => (match ((Empty.elim (Empty.elim v22)):((Int × (Int × (Int × (Ad × (Ad × (Ag × Unit)))))) ⊕ Empty)) with | Sum.inl v23 => (some (Out.norm ((subZ .i64 v23.1 1),v23.2))) | Sum.inr v24 => (some (Out.exit (Sum.inr (Empty.elim v24)))))) | Out.ret v27 => (some (Out.ret v27)))) | Sum.inr v28 => (match ((Empty.elim (Empty.elim v28)):((Int × (Int × (Int × (Ad × (Ad × (Ag × Unit)))))) ⊕ Empty)) with | Sum.inl v29 => (some (Out.norm ((subZ .i64 v29.1 1),v29.2))) | Sum.inr v30 => (some (Out.exit (Sum.inr (Empty.elim v30)))))) | Out.ret v33 => (some (Out.ret v33))))) else (some (Out.exit (Sum.inl ((ltZ 0 v5.1),v5))))))
def Lr (x:(Ag × (Int × D_Step))) (c:Unit):(Option (Ad × Ag)):=
  ((((M4 (x.1,(x.2.1,())) ()).bind fun v0 => (some v0.1)):(Option (List UInt8))).bind fun v1 => ((Ah (x.1,(2,())) ()).bind fun v2 => ((Ah (v2.2,(4,())) ()).bind fun v3 => ((quoZ .i64 v3.1 2).bind fun v4 => ((loopN (A:=G9) big K8 ((addZ .i64 1 v4),(x.2.2.1,(x.2.2.2.1,((v1,(v2.1,([],()))),(([],(0,([],()))),(v3.2,()))))))).bind fun v34 => (match v34 with | Out.norm v35 => none | Out.exit v36 => (match ((match v36 with | Sum.inl v39 => (Sum.inl v39.2.2.2.2) | Sum.inr v40 => (Empty.elim v40)):((Ad × (Ad × (Ag × Unit))) ⊕ Empty)) with | Sum.inl v37 => (some (v37.1,v37.2.2.1)) | Sum.inr v38 => none) | Out.ret v41 => (some v41)))))))
def H_72:Hd:=⟨[.ptr (.st [.sl 5 (.int .u8),.int .i64,.int .i64]),.int .i64,.int .i64,.int .i64],[],some 0,(.u (.s .p (.s .p (.s .p .p)))),y_1,(Ty.all (y_1)),[(3000000037,.p),(3000000049,.p)]⟩
def T_72:FSig:=sg_ H_72 Lr
theorem E_72:fnOf tys [(30,T_30),(103,T_103)] Tryz.f72 H_72 = T_72:=by kernel_rfl
theorem K_72:SigOk Tryz.prog 72 T_72:=k_o E_72 ⟨K_30,K_103,trivial⟩ Tryz.func72
abbrev Hc:Type:=(Int × (Int × (Aa × (Aa × (Ag × Unit)))))
def Jd:Hc -> Option (Out Hc ((Bool × Hc) ⊕ Empty) (Aa × Ag)):=
  (fun v3 => (if (ltZ 0 v3.1) then ((Lv (v3.2.2.2.2.1,()) ()).bind fun v4 => ((Cr (v4.2,(3,())) ()).bind fun v5 => (((if v5.1 then ((Kz (v5.2,()) ()).bind fun v6 => (some (Out.norm ((v4.1,(v6.1,())),(v3.1,(v3.2.1,(v3.2.2.1,(v3.2.2.2.1,(v6.2,()))))))))) else (some (Out.norm ((v4.1,([],())),(v3.1,(v3.2.1,(v3.2.2.1,(v3.2.2.2.1,(v5.2,()))))))))):(Option (Out (Ai × (Int × (Int × (Aa × (Aa × (Ag × Unit)))))) Empty (Aa × Ag)))).bind fun v7 => (match ((match v7 with | Out.norm v14 => (Out.norm v14) | Out.exit v15 => (Out.exit v15) | Out.ret v16 => (Out.ret v16)):(Out (Ai × (Int × (Int × (Aa × (Aa × (Ag × Unit)))))) Empty (Aa × Ag))) with | Out.norm v8 => ((addI v8.2.2.2.1.2.2.2.1 (v8.1 :: [])).bind fun v9 => (some (Out.norm ((subZ .i64 v8.2.1 1),(v8.2.2.1,((v8.2.2.2.1.1,(v8.2.2.2.1.2.1,(v8.2.2.2.1.2.2.1,(v9,v8.2.2.2.1.2.2.2.2)))),v8.2.2.2.2)))))) | Out.exit v10 => (match ((Empty.elim (Empty.elim v10)):((Int × (Int × (Aa × (Aa × (Ag × Unit))))) ⊕ Empty)) with | Sum.inl v11 => (some (Out.norm ((subZ .i64 v11.1 1),v11.2))) | Sum.inr v12 => (some (Out.exit (Sum.inr (Empty.elim v12))))) | Out.ret v13 => (some (Out.ret v13)))))) else (some (Out.exit (Sum.inl ((ltZ 0 v3.1),v3))))))
abbrev Hg:Type:=(Int × (Aa × (Aa × (Ag × Unit))))
def Gu:Hg -> Option (Out Hg ((Bool × Hg) ⊕ Empty) (Aa × Ag)):=
  (fun v26 => (if (ltZ 0 v26.1) then ((Lr (v26.2.2.2.1,((lenI v26.2.1.2.1),((lenI v26.2.1.2.2.2.1),((lenI v26.2.1.2.2.2.2.1),())))) ()).bind fun v27 => ((addI v26.2.1.2.1 (v27.1 :: [])).bind fun v28 => (some (Out.norm ((subZ .i64 v26.1 1),((v26.2.1.1,(v28,v26.2.1.2.2)),(v26.2.2.1,(v27.2,())))))))) else (some (Out.exit (Sum.inl ((ltZ 0 v26.1),v26))))))
abbrev Hb:Type:=(Int × (Int × (Aa × (Aa × (Ag × Unit)))))
def G3:Hb -> Option (Out Hb ((Bool × Hb) ⊕ Empty) (Aa × Ag)):=
  (fun v34 => (((if (ltZ 0 v34.1) then (some ((ltZ 1 v34.2.1),v34)) else (some (false,v34))):(Option (Bool × (Int × (Int × (Aa × (Aa × (Ag × Unit)))))))).bind fun v35 => (if v35.1 then ((Ah (v35.2.2.2.2.2.1,((subZ .i64 v35.2.2.1 1),())) ()).bind fun v36 => ((Ah (v36.2,((subZ .i64 (subZ .i64 v35.2.2.1 1) v36.1),())) ()).bind fun v37 => ((Cr (v37.2,(3,())) ()).bind fun v38 => ((Ah (v38.2,(3,())) ()).bind fun v39 => ((Cr (v39.2,(6,())) ()).bind fun v40 => (((if v40.1 then ((Ah (v40.2,(9,())) ()).bind fun v41 => (some (Out.norm (((addZ .i64 (addZ .i64 v36.1 1) v37.1),(v36.1,(false,((subZ .i64 (-4) v41.1),())))),(v35.2.1,(v35.2.2.1,(v35.2.2.2.1,(v35.2.2.2.2.1,(v41.2,()))))))))) else (some (Out.norm ((v36.1,((addZ .i64 (addZ .i64 v36.1 1) v37.1),((notB v38.1),(v39.1,())))),(v35.2.1,(v35.2.2.1,(v35.2.2.2.1,(v35.2.2.2.2.1,(v40.2,()))))))))):(Option (Out (D_Link × (Int × (Int × (Aa × (Aa × (Ag × Unit)))))) Empty (Aa × Ag)))).bind fun v42 => (match ((match v42 with | Out.norm v49 => (Out.norm v49) | Out.exit v50 => (Out.exit v50) | Out.ret v51 => (Out.ret v51)):(Out (D_Link × (Int × (Int × (Aa × (Aa × (Ag × Unit)))))) Empty (Aa × Ag))) with | Out.norm v43 => ((addI v43.2.2.2.1.2.2.1 (v43.1 :: [])).bind fun v44 => (some (Out.norm ((subZ .i64 v43.2.1 1),(v43.2.2.1,((v43.2.2.2.1.1,(v43.2.2.2.1.2.1,(v44,v43.2.2.2.1.2.2.2))),v43.2.2.2.2)))))) | Out.exit v45 => (match ((Empty.elim (Empty.elim v45)):((Int × (Int × (Aa × (Aa × (Ag × Unit))))) ⊕ Empty)) with | Sum.inl v46 => (some (Out.norm ((subZ .i64 v46.1 1),v46.2))) | Sum.inr v47 => (some (Out.exit (Sum.inr (Empty.elim v47))))) | Out.ret v48 => (some (Out.ret v48))))))))) else (some (Out.exit (Sum.inl v35))))))
def Ke (x:(Ag × (Int × Unit))) (c:Unit):(Option (Aa × Ag)):=
  ((Ah (x.1,(12,())) ()).bind fun v0 => ((Ah (v0.2,(4,())) ()).bind fun v1 => ((quoZ .i64 v1.1 2).bind fun v2 => ((loopN (A:=Hc) big Jd ((addZ .i64 1 v2),(x.2.1,(((addZ .i64 12 v0.1),([],([],([],([],()))))),((0,([],([],([],([],()))))),(v1.2,())))))).bind fun v17 => (match v17 with | Out.norm v18 => none | Out.exit v19 => (match ((match v19 with | Sum.inl v70 => (Sum.inl v70.2.2) | Sum.inr v71 => (Empty.elim v71)):((Int × (Aa × (Aa × (Ag × Unit)))) ⊕ Empty)) with | Sum.inl v20 => ((Cr (v20.2.2.2.1,(3,())) ()).bind fun v21 => (((if v21.1 then ((Ah (v21.2,(6,())) ()).bind fun v22 => (some (Out.norm (v20.1,((v20.2.1.1,(v20.2.1.2.1,(v20.2.1.2.2.1,(v20.2.1.2.2.2.1,((v22.1 :: []),v20.2.1.2.2.2.2.2))))),(v20.2.2.1,(v22.2,()))))))) else (some (Out.norm (v20.1,(v20.2.1,(v20.2.2.1,(v21.2,()))))))):(Option (Out (Int × (Aa × (Aa × (Ag × Unit)))) Empty (Aa × Ag)))).bind fun v23 => (match ((match v23 with | Out.norm v66 => (Out.norm v66) | Out.exit v67 => (Out.exit v67) | Out.ret v68 => (Out.ret v68)):(Out (Int × (Aa × (Aa × (Ag × Unit)))) Empty (Aa × Ag))) with | Out.norm v24 => ((Ah (v24.2.2.2.1,(v24.1,())) ()).bind fun v25 => ((loopN (A:=Hg) big Gu ((addZ .i64 1 v25.1),(v24.2.1,(v24.2.2.1,(v25.2,()))))).bind fun v29 => (match v29 with | Out.norm v30 => none | Out.exit v31 => (match ((match v31 with | Sum.inl v61 => (Sum.inl v61.2.2) | Sum.inr v62 => (Empty.elim v62)):((Aa × (Aa × (Ag × Unit))) ⊕ Empty)) with | Sum.inl v32 => ((Ah (v32.2.2.1,(4,())) ()).bind fun v33 => ((loopN (A:=Hb) big G3 (v33.1,((lenI v32.1.2.1),(v32.1,(v32.2.1,(v33.2,())))))).bind fun v52 => (match v52 with | Out.norm v53 => none | Out.exit v54 => (match ((match v54 with | Sum.inl v57 => (Sum.inl v57.2.2.2) | Sum.inr v58 => (Empty.elim v58)):((Aa × (Aa × (Ag × Unit))) ⊕ Empty)) with | Sum.inl v55 => (some (v55.1,v55.2.2.1)) | Sum.inr v56 => none) | Out.ret v59 => (some v59)))) | Sum.inr v60 => none) | Out.ret v63 => (some v63)))) | Out.exit v64 => none | Out.ret v65 => (some v65)))) | Sum.inr v69 => none) | Out.ret v72 => (some v72))))))
def H_29:Hd:=⟨[.ptr (.st [.sl 5 (.int .u8),.int .i64,.int .i64]),.int .i64],[],some 0,(.u (.s .p (.s .p (.s .p .p)))),y_0,(Ty.all (y_0)),[]⟩
def T_29:FSig:=sg_ H_29 Ke
theorem E_29:fnOf tys [(30,T_30),(69,T_69),(70,T_70),(71,T_71),(72,T_72)] Tryz.f29 H_29 = T_29:=by kernel_rfl
theorem K_29:SigOk Tryz.prog 29 T_29:=k_o E_29 ⟨K_30,K_69,K_70,K_71,K_72,trivial⟩ Tryz.func29
def J9 (x:((List Int) × Unit)) (c:Unit):(Option (Aa × Unit)):=
  ((((Mq (x.1,()) ()).bind fun v0 => (some v0.1)):(Option Ag)).bind fun v1 => ((Ke (v1,(2,())) ()).bind fun v2 => ((Ah (v2.2,(4,())) ()).bind fun v3 => (some (((addZ .i64 3 v3.1),v2.1.2),())))))
def H_5:Hd:=⟨[.sl 5 (.int .u8)],[],none,.p,y_0,.p,[(2,.u .p),(4,.u .p)]⟩
def T_5:FSig:=sg_ H_5 J9
theorem E_5:fnOf tys [(28,T_28),(29,T_29),(30,T_30)] Tryz.f5 H_5 = T_5:=by kernel_rfl
theorem K_5:SigOk Tryz.prog 5 T_5:=k_o E_5 ⟨K_28,K_29,K_30,trivial⟩ Tryz.func5
def A0 (x:(Int × D_Step)) (c:Unit):(Option (Bool × Unit)):=
  (((if (leZ x.2.1 x.1) then (some ((leZ x.1 x.2.2.1),())) else (some (false,()))):(Option (Bool × Unit))).bind fun v0 => (some (v0.1,())))
def H_32:Hd:=⟨[.int .i64,.int .i64,.int .i64],[],none,.p,.bool,.p,[]⟩
def T_32:FSig:=sg_ H_32 A0
theorem E_32:fnOf tys [] Tryz.f32 H_32 = T_32:=by kernel_rfl
theorem K_32:SigOk Tryz.prog 32 T_32:=k_o E_32 trivial Tryz.func32
def Ix (x:(Int × Unit)) (c:Unit):(Option (Bool × Unit)):=
  ((((A0 (x.1,(0,(20,()))) ()).bind fun v0 => (some v0.1)):(Option Bool)).bind fun v1 => (some (v1,())))
def H_136:Hd:=⟨[.int .i64],[],none,.p,.bool,.p,[]⟩
def T_136:FSig:=sg_ H_136 Ix
theorem E_136:fnOf tys [(32,T_32)] Tryz.f136 H_136 = T_136:=by kernel_rfl
theorem K_136:SigOk Tryz.prog 136 T_136:=k_o E_136 ⟨K_32,trivial⟩ Tryz.func136
abbrev Ew:Type:=(Int × (Int × ((List Int) × ((List Int) × (Int × Unit)))))
def Gm:Ew -> Option (Out Ew ((Bool × Ew) ⊕ Empty) (Bool × Unit)):=
  (fun v0 => (if (ltZ v0.1 v0.2.1) then ((getI v0.2.2.1 v0.1).bind fun v1 => ((((Ix (v1,()) ()).bind fun v2 => (some v2.1)):(Option Bool)).bind fun v3 => (if (notB v3) then (some (Out.ret (false,()))) else (some (Out.norm ((addZ .i64 v0.1 1),v0.2)))))) else (some (Out.exit (Sum.inl ((ltZ v0.1 v0.2.1),v0))))))
def Gt (x:((List Int) × (Int × Unit))) (c:Unit):(Option (Bool × Unit)):=
  ((loopN (A:=Ew) big Gm (0,((lenI x.1),(x.1,x)))).bind fun v4 => (match v4 with | Out.norm v5 => none | Out.exit v6 => (match ((match v6 with | Sum.inl v9 => (Sum.inl v9.2.2.2.2) | Sum.inr v10 => (Empty.elim v10)):(((List Int) × (Int × Unit)) ⊕ Empty)) with | Sum.inl v7 => (some ((eqZ (lenI v7.1) v7.2.1),())) | Sum.inr v8 => none) | Out.ret v11 => (some v11)))
def H_135:Hd:=⟨[.sl 3 (.int .i64),.int .i64],[],none,.p,.bool,.p,[]⟩
def T_135:FSig:=sg_ H_135 Gt
theorem E_135:fnOf tys [(136,T_136)] Tryz.f135 H_135 = T_135:=by kernel_rfl
theorem K_135:SigOk Tryz.prog 135 T_135:=k_o E_135 ⟨K_136,trivial⟩ Tryz.func135
def Mk (x:(D_Mode × D_Step)) (c:Unit):(Option (Bool × Unit)):=
  ((((A0 (x.1.1,(1,(12,()))) ()).bind fun v0 => (some v0.1)):(Option Bool)).bind fun v1 => (((if v1 then ((((Gt (x.1.2.1,(x.2.1,())) ()).bind fun v2 => (some v2.1)):(Option Bool)).bind fun v3 => (((if v3 then ((((Gt (x.1.2.2.1,(x.2.2.1,())) ()).bind fun v4 => (some v4.1)):(Option Bool)).bind fun v5 => (some (v5,()))) else (some (false,()))):(Option (Bool × Unit))).bind fun v6 => (some (v6.1,())))) else (some (false,()))):(Option (Bool × Unit))).bind fun v7 => (some (v7.1,()))))
def H_97:Hd:=⟨[y_4,.int .i64,.int .i64],[],none,.p,.bool,.p,[]⟩
def T_97:FSig:=sg_ H_97 Mk
theorem E_97:fnOf tys [(32,T_32),(135,T_135)] Tryz.f97 H_97 = T_97:=by kernel_rfl
theorem K_97:SigOk Tryz.prog 97 T_97:=k_o E_97 ⟨K_32,K_135,trivial⟩ Tryz.func97
abbrev Ij:Type:=(Int × (Int × ((List UInt8) × Unit)))
def J2:Ij -> Option (Out Ij ((Bool × Ij) ⊕ Empty) (Bool × Unit)):=
  (fun v0 => (if (ltZ v0.1 v0.2.1) then ((byteAt v0.2.2.1 v0.1).bind fun v1 => (((if (leZ 97 v1) then ((byteAt v0.2.2.1 v0.1).bind fun v2 => (some ((leZ v2 122),(v0.1,v0)))) else (some (false,(v0.1,v0)))):(Option (Bool × (Int × (Int × (Int × ((List UInt8) × Unit))))))).bind fun v3 => (((if (notB v3.1) then (((if (eqZ v3.2.1 0) then (some (true,v3.2.2)) else ((byteAt v3.2.2.2.2.1 v3.2.1).bind fun v4 => (((if (ltZ v4 48) then (some (true,v3.2.2)) else ((byteAt v3.2.2.2.2.1 v3.2.1).bind fun v5 => (some ((ltZ 57 v5),v3.2.2)))):(Option (Bool × (Int × (Int × ((List UInt8) × Unit)))))).bind fun v6 => (some v6)))):(Option (Bool × (Int × (Int × ((List UInt8) × Unit)))))).bind fun v7 => (some v7)) else (some (false,v3.2.2))):(Option (Bool × (Int × (Int × ((List UInt8) × Unit)))))).bind fun v8 => (if v8.1 then (some (Out.ret (false,()))) else (some (Out.norm ((addZ .i64 v8.2.1 1),v8.2.2))))))) else (some (Out.exit (Sum.inl ((ltZ v0.1 v0.2.1),v0))))))
def Mj (x:((List UInt8) × Unit)) (c:Unit):(Option (Bool × Unit)):=
  ((loopN (A:=Ij) big J2 (0,((lenI x.1),(x.1,())))).bind fun v9 => (match v9 with | Out.norm v10 => none | Out.exit v11 => (match ((match v11 with | Sum.inl v16 => (Sum.inl (v16.2.2.2.1,())) | Sum.inr v17 => (Empty.elim v17)):(((List UInt8) × Unit) ⊕ Empty)) with | Sum.inl v12 => ((((A0 ((lenI v12.1),(1,(8,()))) ()).bind fun v13 => (some v13.1)):(Option Bool)).bind fun v14 => (some (v14,()))) | Sum.inr v15 => none) | Out.ret v18 => (some v18)))
def H_98:Hd:=⟨[.str],[],none,.p,.bool,.p,[]⟩
def T_98:FSig:=sg_ H_98 Mj
theorem E_98:fnOf tys [(32,T_32)] Tryz.f98 H_98 = T_98:=by kernel_rfl
theorem K_98:SigOk Tryz.prog 98 T_98:=k_o E_98 ⟨K_32,trivial⟩ Tryz.func98
abbrev En:Type:=(Int × (Int × ((List D_Mode) × (Int × (Int × (Ad × Unit))))))
def Gi:En -> Option (Out En ((Bool × En) ⊕ Empty) (Bool × Unit)):=
  (fun v0 => (if (ltZ v0.1 v0.2.1) then ((getI v0.2.2.1 v0.1).bind fun v1 => ((((Mk (v1,(v0.2.2.2.1,(v0.2.2.2.2.1,()))) ()).bind fun v2 => (some v2.1)):(Option Bool)).bind fun v3 => (if (notB v3) then (some (Out.ret (false,()))) else (some (Out.norm ((addZ .i64 v0.1 1),v0.2)))))) else (some (Out.exit (Sum.inl ((ltZ v0.1 v0.2.1),v0))))))
def Iz (x:(Ad × D_Step)) (c:Unit):(Option (Bool × Unit)):=
  ((loopN (A:=En) big Gi (0,((lenI x.1.2.2.1),(x.1.2.2.1,(x.2.1,(x.2.2.1,(x.1,()))))))).bind fun v4 => (match v4 with | Out.norm v5 => none | Out.exit v6 => (match ((match v6 with | Sum.inl v17 => (Sum.inl (v17.2.2.2.2.2.2.1,())) | Sum.inr v18 => (Empty.elim v18)):((Ad × Unit) ⊕ Empty)) with | Sum.inl v7 => ((((Mj (v7.1.1,()) ()).bind fun v8 => (some v8.1)):(Option Bool)).bind fun v9 => (((if v9 then ((((A0 (v7.1.2.1,(0,(3,()))) ()).bind fun v10 => (some v10.1)):(Option Bool)).bind fun v11 => (((if v11 then ((((A0 ((lenI v7.1.2.2.1),(1,(3,()))) ()).bind fun v12 => (some v12.1)):(Option Bool)).bind fun v13 => (some (v13,()))) else (some (false,()))):(Option (Bool × Unit))).bind fun v14 => (some (v14.1,())))) else (some (false,()))):(Option (Bool × Unit))).bind fun v15 => (some (v15.1,())))) | Sum.inr v16 => none) | Out.ret v19 => (some v19)))
def H_63:Hd:=⟨[y_1,.int .i64,.int .i64],[],none,.p,.bool,.p,[]⟩
def T_63:FSig:=sg_ H_63 Iz
theorem E_63:fnOf tys [(32,T_32),(97,T_97),(98,T_98)] Tryz.f63 H_63 = T_63:=by kernel_rfl
theorem K_63:SigOk Tryz.prog 63 T_63:=k_o E_63 ⟨K_32,K_97,K_98,trivial⟩ Tryz.func63
abbrev An:Type:=(Int × (Int × (((Ad × Unit) -> (Option Bool)) × ((List Ad) × Unit))))
def Ap:An -> Option (Out An ((Bool × An) ⊕ Empty) (Int × Unit)):=
  (fun v0 => (if (ltZ v0.1 v0.2.1) then ((getI v0.2.2.2.1 v0.1).bind fun v1 => ((v0.2.2.1 (v1,())).bind fun v2 => (if v2 then (some (Out.ret (v0.1,()))) else (some (Out.norm ((addZ .i64 v0.1 1),v0.2)))))) else (some (Out.exit (Sum.inl ((ltZ v0.1 v0.2.1),v0))))))
def Aw (x:((List Ad) × (((Ad × Unit) -> (Option Bool)) × Unit))) (c:Unit):(Option (Int × Unit)):=
  ((loopN (A:=An) big Ap (0,((lenI x.1),(x.2.1,(x.1,()))))).bind fun v3 => (match v3 with | Out.norm v4 => none | Out.exit v5 => (match ((match v5 with | Sum.inl v8 => (Sum.inl ()) | Sum.inr v9 => (Empty.elim v9)):(Unit ⊕ Empty)) with | Sum.inl v6 => (some ((-1),())) | Sum.inr v7 => none) | Out.ret v10 => (some v10)))
def H_99:Hd:=⟨[.sl 52 (y_1),.fn [y_1] (.bool)],[],none,.p,.int .i64,.p,[]⟩
def T_99:FSig:=sg_ H_99 Aw
theorem E_99:fnOf tys [] Tryz.f99 H_99 = T_99:=by kernel_rfl
theorem K_99:SigOk Tryz.prog 99 T_99:=k_o E_99 trivial Tryz.func99
def Hx (x:(Ad × Unit)) (c:((List UInt8) × Unit)):(Option (Bool × Unit)):=
  (some ((eqS x.1.1 c.1),()))
def H_100:Hd:=⟨[y_1],[.str],none,.p,.bool,.p,[]⟩
def T_100:FSig:=sg_ H_100 Hx
theorem E_100:fnOf tys [] Tryz.f100 H_100 = T_100:=by kernel_rfl
theorem K_100:SigOk Tryz.prog 100 T_100:=k_o E_100 trivial Tryz.func100
def Gq (x:(Aa × ((List UInt8) × Unit))) (c:Unit):(Option (Int × Unit)):=
  ((((Aw (x.1.2.1,((fun v0 => ((Hx v0 (x.2.1,())).bind fun v1 => (some v1.1))),())) ()).bind fun v2 => (some v2.1)):(Option Int)).bind fun v3 => (some (v3,())))
def H_64:Hd:=⟨[y_0,.str],[],none,.p,.int .i64,.p,[]⟩
def T_64:FSig:=sg_ H_64 Gq
theorem E_64:fnOf tys [(99,T_99),(100,T_100)] Tryz.f64 H_64 = T_64:=by kernel_rfl
theorem K_64:SigOk Tryz.prog 64 T_64:=k_o E_64 ⟨K_99,K_100,trivial⟩ Tryz.func64
def Iq (x:(Int × Unit)) (c:Unit):(Option (Bool × Unit)):=
  ((((A0 (x.1,(0,(60,()))) ()).bind fun v0 => (some v0.1)):(Option Bool)).bind fun v1 => (some (v1,())))
def H_79:Hd:=⟨[.int .i64],[],none,.p,.bool,.p,[]⟩
def T_79:FSig:=sg_ H_79 Iq
theorem E_79:fnOf tys [(32,T_32)] Tryz.f79 H_79 = T_79:=by kernel_rfl
theorem K_79:SigOk Tryz.prog 79 T_79:=k_o E_79 ⟨K_32,trivial⟩ Tryz.func79
abbrev Hi:Type:=(Int × (Int × ((List D_Step) × ((List D_Step) × Unit))))
def Ji:Hi -> Option (Out Hi ((Bool × Hi) ⊕ Empty) (Bool × Unit)):=
  (fun v0 => (if (ltZ v0.1 v0.2.1) then ((getI v0.2.2.1 v0.1).bind fun v1 => ((((Iq (v1.1,()) ()).bind fun v2 => (some v2.1)):(Option Bool)).bind fun v3 => (((if (notB v3) then (some (true,v0)) else ((((Ix (v1.2.1,()) ()).bind fun v4 => (some v4.1)):(Option Bool)).bind fun v5 => (((if (notB v5) then (some (true,v0)) else (((if (eqZ v0.1 0) then (((if (notB (eqZ v1.1 0)) then (some (true,v0)) else (((if (ltZ 0 v0.1) then ((getI v0.2.2.2.1 (subZ .i64 v0.1 1)).bind fun v6 => (some ((leZ v1.1 v6.1),v0))) else (some (false,v0))):(Option (Bool × (Int × (Int × ((List D_Step) × ((List D_Step) × Unit))))))).bind fun v7 => (some v7))):(Option (Bool × (Int × (Int × ((List D_Step) × ((List D_Step) × Unit))))))).bind fun v8 => (some v8)) else (((if (ltZ 0 v0.1) then ((getI v0.2.2.2.1 (subZ .i64 v0.1 1)).bind fun v9 => (some ((leZ v1.1 v9.1),v0))) else (some (false,v0))):(Option (Bool × (Int × (Int × ((List D_Step) × ((List D_Step) × Unit))))))).bind fun v10 => (some v10))):(Option (Bool × (Int × (Int × ((List D_Step) × ((List D_Step) × Unit))))))).bind fun v11 => (some v11))):(Option (Bool × (Int × (Int × ((List D_Step) × ((List D_Step) × Unit))))))).bind fun v12 => (some v12)))):(Option (Bool × (Int × (Int × ((List D_Step) × ((List D_Step) × Unit))))))).bind fun v13 => (if v13.1 then (some (Out.ret (false,()))) else (some (Out.norm ((addZ .i64 v13.2.1 1),v13.2.2))))))) else (some (Out.exit (Sum.inl ((ltZ v0.1 v0.2.1),v0))))))
def Kg (x:((List D_Step) × Unit)) (c:Unit):(Option (Bool × Unit)):=
  ((loopN (A:=Hi) big Ji (0,((lenI x.1),(x.1,(x.1,()))))).bind fun v14 => (match v14 with | Out.norm v15 => none | Out.exit v16 => (match ((match v16 with | Sum.inl v21 => (Sum.inl (v21.2.2.2.2.1,())) | Sum.inr v22 => (Empty.elim v22)):(((List D_Step) × Unit) ⊕ Empty)) with | Sum.inl v17 => ((((A0 ((lenI v17.1),(1,(8,()))) ()).bind fun v18 => (some v18.1)):(Option Bool)).bind fun v19 => (some (v19,()))) | Sum.inr v20 => none) | Out.ret v23 => (some v23)))
def H_101:Hd:=⟨[.sl 135 (.st [.int .i64,.int .i64])],[],none,.p,.bool,.p,[]⟩
def T_101:FSig:=sg_ H_101 Kg
theorem E_101:fnOf tys [(32,T_32),(79,T_79),(136,T_136)] Tryz.f101 H_101 = T_101:=by kernel_rfl
theorem K_101:SigOk Tryz.prog 101 T_101:=k_o E_101 ⟨K_32,K_79,K_136,trivial⟩ Tryz.func101
abbrev E0:Type:=(Int × (Int × ((List Int) × (Int × (Int × ((List (List Int)) × (Ai × Unit)))))))
def Ga:E0 -> Option (Out E0 ((Bool × E0) ⊕ Empty) (Bool × Unit)):=
  (fun v2 => (if (ltZ v2.1 v2.2.1) then ((getI v2.2.2.1 v2.1).bind fun v3 => ((((A0 (v3,(0,(12,()))) ()).bind fun v4 => (some v4.1)):(Option Bool)).bind fun v5 => (if (notB v5) then (some (Out.ret (false,()))) else (some (Out.norm ((addZ .i64 v2.1 1),v2.2)))))) else (some (Out.exit (Sum.inl ((ltZ v2.1 v2.2.1),v2))))))
abbrev E8:Type:=(Int × (Int × ((List (List Int)) × (Ai × Unit))))
def F9:E8 -> Option (Out E8 ((Bool × E8) ⊕ Empty) (Bool × Unit)):=
  (fun v0 => (if (ltZ v0.1 v0.2.1) then ((getI v0.2.2.1 v0.1).bind fun v1 => (if (notB (eqZ (lenI v1) 4)) then (some (Out.ret (false,()))) else ((loopN (A:=E0) big Ga (0,((lenI v1),(v1,v0)))).bind fun v6 => (match v6 with | Out.norm v7 => none | Out.exit v8 => (match ((match v8 with | Sum.inl v13 => (Sum.inl v13.2.2.2.2) | Sum.inr v14 => (Empty.elim v14)):((Int × (Int × ((List (List Int)) × (Ai × Unit)))) ⊕ Empty)) with | Sum.inl v9 => (some (Out.norm ((addZ .i64 v9.1 1),v9.2))) | Sum.inr v10 => (match ((Empty.elim v10):((Int × (Int × ((List (List Int)) × (Ai × Unit)))) ⊕ Empty)) with | Sum.inl v11 => (some (Out.norm ((addZ .i64 v11.1 1),v11.2))) | Sum.inr v12 => (some (Out.exit (Sum.inr (Empty.elim v12)))))) | Out.ret v15 => (some (Out.ret v15)))))) else (some (Out.exit (Sum.inl ((ltZ v0.1 v0.2.1),v0))))))
def I6 (x:(Ai × Unit)) (c:Unit):(Option (Bool × Unit)):=
  ((loopN (A:=E8) big F9 (0,((lenI x.1.2.1),(x.1.2.1,(x.1,()))))).bind fun v16 => (match v16 with | Out.norm v17 => none | Out.exit v18 => (match ((match v18 with | Sum.inl v25 => (Sum.inl (v25.2.2.2.2.1,())) | Sum.inr v26 => (Empty.elim v26)):((Ai × Unit) ⊕ Empty)) with | Sum.inl v19 => ((((Kg (v19.1.1,()) ()).bind fun v20 => (some v20.1)):(Option Bool)).bind fun v21 => (((if v21 then (((if (eqZ (lenI v19.1.2.1) 0) then (some (true,())) else (some ((eqZ (lenI v19.1.2.1) 4),()))):(Option (Bool × Unit))).bind fun v22 => (some (v22.1,()))) else (some (false,()))):(Option (Bool × Unit))).bind fun v23 => (some (v23.1,())))) | Sum.inr v24 => none) | Out.ret v27 => (some v27)))
def H_65:Hd:=⟨[y_2],[],none,.p,.bool,.p,[]⟩
def T_65:FSig:=sg_ H_65 I6
theorem E_65:fnOf tys [(32,T_32),(101,T_101)] Tryz.f65 H_65 = T_65:=by kernel_rfl
theorem K_65:SigOk Tryz.prog 65 T_65:=k_o E_65 ⟨K_32,K_101,trivial⟩ Tryz.func65
abbrev A4:Type:=(Int × (Int × (((D_Link × Unit) -> (Option Bool)) × ((List D_Link) × Unit))))
def A5:A4 -> Option (Out A4 ((Bool × A4) ⊕ Empty) (Int × Unit)):=
  (fun v0 => (if (ltZ v0.1 v0.2.1) then ((getI v0.2.2.2.1 v0.1).bind fun v1 => ((v0.2.2.1 (v1,())).bind fun v2 => (if v2 then (some (Out.ret (v0.1,()))) else (some (Out.norm ((addZ .i64 v0.1 1),v0.2)))))) else (some (Out.exit (Sum.inl ((ltZ v0.1 v0.2.1),v0))))))
def Ba (x:((List D_Link) × (((D_Link × Unit) -> (Option Bool)) × Unit))) (c:Unit):(Option (Int × Unit)):=
  ((loopN (A:=A4) big A5 (0,((lenI x.1),(x.2.1,(x.1,()))))).bind fun v3 => (match v3 with | Out.norm v4 => none | Out.exit v5 => (match ((match v5 with | Sum.inl v8 => (Sum.inl ()) | Sum.inr v9 => (Empty.elim v9)):(Unit ⊕ Empty)) with | Sum.inl v6 => (some ((-1),())) | Sum.inr v7 => none) | Out.ret v10 => (some v10)))
def H_102:Hd:=⟨[.sl 63 (y_5),.fn [y_5] (.bool)],[],none,.p,.int .i64,.p,[]⟩
def T_102:FSig:=sg_ H_102 Ba
theorem E_102:fnOf tys [] Tryz.f102 H_102 = T_102:=by kernel_rfl
theorem K_102:SigOk Tryz.prog 102 T_102:=k_o E_102 trivial Tryz.func102
def Bk (x:((List D_Link) × (((D_Link × Unit) -> (Option Bool)) × Unit))) (c:Unit):(Option (Bool × Unit)):=
  ((((Ba x ()).bind fun v0 => (some v0.1)):(Option Int)).bind fun v1 => (some ((leZ 0 v1),())))
def H_66:Hd:=⟨[.sl 63 (y_5),.fn [y_5] (.bool)],[],none,.p,.bool,.p,[]⟩
def T_66:FSig:=sg_ H_66 Bk
theorem E_66:fnOf tys [(102,T_102)] Tryz.f66 H_66 = T_66:=by kernel_rfl
theorem K_66:SigOk Tryz.prog 66 T_66:=k_o E_66 ⟨K_102,trivial⟩ Tryz.func66
def As (x:(Aa × (Int × Unit))) (c:Unit):(Option (Bool × Unit)):=
  ((((A0 (x.2.1,(0,((subZ .i64 (lenI x.1.2.1) 1),()))) ()).bind fun v0 => (some v0.1)):(Option Bool)).bind fun v1 => (some (v1,())))
def H_41:Hd:=⟨[y_0,.int .i64],[],none,.p,.bool,.p,[]⟩
def T_41:FSig:=sg_ H_41 As
theorem E_41:fnOf tys [(32,T_32)] Tryz.f41 H_41 = T_41:=by kernel_rfl
theorem K_41:SigOk Tryz.prog 41 T_41:=k_o E_41 ⟨K_32,trivial⟩ Tryz.func41
def Fe (x:(Aa × (D_Link × Unit))) (c:Unit):(Option (Bool × Unit)):=
  ((((As (x.1,(x.2.1.1,())) ()).bind fun v0 => (some v0.1)):(Option Bool)).bind fun v1 => (((if v1 then ((((As (x.1,(x.2.1.2.1,())) ()).bind fun v2 => (some v2.1)):(Option Bool)).bind fun v3 => (((if v3 then (((if (notB (eqZ x.2.1.1 x.2.1.2.1)) then ((((A0 (x.2.1.2.2.2.1,((-60),(60,()))) ()).bind fun v4 => (some v4.1)):(Option Bool)).bind fun v5 => (some (v5,()))) else (some (false,()))):(Option (Bool × Unit))).bind fun v6 => (some (v6.1,()))) else (some (false,()))):(Option (Bool × Unit))).bind fun v7 => (some (v7.1,())))) else (some (false,()))):(Option (Bool × Unit))).bind fun v8 => (some (v8.1,()))))
def H_68:Hd:=⟨[y_0,y_5],[],none,.p,.bool,.p,[]⟩
def T_68:FSig:=sg_ H_68 Fe
theorem E_68:fnOf tys [(32,T_32),(41,T_41)] Tryz.f68 H_68 = T_68:=by kernel_rfl
theorem K_68:SigOk Tryz.prog 68 T_68:=k_o E_68 ⟨K_32,K_41,trivial⟩ Tryz.func68
def H7 (x:(D_Link × Unit)) (c:(Aa × Unit)):(Option (Bool × Unit)):=
  ((((Fe (c.1,(x.1,())) ()).bind fun v0 => (some v0.1)):(Option Bool)).bind fun v1 => (some ((notB v1),())))
def H_67:Hd:=⟨[y_5],[y_0],none,.p,.bool,.p,[]⟩
def T_67:FSig:=sg_ H_67 H7
theorem E_67:fnOf tys [(68,T_68)] Tryz.f67 H_67 = T_67:=by kernel_rfl
theorem K_67:SigOk Tryz.prog 67 T_67:=k_o E_67 ⟨K_68,trivial⟩ Tryz.func67
abbrev Fq:Type:=(Int × (Int × ((List Ad) × (Aa × Unit))))
def Hu:Fq -> Option (Out Fq ((Bool × Fq) ⊕ Empty) (Bool × Unit)):=
  (fun v8 => (if (ltZ v8.1 v8.2.1) then ((getI v8.2.2.1 v8.1).bind fun v9 => ((((Iz (v9,((lenI v8.2.2.2.1.2.2.2.1),((lenI v8.2.2.2.1.2.2.2.2.1),()))) ()).bind fun v10 => (some v10.1)):(Option Bool)).bind fun v11 => (((if (notB v11) then (some (true,v8)) else ((((Gq (v8.2.2.2.1,(v9.1,())) ()).bind fun v12 => (some v12.1)):(Option Int)).bind fun v13 => (some ((notB (eqZ v13 v8.1)),v8)))):(Option (Bool × (Int × (Int × ((List Ad) × (Aa × Unit))))))).bind fun v14 => (if v14.1 then (some (Out.ret (false,()))) else (some (Out.norm ((addZ .i64 v14.2.1 1),v14.2.2))))))) else (some (Out.exit (Sum.inl ((ltZ v8.1 v8.2.1),v8))))))
abbrev Fk:Type:=(Int × (Int × ((List Ai) × (Aa × Unit))))
def Hs:Fk -> Option (Out Fk ((Bool × Fk) ⊕ Empty) (Bool × Unit)):=
  (fun v19 => (if (ltZ v19.1 v19.2.1) then ((getI v19.2.2.1 v19.1).bind fun v20 => ((((I6 (v20,()) ()).bind fun v21 => (some v21.1)):(Option Bool)).bind fun v22 => (if (notB v22) then (some (Out.ret (false,()))) else (some (Out.norm ((addZ .i64 v19.1 1),v19.2)))))) else (some (Out.exit (Sum.inl ((ltZ v19.1 v19.2.1),v19))))))
abbrev Fm:Type:=(Int × (Int × ((List Int) × (Aa × Unit))))
def Hr:Fm -> Option (Out Fm ((Bool × Fm) ⊕ Empty) (Bool × Unit)):=
  (fun v27 => (if (ltZ v27.1 v27.2.1) then ((getI v27.2.2.1 v27.1).bind fun v28 => ((((A0 (v28,(0,(100,()))) ()).bind fun v29 => (some v29.1)):(Option Bool)).bind fun v30 => (if (notB v30) then (some (Out.ret (false,()))) else (some (Out.norm ((addZ .i64 v27.1 1),v27.2)))))) else (some (Out.exit (Sum.inl ((ltZ v27.1 v27.2.1),v27))))))
def Ao (x:(Aa × Unit)) (c:Unit):(Option (Bool × Unit)):=
  ((((A0 (x.1.1,(1,(60,()))) ()).bind fun v0 => (some v0.1)):(Option Bool)).bind fun v1 => (((if (notB v1) then (some (true,(x.1,()))) else ((((A0 ((lenI x.1.2.1),(1,(6,()))) ()).bind fun v2 => (some v2.1)):(Option Bool)).bind fun v3 => (((if (notB v3) then (some (true,(x.1,()))) else (((if (ltZ 3 (lenI x.1.2.2.2.1)) then (some (true,(x.1,()))) else (((if (ltZ 2 (lenI x.1.2.2.2.2.1)) then (some (true,(x.1,()))) else (some ((ltZ 12 (lenI x.1.2.2.1)),(x.1,())))):(Option (Bool × (Aa × Unit)))).bind fun v4 => (some v4))):(Option (Bool × (Aa × Unit)))).bind fun v5 => (some v5))):(Option (Bool × (Aa × Unit)))).bind fun v6 => (some v6)))):(Option (Bool × (Aa × Unit)))).bind fun v7 => (if v7.1 then (some (false,())) else ((loopN (A:=Fq) big Hu (0,((lenI v7.2.1.2.1),(v7.2.1.2.1,(v7.2.1,()))))).bind fun v15 => (match v15 with | Out.norm v16 => none | Out.exit v17 => (match ((match v17 with | Sum.inl v48 => (Sum.inl (v48.2.2.2.2.1,())) | Sum.inr v49 => (Empty.elim v49)):((Aa × Unit) ⊕ Empty)) with | Sum.inl v18 => ((loopN (A:=Fk) big Hs (0,((lenI v18.1.2.2.2.1),(v18.1.2.2.2.1,(v18.1,()))))).bind fun v23 => (match v23 with | Out.norm v24 => none | Out.exit v25 => (match ((match v25 with | Sum.inl v44 => (Sum.inl (v44.2.2.2.2.1,())) | Sum.inr v45 => (Empty.elim v45)):((Aa × Unit) ⊕ Empty)) with | Sum.inl v26 => ((loopN (A:=Fm) big Hr (0,((lenI v26.1.2.2.2.2.1),(v26.1.2.2.2.2.1,(v26.1,()))))).bind fun v31 => (match v31 with | Out.norm v32 => none | Out.exit v33 => (match ((match v33 with | Sum.inl v40 => (Sum.inl (v40.2.2.2.2.1,())) | Sum.inr v41 => (Empty.elim v41)):((Aa × Unit) ⊕ Empty)) with | Sum.inl v34 => ((((Bk (v34.1.2.2.1,((fun v35 => ((H7 v35 (v34.1,())).bind fun v36 => (some v36.1))),())) ()).bind fun v37 => (some v37.1)):(Option Bool)).bind fun v38 => (some ((notB v38),()))) | Sum.inr v39 => none) | Out.ret v42 => (some v42))) | Sum.inr v43 => none) | Out.ret v46 => (some v46))) | Sum.inr v47 => none) | Out.ret v50 => (some v50))))))
def H_27:Hd:=⟨[y_0],[],none,.p,.bool,.p,[]⟩
def T_27:FSig:=sg_ H_27 Ao
theorem E_27:fnOf tys [(32,T_32),(63,T_63),(64,T_64),(65,T_65),(66,T_66),(67,T_67)] Tryz.f27 H_27 = T_27:=by kernel_rfl
theorem K_27:SigOk Tryz.prog 27 T_27:=k_o E_27 ⟨K_32,K_63,K_64,K_65,K_66,K_67,trivial⟩ Tryz.func27
abbrev Cq:Type:=(Int × (Int × (Int × ((List Int) × Unit))))
def Da:Cq -> Option (Out Cq ((Bool × Cq) ⊕ Empty) (Int × Unit)):=
  (fun v0 => (if (ltZ v0.1 v0.2.1) then ((getI v0.2.2.2.1 v0.1).bind fun v1 => (if (eqZ v0.2.2.1 v1) then (some (Out.ret (v0.1,()))) else (some (Out.norm ((addZ .i64 v0.1 1),v0.2))))) else (some (Out.exit (Sum.inl ((ltZ v0.1 v0.2.1),v0))))))
def Eo (x:((List Int) × (Int × Unit))) (c:Unit):(Option (Int × Unit)):=
  ((loopN (A:=Cq) big Da (0,((lenI x.1),(x.2.1,(x.1,()))))).bind fun v2 => (match v2 with | Out.norm v3 => none | Out.exit v4 => (match ((match v4 with | Sum.inl v7 => (Sum.inl ()) | Sum.inr v8 => (Empty.elim v8)):(Unit ⊕ Empty)) with | Sum.inl v5 => (some ((-1),())) | Sum.inr v6 => none) | Out.ret v9 => (some v9)))
def H_104:Hd:=⟨[.sl 3 (.int .i64),.int .i64],[],none,.p,.int .i64,.p,[]⟩
def T_104:FSig:=sg_ H_104 Eo
theorem E_104:fnOf tys [] Tryz.f104 H_104 = T_104:=by kernel_rfl
theorem K_104:SigOk Tryz.prog 104 T_104:=k_o E_104 trivial Tryz.func104
def Ax (x:((List Int) × (Int × Unit))) (c:Unit):(Option (Bool × Unit)):=
  ((((Eo x ()).bind fun v0 => (some v0.1)):(Option Int)).bind fun v1 => (some ((leZ 0 v1),())))
def H_75:Hd:=⟨[.sl 3 (.int .i64),.int .i64],[],none,.p,.bool,.p,[]⟩
def T_75:FSig:=sg_ H_75 Ax
theorem E_75:fnOf tys [(104,T_104)] Tryz.f75 H_75 = T_75:=by kernel_rfl
theorem K_75:SigOk Tryz.prog 75 T_75:=k_o E_75 ⟨K_104,trivial⟩ Tryz.func75
def Ip (x:((List Int) × (Int × Unit))) (c:Unit):(Option (Bool × Unit)):=
  ((((Ax x ()).bind fun v0 => (some v0.1)):(Option Bool)).bind fun v1 => (some (v1,())))
def H_55:Hd:=⟨[.sl 3 (.int .i64),.int .i64],[],none,.p,.bool,.p,[]⟩
def T_55:FSig:=sg_ H_55 Ip
theorem E_55:fnOf tys [(75,T_75)] Tryz.f55 H_55 = T_55:=by kernel_rfl
theorem K_55:SigOk Tryz.prog 55 T_55:=k_o E_55 ⟨K_75,trivial⟩ Tryz.func55
abbrev H9:Type:=(Int × (Int × ((List D_Mode) × ((List Int) × ((List D_Mode) × Unit)))))
def J1:H9 -> Option (Out H9 ((Bool × H9) ⊕ Empty) ((List D_Mode) × Unit)):=
  (fun v0 => (if (ltZ v0.1 v0.2.1) then ((getI v0.2.2.1 v0.1).bind fun v1 => ((((Ip (v0.2.2.2.1,(v0.1,())) ()).bind fun v2 => (some v2.1)):(Option Bool)).bind fun v3 => (((if v3 then ((addI v0.2.2.2.2.1 (v1 :: [])).bind fun v4 => (some (Out.norm (v0.1,(v0.2.1,(v0.2.2.1,(v0.2.2.2.1,(v4,())))))))) else (some (Out.norm v0))):(Option (Out (Int × (Int × ((List D_Mode) × ((List Int) × ((List D_Mode) × Unit))))) Empty ((List D_Mode) × Unit)))).bind fun v5 => (match ((match ((match v5 with | Out.norm v14 => (Out.norm v14) | Out.exit v15 => (Out.exit v15) | Out.ret v16 => (Out.ret v16)):(Out (Int × (Int × ((List D_Mode) × ((List Int) × ((List D_Mode) × Unit))))) Empty ((List D_Mode) × Unit))) with | Out.norm v11 => (Out.norm v11) | Out.exit v12 => (Out.exit v12) | Out.ret v13 => (Out.ret v13)):(Out (Int × (Int × ((List D_Mode) × ((List Int) × ((List D_Mode) × Unit))))) Empty ((List D_Mode) × Unit))) with | Out.norm v6 => (some (Out.norm ((addZ .i64 v6.1 1),v6.2))) | Out.exit v7 => (match ((Empty.elim v7):((Int × (Int × ((List D_Mode) × ((List Int) × ((List D_Mode) × Unit))))) ⊕ Empty)) with | Sum.inl v8 => (some (Out.norm ((addZ .i64 v8.1 1),v8.2))) | Sum.inr v9 => (some (Out.exit (Sum.inr (Empty.elim v9))))) | Out.ret v10 => (some (Out.ret v10)))))) else (some (Out.exit (Sum.inl ((ltZ v0.1 v0.2.1),v0))))))
def Jv (x:(Ad × ((List Int) × Unit))) (c:Unit):(Option ((List D_Mode) × Unit)):=
  ((loopN (A:=H9) big J1 (0,((lenI x.1.2.2.1),(x.1.2.2.1,(x.2.1,([],())))))).bind fun v17 => (match v17 with | Out.norm v18 => none | Out.exit v19 => (match ((match v19 with | Sum.inl v22 => (Sum.inl (v22.2.2.2.2.2.1,())) | Sum.inr v23 => (Empty.elim v23)):(((List D_Mode) × Unit) ⊕ Empty)) with | Sum.inl v20 => (some (v20.1,())) | Sum.inr v21 => none) | Out.ret v24 => (some v24)))
def H_105:Hd:=⟨[y_1,.sl 3 (.int .i64)],[],none,.p,.sl 86 (y_4),.p,[(5,(.u .p))]⟩
def T_105:FSig:=sg_ H_105 Jv
theorem E_105:fnOf tys [(55,T_55)] Tryz.f105 H_105 = T_105:=by kernel_rfl
theorem K_105:SigOk Tryz.prog 105 T_105:=k_o E_105 ⟨K_55,trivial⟩ Tryz.func105
abbrev D7:Type:=(Int × (Int × ((List D_Mode) × (Int × Unit))))
def Fn:D7 -> Option (Out D7 ((Bool × D7) ⊕ Empty) (Int × Unit)):=
  (fun v2 => (if (ltZ v2.1 v2.2.1) then ((getI v2.2.2.1 v2.1).bind fun v3 => (((if (eqZ v2.1 0) then (some (true,(v3,v2))) else (some ((ltZ v3.1 v2.2.2.2.1),(v3,v2)))):(Option (Bool × (D_Mode × (Int × (Int × ((List D_Mode) × (Int × Unit)))))))).bind fun v4 => (((if v4.1 then (some (Out.norm (v4.2.2.1,(v4.2.2.2.1,(v4.2.2.2.2.1,(v4.2.1.1,())))))) else (some (Out.norm v4.2.2))):(Option (Out (Int × (Int × ((List D_Mode) × (Int × Unit)))) Empty (Int × Unit)))).bind fun v5 => (match ((match ((match v5 with | Out.norm v14 => (Out.norm v14) | Out.exit v15 => (Out.exit v15) | Out.ret v16 => (Out.ret v16)):(Out (Int × (Int × ((List D_Mode) × (Int × Unit)))) Empty (Int × Unit))) with | Out.norm v11 => (Out.norm v11) | Out.exit v12 => (Out.exit v12) | Out.ret v13 => (Out.ret v13)):(Out (Int × (Int × ((List D_Mode) × (Int × Unit)))) Empty (Int × Unit))) with | Out.norm v6 => (some (Out.norm ((addZ .i64 v6.1 1),v6.2))) | Out.exit v7 => (match ((Empty.elim v7):((Int × (Int × ((List D_Mode) × (Int × Unit)))) ⊕ Empty)) with | Sum.inl v8 => (some (Out.norm ((addZ .i64 v8.1 1),v8.2))) | Sum.inr v9 => (some (Out.exit (Sum.inr (Empty.elim v9))))) | Out.ret v10 => (some (Out.ret v10)))))) else (some (Out.exit (Sum.inl ((ltZ v2.1 v2.2.1),v2))))))
def D4 (x:(Ad × ((List Int) × Unit))) (c:Unit):(Option (Int × Unit)):=
  ((((Jv x ()).bind fun v0 => (some v0.1)):(Option (List D_Mode))).bind fun v1 => ((loopN (A:=D7) big Fn (0,((lenI v1),(v1,(0,()))))).bind fun v17 => (match v17 with | Out.norm v18 => none | Out.exit v19 => (match ((match v19 with | Sum.inl v22 => (Sum.inl (v22.2.2.2.2.1,())) | Sum.inr v23 => (Empty.elim v23)):((Int × Unit) ⊕ Empty)) with | Sum.inl v20 => (some (v20.1,())) | Sum.inr v21 => none) | Out.ret v24 => (some v24))))
def H_78:Hd:=⟨[y_1,.sl 3 (.int .i64)],[],none,.p,.int .i64,.p,[]⟩
def T_78:FSig:=sg_ H_78 D4
theorem E_78:fnOf tys [(105,T_105)] Tryz.f78 H_78 = T_78:=by kernel_rfl
theorem K_78:SigOk Tryz.prog 78 T_78:=k_o E_78 ⟨K_105,trivial⟩ Tryz.func78
def If (x:(Aa × (D_Link × ((List Int) × Unit)))) (c:Unit):(Option (Int × Unit)):=
  (if x.2.1.2.2.1 then ((getI x.1.2.1 x.2.1.1).bind fun v0 => ((((D4 (v0,(x.2.2.1,())) ()).bind fun v1 => (some v1.1)):(Option Int)).bind fun v2 => (some ((addZ .i64 x.2.1.2.2.2.1 v2),())))) else (some (x.2.1.2.2.2.1,())))
def H_76:Hd:=⟨[y_0,y_5,.sl 3 (.int .i64)],[],none,.p,.int .i64,.p,[]⟩
def T_76:FSig:=sg_ H_76 If
theorem E_76:fnOf tys [(78,T_78)] Tryz.f76 H_76 = T_76:=by kernel_rfl
theorem K_76:SigOk Tryz.prog 76 T_76:=k_o E_76 ⟨K_78,trivial⟩ Tryz.func76
abbrev F0:Type:=(Int × (Int × ((List Int) × Unit)))
def Ic:F0 -> Option (Out F0 ((Bool × F0) ⊕ Empty) ((List Int) × Unit)):=
  (fun v2 => (if (ltZ v2.1 v2.2.1) then ((addI v2.2.2.1 (v2.1 :: [])).bind fun v3 => (some (Out.norm ((addZ .i64 v2.1 1),(v2.2.1,(v3,())))))) else (some (Out.exit (Sum.inl ((ltZ v2.1 v2.2.1),v2))))))
def Fj (x:(Int × Unit)) (c:Unit):(Option ((List Int) × Unit)):=
  ((((A0 (x.1,(0,(200,()))) ()).bind fun v0 => (some v0.1)):(Option Bool)).bind fun v1 => (if (notB v1) then (some ([],())) else ((loopN (A:=F0) big Ic (0,(x.1,([],())))).bind fun v4 => (match v4 with | Out.norm v5 => none | Out.exit v6 => (match ((match v6 with | Sum.inl v9 => (Sum.inl (v9.2.2.2.1,())) | Sum.inr v10 => (Empty.elim v10)):(((List Int) × Unit) ⊕ Empty)) with | Sum.inl v7 => (some (v7.1,())) | Sum.inr v8 => none) | Out.ret v11 => (some v11)))))
def H_22:Hd:=⟨[.int .i64],[],none,.p,.sl 3 (.int .i64),(Ty.all (.sl 3 (.int .i64))),[]⟩
def T_22:FSig:=sg_ H_22 Fj
theorem E_22:fnOf tys [(32,T_32)] Tryz.f22 H_22 = T_22:=by kernel_rfl
theorem K_22:SigOk Tryz.prog 22 T_22:=k_o E_22 ⟨K_32,trivial⟩ Tryz.func22
def Cd (x:(Ad × Unit)) (c:Unit):(Option ((List Int) × Unit)):=
  ((((Fj ((lenI x.1.2.2.1),()) ()).bind fun v0 => (some v0.1)):(Option (List Int))).bind fun v1 => (some (v1,())))
def H_77:Hd:=⟨[y_1],[],none,.p,.sl 3 (.int .i64),(Ty.all (.sl 3 (.int .i64))),[]⟩
def T_77:FSig:=sg_ H_77 Cd
theorem E_77:fnOf tys [(22,T_22)] Tryz.f77 H_77 = T_77:=by kernel_rfl
theorem K_77:SigOk Tryz.prog 77 T_77:=k_o E_77 ⟨K_22,trivial⟩ Tryz.func77
def Bg (x:(Aa × (D_Link × Unit))) (c:Unit):(Option (Int × Unit)):=
  ((getI x.1.2.1 x.2.1.1).bind fun v0 => ((((Cd (v0,()) ()).bind fun v1 => (some v1.1)):(Option (List Int))).bind fun v2 => ((((If (x.1,(x.2.1,(v2,()))) ()).bind fun v3 => (some v3.1)):(Option Int)).bind fun v4 => (some (v4,())))))
def H_37:Hd:=⟨[y_0,y_5],[],none,.p,.int .i64,.p,[]⟩
def T_37:FSig:=sg_ H_37 Bg
theorem E_37:fnOf tys [(76,T_76),(77,T_77)] Tryz.f37 H_37 = T_37:=by kernel_rfl
theorem K_37:SigOk Tryz.prog 37 T_37:=k_o E_37 ⟨K_76,K_77,trivial⟩ Tryz.func37
def Am (x:((List Int) × Unit)) (c:Unit):(Option ((List Int) × Unit)):=
  ((addI [] x.1).bind fun v0 => (some (v0,())))
def H_49:Hd:=⟨[.sl 3 (.int .i64)],[],none,.p,.sl 3 (.int .i64),(Ty.all (.sl 3 (.int .i64))),[]⟩
def T_49:FSig:=sg_ H_49 Am
theorem E_49:fnOf tys [] Tryz.f49 H_49 = T_49:=by kernel_rfl
theorem K_49:SigOk Tryz.prog 49 T_49:=k_o E_49 trivial Tryz.func49
def Nw:Hd:=⟨[y_0],[],none,.p,.sl 3 (.int .i64),.p,[]⟩
def Bh:(Aa × Unit) -> Unit -> Option ((List Int) × Unit):=posF Ao Am Ax Bg
def Hy:FSig:=sg_ Nw Bh
theorem Hz:SigOk Tryz.prog 8 Hy:=Tryz.pos_ok K_27 K_49 K_75 K_37 tn26.kind
def Po:Hd:=⟨[y_0],[],none,.p,.sl 26 (.sl 3 (.int .i64)),.p,[]⟩
def Dg:(Aa × Unit) -> Unit -> Option ((List (List Int)) × Unit):=distF Ao Bh Bg
def Ig:FSig:=sg_ Po Dg
theorem Kt:SigOk Tryz.prog 31 Ig:=Tryz.dist_ok K_27 Hz K_37
abbrev Ct:Type:=(Int × (Int × ((List Int) × (Int × (Int × ((List (List Int)) × ((List Int) × Unit)))))))
def D0:Ct -> Option (Out Ct ((Bool × Ct) ⊕ Empty) ((List Int) × Unit)):=
  (fun v5 => (if (ltZ v5.1 v5.2.1) then ((getI v5.2.2.1 v5.1).bind fun v6 => ((((getI v5.2.2.2.2.2.2.1 v5.1).bind fun v7 => (some ())):(Option Unit)).bind fun v8 => ((((getI v5.2.2.2.2.2.2.1 v5.1).bind fun v9 => (some v9)):(Option Int)).bind fun v10 => ((((getI v5.2.2.2.2.2.2.1 v5.1).bind fun v11 => (some ())):(Option Unit)).bind fun v12 => ((((((getI v5.2.2.2.2.2.2.1 v5.1).bind fun v13 => (some v13)):(Option Int)).bind fun v14 => (some (maxI v10 v6))):(Option Int)).bind fun v15 => (some (Out.norm ((addZ .i64 v5.1 1),(v5.2.1,(v5.2.2.1,(v5.2.2.2.1,(v5.2.2.2.2.1,(v5.2.2.2.2.2.1,((setI v5.2.2.2.2.2.2.1 v5.1 (fun v16 => v15)),())))))))))))))) else (some (Out.exit (Sum.inl ((ltZ v5.1 v5.2.1),v5))))))
abbrev Cs:Type:=(Int × (Int × ((List (List Int)) × ((List Int) × Unit))))
def Br:Cs -> Option (Out Cs ((Bool × Cs) ⊕ Empty) ((List Int) × Unit)):=
  (fun v3 => (if (ltZ v3.1 v3.2.1) then ((getI v3.2.2.1 v3.1).bind fun v4 => ((loopN (A:=Ct) big D0 (0,((lenI v4),(v4,v3)))).bind fun v17 => (match v17 with | Out.norm v18 => none | Out.exit v19 => (match ((match v19 with | Sum.inl v24 => (Sum.inl v24.2.2.2.2) | Sum.inr v25 => (Empty.elim v25)):((Int × (Int × ((List (List Int)) × ((List Int) × Unit)))) ⊕ Empty)) with | Sum.inl v20 => (some (Out.norm ((addZ .i64 v20.1 1),v20.2))) | Sum.inr v21 => (match ((Empty.elim v21):((Int × (Int × ((List (List Int)) × ((List Int) × Unit)))) ⊕ Empty)) with | Sum.inl v22 => (some (Out.norm ((addZ .i64 v22.1 1),v22.2))) | Sum.inr v23 => (some (Out.exit (Sum.inr (Empty.elim v23)))))) | Out.ret v26 => (some (Out.ret v26))))) else (some (Out.exit (Sum.inl ((ltZ v3.1 v3.2.1),v3))))))
def Au (x:(Aa × Unit)) (c:Unit):(Option ((List Int) × Unit)):=
  ((((Dg (x.1,()) ()).bind fun v0 => (some v0.1)):(Option (List (List Int)))).bind fun v1 => (((if (eqZ (lenI v1) (lenI v1)) then (zerosI (lenI v1) 0) else none):(Option (List Int))).bind fun v2 => ((loopN (A:=Cs) big Br (0,((lenI v1),(v1,(v2,()))))).bind fun v27 => (match v27 with | Out.norm v28 => none | Out.exit v29 => (match ((match v29 with | Sum.inl v32 => (Sum.inl (v32.2.2.2.2.1,())) | Sum.inr v33 => (Empty.elim v33)):(((List Int) × Unit) ⊕ Empty)) with | Sum.inl v30 => (some (v30.1,())) | Sum.inr v31 => none) | Out.ret v34 => (some v34)))))
def H_6:Hd:=⟨[y_0],[],none,.p,.sl 3 (.int .i64),(Ty.all (.sl 3 (.int .i64))),[]⟩
def T_6:FSig:=sg_ H_6 Au
theorem E_6:fnOf tys [(31,Ig)] Tryz.f6 H_6 = T_6:=by kernel_rfl
theorem K_6:SigOk Tryz.prog 6 T_6:=k_o E_6 ⟨Kt,trivial⟩ Tryz.func6
abbrev Dy:Type:=(Int × (Int × (Ac × (Aa × Unit))))
def E7:Dy -> Option (Out Dy ((Bool × Dy) ⊕ Empty) (Bool × Unit)):=
  (fun v4 => (if (ltZ v4.1 v4.2.1) then ((getI v4.2.2.1.1 v4.1).bind fun v5 => ((((Iq (v5,()) ()).bind fun v6 => (some v6.1)):(Option Bool)).bind fun v7 => (((if (notB v7) then (some (true,v4)) else ((getI v4.2.2.1.2.1 v4.1).bind fun v8 => ((getI v4.2.2.2.1.2.1 v4.1).bind fun v9 => ((((A0 (v8,(0,((subZ .i64 (lenI v9.2.2.1) 1),()))) ()).bind fun v10 => (some v10.1)):(Option Bool)).bind fun v11 => (some ((notB v11),v4)))))):(Option (Bool × (Int × (Int × (Ac × (Aa × Unit))))))).bind fun v12 => (if v12.1 then (some (Out.ret (false,()))) else (some (Out.norm ((addZ .i64 v12.2.1 1),v12.2.2))))))) else (some (Out.exit (Sum.inl ((ltZ v4.1 v4.2.1),v4))))))
def Cj (x:(Aa × (Ac × Unit))) (c:Unit):(Option (Bool × Unit)):=
  ((((Ao (x.1,()) ()).bind fun v0 => (some v0.1)):(Option Bool)).bind fun v1 => (((if (notB v1) then (some (true,(x.2.1,(x.1,())))) else (((if (notB (eqZ (lenI x.2.1.1) (lenI x.1.2.1))) then (some (true,(x.2.1,(x.1,())))) else (some ((notB (eqZ (lenI x.2.1.2.1) (lenI x.1.2.1))),(x.2.1,(x.1,()))))):(Option (Bool × (Ac × (Aa × Unit))))).bind fun v2 => (some v2))):(Option (Bool × (Ac × (Aa × Unit))))).bind fun v3 => (if v3.1 then (some (false,())) else ((loopN (A:=Dy) big E7 (0,((lenI v3.2.2.1.2.1),v3.2))).bind fun v13 => (match v13 with | Out.norm v14 => none | Out.exit v15 => (match ((match v15 with | Sum.inl v18 => (Sum.inl ()) | Sum.inr v19 => (Empty.elim v19)):(Unit ⊕ Empty)) with | Sum.inl v16 => (some (true,())) | Sum.inr v17 => none) | Out.ret v20 => (some v20))))))
def H_39:Hd:=⟨[y_0,y_6],[],none,.p,.bool,.p,[]⟩
def T_39:FSig:=sg_ H_39 Cj
theorem E_39:fnOf tys [(27,T_27),(32,T_32),(79,T_79)] Tryz.f39 H_39 = T_39:=by kernel_rfl
theorem K_39:SigOk Tryz.prog 39 T_39:=k_o E_39 ⟨K_27,K_32,K_79,trivial⟩ Tryz.func39
def A8 (x:(Aa × (Int × Unit))) (c:Unit):(Option (Bool × Unit)):=
  ((((A0 (x.2.1,(0,((subZ .i64 (lenI x.1.2.2.2.1) 1),()))) ()).bind fun v0 => (some v0.1)):(Option Bool)).bind fun v1 => (some (v1,())))
def H_149:Hd:=⟨[y_0,.int .i64],[],none,.p,.bool,.p,[]⟩
def T_149:FSig:=sg_ H_149 A8
theorem E_149:fnOf tys [(32,T_32)] Tryz.f149 H_149 = T_149:=by kernel_rfl
theorem K_149:SigOk Tryz.prog 149 T_149:=k_o E_149 ⟨K_32,trivial⟩ Tryz.func149
def Df (x:(Aa × (Int × Unit))) (c:Unit):(Option (Bool × Unit)):=
  ((((A8 x ()).bind fun v0 => (some v0.1)):(Option Bool)).bind fun v1 => (((if v1 then ((getI x.1.2.2.2.1 x.2.1).bind fun v2 => (some ((ltZ 0 (lenI v2.2.1)),()))) else (some (false,()))):(Option (Bool × Unit))).bind fun v3 => (some (v3.1,()))))
def H_130:Hd:=⟨[y_0,.int .i64],[],none,.p,.bool,.p,[]⟩
def T_130:FSig:=sg_ H_130 Df
theorem E_130:fnOf tys [(149,T_149)] Tryz.f130 H_130 = T_130:=by kernel_rfl
theorem K_130:SigOk Tryz.prog 130 T_130:=k_o E_130 ⟨K_149,trivial⟩ Tryz.func130
abbrev Dc:Type:=(Int × (Int × (Aa × ((List D_Rule) × Unit))))
def Km:Dc -> Option (Out Dc ((Bool × Dc) ⊕ Empty) ((List D_Rule) × Unit)):=
  (fun v0 => (if (ltZ v0.1 v0.2.1) then ((addI v0.2.2.2.1 ((1,(v0.1,(0,(0,())))) :: [])).bind fun v1 => (some (Out.norm ((addZ .i64 v0.1 1),(v0.2.1,(v0.2.2.1,(v1,()))))))) else (some (Out.exit (Sum.inl ((ltZ v0.1 v0.2.1),v0))))))
abbrev C5:Type:=(Int × (Int × (Aa × ((List D_Rule) × Unit))))
def Kl:C5 -> Option (Out C5 ((Bool × C5) ⊕ Empty) ((List D_Rule) × Unit)):=
  (fun v6 => (if (ltZ v6.1 v6.2.1) then ((addI v6.2.2.2.1 ((2,(v6.1,(0,(0,())))) :: [])).bind fun v7 => (some (Out.norm ((addZ .i64 v6.1 1),(v6.2.1,(v6.2.2.1,(v7,()))))))) else (some (Out.exit (Sum.inl ((ltZ v6.1 v6.2.1),v6))))))
abbrev C1:Type:=(Int × (Int × (Int × (Int × (Aa × ((List D_Rule) × Unit))))))
def Gs:C1 -> Option (Out C1 ((Bool × C1) ⊕ Empty) ((List D_Rule) × Unit)):=
  (fun v13 => (if (ltZ v13.1 61) then ((addI v13.2.2.2.2.2.1 ((3,(v13.2.1,(v13.1,(0,())))) :: [])).bind fun v14 => (some (Out.norm ((addZ .i64 v13.1 1),(v13.2.1,(v13.2.2.1,(v13.2.2.2.1,(v13.2.2.2.2.1,(v14,()))))))))) else (some (Out.exit (Sum.inl ((ltZ v13.1 61),v13))))))
abbrev C0:Type:=(Int × (Int × (Aa × ((List D_Rule) × Unit))))
def G4:C0 -> Option (Out C0 ((Bool × C0) ⊕ Empty) ((List D_Rule) × Unit)):=
  (fun v12 => (if (ltZ v12.1 v12.2.1) then ((loopN (A:=C1) big Gs (0,(v12.1,v12))).bind fun v15 => (match v15 with | Out.norm v16 => none | Out.exit v17 => (match ((match v17 with | Sum.inl v22 => (Sum.inl v22.2.2.2) | Sum.inr v23 => (Empty.elim v23)):((Int × (Int × (Aa × ((List D_Rule) × Unit)))) ⊕ Empty)) with | Sum.inl v18 => (some (Out.norm ((addZ .i64 v18.1 1),v18.2))) | Sum.inr v19 => (match ((Empty.elim v19):((Int × (Int × (Aa × ((List D_Rule) × Unit)))) ⊕ Empty)) with | Sum.inl v20 => (some (Out.norm ((addZ .i64 v20.1 1),v20.2))) | Sum.inr v21 => (some (Out.exit (Sum.inr (Empty.elim v21)))))) | Out.ret v24 => (some (Out.ret v24)))) else (some (Out.exit (Sum.inl ((ltZ v12.1 v12.2.1),v12))))))
abbrev C9:Type:=(Int × (Int × (Int × (Int × (Int × (Int × (Int × (Aa × ((List D_Rule) × Unit)))))))))
def G2:C9 -> Option (Out C9 ((Bool × C9) ⊕ Empty) ((List D_Rule) × Unit)):=
  (fun v31 => (((if (ltZ v31.1 (lenI v31.2.2.2.2.2.2.2.1.2.1)) then ((((Df (v31.2.2.2.2.2.2.2.1,(v31.2.2.2.2.1,())) ()).bind fun v32 => (some v32.1)):(Option Bool)).bind fun v33 => (some (v33,v31))) else (some (false,v31))):(Option (Bool × (Int × (Int × (Int × (Int × (Int × (Int × (Int × (Aa × ((List D_Rule) × Unit)))))))))))).bind fun v34 => (if v34.1 then ((addI v34.2.2.2.2.2.2.2.2.2.1 ((5,(v34.2.2.2.2.2.1,(v34.2.2.1,(v34.2.1,())))) :: [])).bind fun v35 => (some (Out.norm ((addZ .i64 v34.2.1 1),(v34.2.2.1,(v34.2.2.2.1,(v34.2.2.2.2.1,(v34.2.2.2.2.2.1,(v34.2.2.2.2.2.2.1,(v34.2.2.2.2.2.2.2.1,(v34.2.2.2.2.2.2.2.2.1,(v35,())))))))))))) else (some (Out.exit (Sum.inl v34))))))
abbrev C8:Type:=(Int × (Int × (Int × (Int × (Int × (Aa × ((List D_Rule) × Unit)))))))
def G0:C8 -> Option (Out C8 ((Bool × C8) ⊕ Empty) ((List D_Rule) × Unit)):=
  (fun v30 => (if (ltZ v30.1 v30.2.1) then ((loopN (A:=C9) big G2 ((addZ .i64 v30.1 1),(v30.1,v30))).bind fun v36 => (match v36 with | Out.norm v37 => none | Out.exit v38 => (match ((match v38 with | Sum.inl v43 => (Sum.inl v43.2.2.2) | Sum.inr v44 => (Empty.elim v44)):((Int × (Int × (Int × (Int × (Int × (Aa × ((List D_Rule) × Unit))))))) ⊕ Empty)) with | Sum.inl v39 => (some (Out.norm ((addZ .i64 v39.1 1),v39.2))) | Sum.inr v40 => (match ((Empty.elim v40):((Int × (Int × (Int × (Int × (Int × (Aa × ((List D_Rule) × Unit))))))) ⊕ Empty)) with | Sum.inl v41 => (some (Out.norm ((addZ .i64 v41.1 1),v41.2))) | Sum.inr v42 => (some (Out.exit (Sum.inr (Empty.elim v42)))))) | Out.ret v45 => (some (Out.ret v45)))) else (some (Out.exit (Sum.inl ((ltZ v30.1 v30.2.1),v30))))))
abbrev C6:Type:=(Int × (Int × (Aa × ((List D_Rule) × Unit))))
def Gy:C6 -> Option (Out C6 ((Bool × C6) ⊕ Empty) ((List D_Rule) × Unit)):=
  (fun v29 => (if (ltZ v29.1 v29.2.1) then ((loopN (A:=C8) big G0 (0,((lenI v29.2.2.1.2.1),(v29.1,v29)))).bind fun v46 => (match v46 with | Out.norm v47 => none | Out.exit v48 => (match ((match v48 with | Sum.inl v53 => (Sum.inl v53.2.2.2.2) | Sum.inr v54 => (Empty.elim v54)):((Int × (Int × (Aa × ((List D_Rule) × Unit)))) ⊕ Empty)) with | Sum.inl v49 => (some (Out.norm ((addZ .i64 v49.1 1),v49.2))) | Sum.inr v50 => (match ((Empty.elim v50):((Int × (Int × (Aa × ((List D_Rule) × Unit)))) ⊕ Empty)) with | Sum.inl v51 => (some (Out.norm ((addZ .i64 v51.1 1),v51.2))) | Sum.inr v52 => (some (Out.exit (Sum.inr (Empty.elim v52)))))) | Out.ret v55 => (some (Out.ret v55)))) else (some (Out.exit (Sum.inl ((ltZ v29.1 v29.2.1),v29))))))
abbrev Dd:Type:=(Int × (Int × ((List D_Rule) × Unit)))
def Kf:Dd -> Option (Out Dd ((Bool × Dd) ⊕ Empty) ((List D_Rule) × Unit)):=
  (fun v60 => (if (ltZ v60.1 v60.2.1) then ((addI v60.2.2.1 ((6,(v60.1,(0,(0,())))) :: [])).bind fun v61 => (some (Out.norm ((addZ .i64 v60.1 1),(v60.2.1,(v61,())))))) else (some (Out.exit (Sum.inl ((ltZ v60.1 v60.2.1),v60))))))
def Gj (x:(Aa × Unit)) (c:Unit):(Option ((List D_Rule) × Unit)):=
  ((loopN (A:=Dc) big Km (0,((lenI x.1.2.2.1),(x.1,([],()))))).bind fun v2 => (match v2 with | Out.norm v3 => none | Out.exit v4 => (match ((match v4 with | Sum.inl v83 => (Sum.inl v83.2.2.2) | Sum.inr v84 => (Empty.elim v84)):((Aa × ((List D_Rule) × Unit)) ⊕ Empty)) with | Sum.inl v5 => ((loopN (A:=C5) big Kl (0,((lenI v5.1.2.1),v5))).bind fun v8 => (match v8 with | Out.norm v9 => none | Out.exit v10 => (match ((match v10 with | Sum.inl v79 => (Sum.inl v79.2.2.2) | Sum.inr v80 => (Empty.elim v80)):((Aa × ((List D_Rule) × Unit)) ⊕ Empty)) with | Sum.inl v11 => ((loopN (A:=C0) big G4 (0,((lenI v11.1.2.2.2.1),v11))).bind fun v25 => (match v25 with | Out.norm v26 => none | Out.exit v27 => (match ((match v27 with | Sum.inl v75 => (Sum.inl v75.2.2.2) | Sum.inr v76 => (Empty.elim v76)):((Aa × ((List D_Rule) × Unit)) ⊕ Empty)) with | Sum.inl v28 => ((loopN (A:=C6) big Gy (0,((lenI v28.1.2.2.2.1),v28))).bind fun v56 => (match v56 with | Out.norm v57 => none | Out.exit v58 => (match ((match v58 with | Sum.inl v71 => (Sum.inl v71.2.2.2) | Sum.inr v72 => (Empty.elim v72)):((Aa × ((List D_Rule) × Unit)) ⊕ Empty)) with | Sum.inl v59 => ((loopN (A:=Dd) big Kf (0,((lenI v59.1.2.2.2.2.1),(v59.2.1,())))).bind fun v62 => (match v62 with | Out.norm v63 => none | Out.exit v64 => (match ((match v64 with | Sum.inl v67 => (Sum.inl (v67.2.2.2.1,())) | Sum.inr v68 => (Empty.elim v68)):(((List D_Rule) × Unit) ⊕ Empty)) with | Sum.inl v65 => (some (v65.1,())) | Sum.inr v66 => none) | Out.ret v69 => (some v69))) | Sum.inr v70 => none) | Out.ret v73 => (some v73))) | Sum.inr v74 => none) | Out.ret v77 => (some v77))) | Sum.inr v78 => none) | Out.ret v81 => (some v81))) | Sum.inr v82 => none) | Out.ret v85 => (some v85)))
def H_95:Hd:=⟨[y_0],[],none,.p,.sl 126 (.st [.int .i64,.int .i64,.int .i64,.int .i64]),(Ty.all (.sl 126 (.st [.int .i64,.int .i64,.int .i64,.int .i64]))),[]⟩
def T_95:FSig:=sg_ H_95 Gj
theorem E_95:fnOf tys [(130,T_130)] Tryz.f95 H_95 = T_95:=by kernel_rfl
theorem K_95:SigOk Tryz.prog 95 T_95:=k_o E_95 ⟨K_130,trivial⟩ Tryz.func95
def Ck (x:(Aa × (Ac × (Int × Unit)))) (c:Unit):(Option (D_Mode × Unit)):=
  ((getI x.1.2.1 x.2.2.1).bind fun v0 => ((getI x.2.1.2.1 x.2.2.1).bind fun v1 => ((getI v0.2.2.1 v1).bind fun v2 => (some (v2,())))))
def H_80:Hd:=⟨[y_0,y_6,.int .i64],[],none,.p,y_4,.p,[]⟩
def T_80:FSig:=sg_ H_80 Ck
theorem E_80:fnOf tys [] Tryz.f80 H_80 = T_80:=by kernel_rfl
theorem K_80:SigOk Tryz.prog 80 T_80:=k_o E_80 trivial Tryz.func80
def Ca (x:(Aa × (Ac × (Int × Unit)))) (c:Unit):(Option (Int × Unit)):=
  ((getI x.2.1.1 x.2.2.1).bind fun v0 => ((((Ck x ()).bind fun v1 => (some v1.1)):(Option D_Mode)).bind fun v2 => (some ((addZ .i64 v0 v2.1),()))))
def H_40:Hd:=⟨[y_0,y_6,.int .i64],[],none,.p,.int .i64,.p,[]⟩
def T_40:FSig:=sg_ H_40 Ca
theorem E_40:fnOf tys [(80,T_80)] Tryz.f40 H_40 = T_40:=by kernel_rfl
theorem K_40:SigOk Tryz.prog 40 T_40:=k_o E_40 ⟨K_80,trivial⟩ Tryz.func40
abbrev El:Type:=(Int × (Int × ((List D_Step) × D_Step)))
def Od:El -> Option (Out El ((Bool × El) ⊕ Empty) (Int × Unit)):=
  (fun v0 => (if (ltZ v0.1 v0.2.1) then ((getI v0.2.2.1 v0.1).bind fun v1 => (((if (leZ v1.1 v0.2.2.2.1) then (some (Out.norm (v0.1,(v0.2.1,(v0.2.2.1,(v0.2.2.2.1,(v1.2.1,()))))))) else (some (Out.norm v0))):(Option (Out (Int × (Int × ((List D_Step) × D_Step))) Empty (Int × Unit)))).bind fun v2 => (match ((match ((match v2 with | Out.norm v11 => (Out.norm v11) | Out.exit v12 => (Out.exit v12) | Out.ret v13 => (Out.ret v13)):(Out (Int × (Int × ((List D_Step) × D_Step))) Empty (Int × Unit))) with | Out.norm v8 => (Out.norm v8) | Out.exit v9 => (Out.exit v9) | Out.ret v10 => (Out.ret v10)):(Out (Int × (Int × ((List D_Step) × D_Step))) Empty (Int × Unit))) with | Out.norm v3 => (some (Out.norm ((addZ .i64 v3.1 1),v3.2))) | Out.exit v4 => (match ((Empty.elim v4):((Int × (Int × ((List D_Step) × D_Step))) ⊕ Empty)) with | Sum.inl v5 => (some (Out.norm ((addZ .i64 v5.1 1),v5.2))) | Sum.inr v6 => (some (Out.exit (Sum.inr (Empty.elim v6))))) | Out.ret v7 => (some (Out.ret v7))))) else (some (Out.exit (Sum.inl ((ltZ v0.1 v0.2.1),v0))))))
def I5 (x:((List D_Step) × (Int × Unit))) (c:Unit):(Option (Int × Unit)):=
  ((loopN (A:=El) big Od (0,((lenI x.1),(x.1,(x.2.1,(0,())))))).bind fun v14 => (match v14 with | Out.norm v15 => none | Out.exit v16 => (match ((match v16 with | Sum.inl v19 => (Sum.inl (v19.2.2.2.2.2.1,())) | Sum.inr v20 => (Empty.elim v20)):((Int × Unit) ⊕ Empty)) with | Sum.inl v17 => (some (v17.1,())) | Sum.inr v18 => none) | Out.ret v21 => (some v21)))
def H_109:Hd:=⟨[.sl 135 (.st [.int .i64,.int .i64]),.int .i64],[],none,.p,.int .i64,.p,[]⟩
def T_109:FSig:=sg_ H_109 I5
theorem E_109:fnOf tys [] Tryz.f109 H_109 = T_109:=by kernel_rfl
theorem K_109:SigOk Tryz.prog 109 T_109:=k_o E_109 trivial Tryz.func109
abbrev C2:Type:=(Int × (Int × ((List D_Step) × (Int × Unit))))
def Ed:C2 -> Option (Out C2 ((Bool × C2) ⊕ Empty) (Int × Unit)):=
  (fun v8 => (if (ltZ v8.1 v8.2.1) then ((((I5 (v8.2.2.1,(v8.1,())) ()).bind fun v9 => (some v9.1)):(Option Int)).bind fun v10 => (some (Out.norm ((addZ .i64 v8.1 1),(v8.2.1,(v8.2.2.1,((addZ .i64 v8.2.2.2.1 v10),()))))))) else (some (Out.exit (Sum.inl ((ltZ v8.1 v8.2.1),v8))))))
def Cu (x:((List D_Step) × D_Step)) (c:Unit):(Option (Int × Unit)):=
  ((((Kg (x.1,()) ()).bind fun v0 => (some v0.1)):(Option Bool)).bind fun v1 => (((if (notB v1) then (some (true,(x.2.1,(x.2.2.1,(x.1,()))))) else ((((Iq (x.2.1,()) ()).bind fun v2 => (some v2.1)):(Option Bool)).bind fun v3 => (((if (notB v3) then (some (true,(x.2.1,(x.2.2.1,(x.1,()))))) else ((((Iq (x.2.2.1,()) ()).bind fun v4 => (some v4.1)):(Option Bool)).bind fun v5 => (some ((notB v5),(x.2.1,(x.2.2.1,(x.1,()))))))):(Option (Bool × (Int × (Int × ((List D_Step) × Unit)))))).bind fun v6 => (some v6)))):(Option (Bool × (Int × (Int × ((List D_Step) × Unit)))))).bind fun v7 => (if v7.1 then (some (0,())) else ((loopN (A:=C2) big Ed (v7.2.1,(v7.2.2.1,(v7.2.2.2.1,(0,()))))).bind fun v11 => (match v11 with | Out.norm v12 => none | Out.exit v13 => (match ((match v13 with | Sum.inl v16 => (Sum.inl (v16.2.2.2.2.1,())) | Sum.inr v17 => (Empty.elim v17)):((Int × Unit) ⊕ Empty)) with | Sum.inl v14 => (some (v14.1,())) | Sum.inr v15 => none) | Out.ret v18 => (some v18))))))
def H_82:Hd:=⟨[.sl 135 (.st [.int .i64,.int .i64]),.int .i64,.int .i64],[],none,.p,.int .i64,.p,[]⟩
def T_82:FSig:=sg_ H_82 Cu
theorem E_82:fnOf tys [(79,T_79),(101,T_101),(109,T_109)] Tryz.f82 H_82 = T_82:=by kernel_rfl
theorem K_82:SigOk Tryz.prog 82 T_82:=k_o E_82 ⟨K_79,K_101,K_109,trivial⟩ Tryz.func82
def Cg (x:(Aa × (Ac × (D_Link × Unit)))) (c:Unit):(Option (Bool × Unit)):=
  ((getI x.2.1.1 x.2.2.1.1).bind fun v0 => (((if x.2.2.1.2.2.1 then ((((Ca (x.1,(x.2.1,(x.2.2.1.1,()))) ()).bind fun v1 => (some v1.1)):(Option Int)).bind fun v2 => (some (Out.norm (x.2.1,(v2,(x.2.2.1,())))))) else (some (Out.norm (x.2.1,(v0,(x.2.2.1,())))))):(Option (Out (Ac × (Int × (D_Link × Unit))) Empty (Bool × Unit)))).bind fun v3 => (match ((match v3 with | Out.norm v8 => (Out.norm v8) | Out.exit v9 => (Out.exit v9) | Out.ret v10 => (Out.ret v10)):(Out (Ac × (Int × (D_Link × Unit))) Empty (Bool × Unit))) with | Out.norm v4 => ((getI v4.1.1 v4.2.2.1.2.1).bind fun v5 => (some ((leZ (addZ .i64 v4.2.1 v4.2.2.1.2.2.2.1) v5),()))) | Out.exit v6 => none | Out.ret v7 => (some v7))))
def H_128:Hd:=⟨[y_0,y_6,y_5],[],none,.p,.bool,.p,[]⟩
def T_128:FSig:=sg_ H_128 Cg
theorem E_128:fnOf tys [(40,T_40)] Tryz.f128 H_128 = T_128:=by kernel_rfl
theorem K_128:SigOk Tryz.prog 128 T_128:=k_o E_128 ⟨K_40,trivial⟩ Tryz.func128
def Cp (x:(Aa × (Int × D_Step))) (c:Unit):(Option (Int × Unit)):=
  ((((Df (x.1,(x.2.1,())) ()).bind fun v0 => (some v0.1)):(Option Bool)).bind fun v1 => (((if (notB v1) then (some (true,(x.2.1,(x.2.2.1,(x.1,(x.2.2.2.1,())))))) else ((((Ao (x.1,()) ()).bind fun v2 => (some v2.1)):(Option Bool)).bind fun v3 => (((if (notB v3) then (some (true,(x.2.1,(x.2.2.1,(x.1,(x.2.2.2.1,())))))) else ((((As (x.1,(x.2.2.1,())) ()).bind fun v4 => (some v4.1)):(Option Bool)).bind fun v5 => (((if (notB v5) then (some (true,(x.2.1,(x.2.2.1,(x.1,(x.2.2.2.1,())))))) else ((((As (x.1,(x.2.2.2.1,())) ()).bind fun v6 => (some v6.1)):(Option Bool)).bind fun v7 => (some ((notB v7),(x.2.1,(x.2.2.1,(x.1,(x.2.2.2.1,())))))))):(Option (Bool × (Int × (Int × (Aa × (Int × Unit))))))).bind fun v8 => (some v8)))):(Option (Bool × (Int × (Int × (Aa × (Int × Unit))))))).bind fun v9 => (some v9)))):(Option (Bool × (Int × (Int × (Aa × (Int × Unit))))))).bind fun v10 => (if v10.1 then (some (0,())) else ((getI v10.2.2.2.1.2.2.2.1 v10.2.1).bind fun v11 => ((getI v10.2.2.2.1.2.1 v10.2.2.1).bind fun v12 => ((getI v11.2.1 v12.2.1).bind fun v13 => ((getI v10.2.2.2.1.2.1 v10.2.2.2.2.1).bind fun v14 => ((getI v13 v14.2.1).bind fun v15 => (some (v15,()))))))))))
def H_111:Hd:=⟨[y_0,.int .i64,.int .i64,.int .i64],[],none,.p,.int .i64,.p,[]⟩
def T_111:FSig:=sg_ H_111 Cp
theorem E_111:fnOf tys [(27,T_27),(41,T_41),(130,T_130)] Tryz.f111 H_111 = T_111:=by kernel_rfl
theorem K_111:SigOk Tryz.prog 111 T_111:=k_o E_111 ⟨K_27,K_41,K_130,trivial⟩ Tryz.func111
def Fx (x:(Aa × (Ac × (Int × D_Step)))) (c:Unit):(Option (Bool × Unit)):=
  ((((Ck (x.1,(x.2.1,(x.2.2.2.1,()))) ()).bind fun v0 => (some v0.1)):(Option D_Mode)).bind fun v1 => ((getI v1.2.1 x.2.2.1).bind fun v2 => (((if (eqZ v2 0) then (some (true,(x.1,(x.2.2.1,(x.2.2.2.2.1,(x.2.1,(x.2.2.2.1,()))))))) else ((((Ck (x.1,(x.2.1,(x.2.2.2.2.1,()))) ()).bind fun v3 => (some v3.1)):(Option D_Mode)).bind fun v4 => ((getI v4.2.1 x.2.2.1).bind fun v5 => (some ((eqZ v5 0),(x.1,(x.2.2.1,(x.2.2.2.2.1,(x.2.1,(x.2.2.2.1,())))))))))):(Option (Bool × (Aa × (Int × (Int × (Ac × (Int × Unit)))))))).bind fun v6 => (if v6.1 then (some (true,())) else ((((Ca (v6.2.1,v6.2.2.2.2) ()).bind fun v7 => (some v7.1)):(Option Int)).bind fun v8 => ((((Cp (v6.2.1,(v6.2.2.1,(v6.2.2.2.2.2.1,(v6.2.2.2.1,())))) ()).bind fun v9 => (some v9.1)):(Option Int)).bind fun v10 => ((getI v6.2.2.2.2.1.1 v6.2.2.2.1).bind fun v11 => (((if (leZ (addZ .i64 v8 v10) v11) then (some (true,())) else ((((Ca (v6.2.1,(v6.2.2.2.2.1,(v6.2.2.2.1,()))) ()).bind fun v12 => (some v12.1)):(Option Int)).bind fun v13 => ((((Cp (v6.2.1,(v6.2.2.1,(v6.2.2.2.1,(v6.2.2.2.2.2.1,())))) ()).bind fun v14 => (some v14.1)):(Option Int)).bind fun v15 => ((getI v6.2.2.2.2.1.1 v6.2.2.2.2.2.1).bind fun v16 => (some ((leZ (addZ .i64 v13 v15) v16),())))))):(Option (Bool × Unit))).bind fun v17 => (some (v17.1,()))))))))))
def H_131:Hd:=⟨[y_0,y_6,.int .i64,.int .i64,.int .i64],[],none,.p,.bool,.p,[]⟩
def T_131:FSig:=sg_ H_131 Fx
theorem E_131:fnOf tys [(40,T_40),(80,T_80),(111,T_111)] Tryz.f131 H_131 = T_131:=by kernel_rfl
theorem K_131:SigOk Tryz.prog 131 T_131:=k_o E_131 ⟨K_40,K_80,K_111,trivial⟩ Tryz.func131
abbrev J6:Type:=(Int × (Int × ((List Int) × (((Int × Unit) -> (Option Bool)) × ((List Int) × Unit)))))
def Ls:J6 -> Option (Out J6 ((Bool × J6) ⊕ Empty) ((List Int) × Unit)):=
  (fun v0 => (if (ltZ v0.1 v0.2.1) then ((getI v0.2.2.1 v0.1).bind fun v1 => ((v0.2.2.2.1 (v1,())).bind fun v2 => (((if v2 then ((addI v0.2.2.2.2.1 (v1 :: [])).bind fun v3 => (some (Out.norm (v0.1,(v0.2.1,(v0.2.2.1,(v0.2.2.2.1,(v3,())))))))) else (some (Out.norm v0))):(Option (Out (Int × (Int × ((List Int) × (((Int × Unit) -> (Option Bool)) × ((List Int) × Unit))))) Empty ((List Int) × Unit)))).bind fun v4 => (match ((match ((match v4 with | Out.norm v13 => (Out.norm v13) | Out.exit v14 => (Out.exit v14) | Out.ret v15 => (Out.ret v15)):(Out (Int × (Int × ((List Int) × (((Int × Unit) -> (Option Bool)) × ((List Int) × Unit))))) Empty ((List Int) × Unit))) with | Out.norm v10 => (Out.norm v10) | Out.exit v11 => (Out.exit v11) | Out.ret v12 => (Out.ret v12)):(Out (Int × (Int × ((List Int) × (((Int × Unit) -> (Option Bool)) × ((List Int) × Unit))))) Empty ((List Int) × Unit))) with | Out.norm v5 => (some (Out.norm ((addZ .i64 v5.1 1),v5.2))) | Out.exit v6 => (match ((Empty.elim v6):((Int × (Int × ((List Int) × (((Int × Unit) -> (Option Bool)) × ((List Int) × Unit))))) ⊕ Empty)) with | Sum.inl v7 => (some (Out.norm ((addZ .i64 v7.1 1),v7.2))) | Sum.inr v8 => (some (Out.exit (Sum.inr (Empty.elim v8))))) | Out.ret v9 => (some (Out.ret v9)))))) else (some (Out.exit (Sum.inl ((ltZ v0.1 v0.2.1),v0))))))
def M3 (x:((List Int) × (((Int × Unit) -> (Option Bool)) × Unit))) (c:Unit):(Option ((List Int) × Unit)):=
  ((loopN (A:=J6) big Ls (0,((lenI x.1),(x.1,(x.2.1,([],())))))).bind fun v16 => (match v16 with | Out.norm v17 => none | Out.exit v18 => (match ((match v18 with | Sum.inl v21 => (Sum.inl (v21.2.2.2.2.2.1,())) | Sum.inr v22 => (Empty.elim v22)):(((List Int) × Unit) ⊕ Empty)) with | Sum.inl v19 => (some (v19.1,())) | Sum.inr v20 => none) | Out.ret v23 => (some v23)))
def H_138:Hd:=⟨[.sl 3 (.int .i64),.fn [.int .i64] (.bool)],[],none,.p,.sl 3 (.int .i64),(Ty.all (.sl 3 (.int .i64))),[]⟩
def T_138:FSig:=sg_ H_138 M3
theorem E_138:fnOf tys [] Tryz.f138 H_138 = T_138:=by kernel_rfl
theorem K_138:SigOk Tryz.prog 138 T_138:=k_o E_138 trivial Tryz.func138
def Fy (x:(Int × Unit)) (c:(Ac × (Int × (Aa × Unit)))):(Option (Bool × Unit)):=
  ((getI c.1.1 x.1).bind fun v0 => (((if (leZ v0 c.2.1) then ((((Ca (c.2.2.1,(c.1,(x.1,()))) ()).bind fun v1 => (some v1.1)):(Option Int)).bind fun v2 => (some ((ltZ c.2.1 v2),()))) else (some (false,()))):(Option (Bool × Unit))).bind fun v3 => (some (v3.1,()))))
def H_156:Hd:=⟨[.int .i64],[y_6,.int .i64,y_0],none,.p,.bool,.p,[]⟩
def T_156:FSig:=sg_ H_156 Fy
theorem E_156:fnOf tys [(40,T_40)] Tryz.f156 H_156 = T_156:=by kernel_rfl
theorem K_156:SigOk Tryz.prog 156 T_156:=k_o E_156 ⟨K_40,trivial⟩ Tryz.func156
def Ev (x:(Aa × (Ac × (Int × Unit)))) (c:Unit):(Option ((List Int) × Unit)):=
  ((((Fj ((lenI x.1.2.1),()) ()).bind fun v0 => (some v0.1)):(Option (List Int))).bind fun v1 => ((((M3 (v1,((fun v2 => ((Fy v2 (x.2.1,(x.2.2.1,(x.1,())))).bind fun v3 => (some v3.1))),())) ()).bind fun v4 => (some v4.1)):(Option (List Int))).bind fun v5 => (some (v5,()))))
def H_150:Hd:=⟨[y_0,y_6,.int .i64],[],none,.p,.sl 3 (.int .i64),(Ty.all (.sl 3 (.int .i64))),[]⟩
def T_150:FSig:=sg_ H_150 Ev
theorem E_150:fnOf tys [(22,T_22),(138,T_138),(156,T_156)] Tryz.f150 H_150 = T_150:=by kernel_rfl
theorem K_150:SigOk Tryz.prog 150 T_150:=k_o E_150 ⟨K_22,K_138,K_156,trivial⟩ Tryz.func150
abbrev Db:Type:=(Int × (Int × ((List Int) × (Aa × (Ac × D_Step)))))
def Eh:Db -> Option (Out Db ((Bool × Db) ⊕ Empty) (Int × Unit)):=
  (fun v2 => (if (ltZ v2.1 v2.2.1) then ((((getI v2.2.2.1 v2.1).bind fun v3 => (some ())):(Option Unit)).bind fun v4 => ((((getI v2.2.2.1 v2.1).bind fun v5 => (some v5)):(Option Int)).bind fun v6 => ((((Ck (v2.2.2.2.1,(v2.2.2.2.2.1,(v6,()))) ()).bind fun v7 => (some v7.1)):(Option D_Mode)).bind fun v8 => ((getI v8.2.1 v2.2.2.2.2.2.1).bind fun v9 => (some (Out.norm ((addZ .i64 v2.1 1),(v2.2.1,(v2.2.2.1,(v2.2.2.2.1,(v2.2.2.2.2.1,(v2.2.2.2.2.2.1,((addZ .i64 v2.2.2.2.2.2.2.1 v9),()))))))))))))) else (some (Out.exit (Sum.inl ((ltZ v2.1 v2.2.1),v2))))))
def Eb (x:(Aa × (Ac × D_Step))) (c:Unit):(Option (Int × Unit)):=
  ((((Ev (x.1,(x.2.1,(x.2.2.2.1,()))) ()).bind fun v0 => (some v0.1)):(Option (List Int))).bind fun v1 => ((loopN (A:=Db) big Eh (0,((lenI v1),(v1,(x.1,(x.2.1,(x.2.2.1,(0,())))))))).bind fun v10 => (match v10 with | Out.norm v11 => none | Out.exit v12 => (match ((match v12 with | Sum.inl v15 => (Sum.inl (v15.2.2.2.2.2.2.2.1,())) | Sum.inr v16 => (Empty.elim v16)):((Int × Unit) ⊕ Empty)) with | Sum.inl v13 => (some (v13.1,())) | Sum.inr v14 => none) | Out.ret v17 => (some v17))))
def H_132:Hd:=⟨[y_0,y_6,.int .i64,.int .i64],[],none,.p,.int .i64,.p,[]⟩
def T_132:FSig:=sg_ H_132 Eb
theorem E_132:fnOf tys [(80,T_80),(150,T_150)] Tryz.f132 H_132 = T_132:=by kernel_rfl
theorem K_132:SigOk Tryz.prog 132 T_132:=k_o E_132 ⟨K_80,K_150,trivial⟩ Tryz.func132
abbrev Ce:Type:=(Int × (Int × (Aa × (Ac × D_Step))))
def Ma:Ce -> Option (Out Ce ((Bool × Ce) ⊕ Empty) (Int × Unit)):=
  (fun v0 => (if (ltZ v0.1 v0.2.1) then ((((Eb (v0.2.2.1,(v0.2.2.2.1,(v0.2.2.2.2.1,(v0.1,())))) ()).bind fun v1 => (some v1.1)):(Option Int)).bind fun v2 => (some (Out.norm ((addZ .i64 v0.1 1),(v0.2.1,(v0.2.2.1,(v0.2.2.2.1,(v0.2.2.2.2.1,((addZ .i64 v0.2.2.2.2.2.1 v2),()))))))))) else (some (Out.exit (Sum.inl ((ltZ v0.1 v0.2.1),v0))))))
def Kh (x:(Aa × (Ac × (Int × D_Step)))) (c:Unit):(Option (Int × Unit)):=
  ((loopN (A:=Ce) big Ma (x.2.2.2.1,(x.2.2.2.2.1,(x.1,(x.2.1,(x.2.2.1,(0,()))))))).bind fun v3 => (match v3 with | Out.norm v4 => none | Out.exit v5 => (match ((match v5 with | Sum.inl v8 => (Sum.inl (v8.2.2.2.2.2.2.1,())) | Sum.inr v9 => (Empty.elim v9)):((Int × Unit) ⊕ Empty)) with | Sum.inl v6 => (some (v6.1,())) | Sum.inr v7 => none) | Out.ret v10 => (some v10)))
def H_133:Hd:=⟨[y_0,y_6,.int .i64,.int .i64,.int .i64],[],none,.p,.int .i64,.p,[]⟩
def T_133:FSig:=sg_ H_133 Kh
theorem E_133:fnOf tys [(132,T_132)] Tryz.f133 H_133 = T_133:=by kernel_rfl
theorem K_133:SigOk Tryz.prog 133 T_133:=k_o E_133 ⟨K_132,trivial⟩ Tryz.func133
def Ec (x:(Aa × (Int × Unit))) (c:Unit):(Option (Bool × Unit)):=
  ((((A0 (x.2.1,(0,((subZ .i64 (lenI x.1.2.2.2.2.1) 1),()))) ()).bind fun v0 => (some v0.1)):(Option Bool)).bind fun v1 => (some (v1,())))
def H_151:Hd:=⟨[y_0,.int .i64],[],none,.p,.bool,.p,[]⟩
def T_151:FSig:=sg_ H_151 Ec
theorem E_151:fnOf tys [(32,T_32)] Tryz.f151 H_151 = T_151:=by kernel_rfl
theorem K_151:SigOk Tryz.prog 151 T_151:=k_o E_151 ⟨K_32,trivial⟩ Tryz.func151
abbrev C3:Type:=(Int × (Int × (Aa × (Ac × D_Step))))
def Kr:C3 -> Option (Out C3 ((Bool × C3) ⊕ Empty) (Int × Unit)):=
  (fun v5 => (if (ltZ v5.1 v5.2.1) then ((((Ck (v5.2.2.1,(v5.2.2.2.1,(v5.1,()))) ()).bind fun v6 => (some v6.1)):(Option D_Mode)).bind fun v7 => ((getI v7.2.2.1 v5.2.2.2.2.1).bind fun v8 => (some (Out.norm ((addZ .i64 v5.1 1),(v5.2.1,(v5.2.2.1,(v5.2.2.2.1,(v5.2.2.2.2.1,((addZ .i64 v5.2.2.2.2.2.1 v8),())))))))))) else (some (Out.exit (Sum.inl ((ltZ v5.1 v5.2.1),v5))))))
def Gh (x:(Aa × (Ac × (Int × Unit)))) (c:Unit):(Option (Int × Unit)):=
  ((((Cj (x.1,(x.2.1,())) ()).bind fun v0 => (some v0.1)):(Option Bool)).bind fun v1 => (((if (notB v1) then (some (true,x)) else ((((Ec (x.1,(x.2.2.1,())) ()).bind fun v2 => (some v2.1)):(Option Bool)).bind fun v3 => (some ((notB v3),x)))):(Option (Bool × (Aa × (Ac × (Int × Unit)))))).bind fun v4 => (if v4.1 then (some (0,())) else ((loopN (A:=C3) big Kr (0,((lenI v4.2.1.2.1),(v4.2.1,(v4.2.2.1,(v4.2.2.2.1,(0,()))))))).bind fun v9 => (match v9 with | Out.norm v10 => none | Out.exit v11 => (match ((match v11 with | Sum.inl v14 => (Sum.inl (v14.2.2.2.2.2.2.1,())) | Sum.inr v15 => (Empty.elim v15)):((Int × Unit) ⊕ Empty)) with | Sum.inl v12 => (some (v12.1,())) | Sum.inr v13 => none) | Out.ret v16 => (some v16))))))
def H_134:Hd:=⟨[y_0,y_6,.int .i64],[],none,.p,.int .i64,.p,[]⟩
def T_134:FSig:=sg_ H_134 Gh
theorem E_134:fnOf tys [(39,T_39),(80,T_80),(151,T_151)] Tryz.f134 H_134 = T_134:=by kernel_rfl
theorem K_134:SigOk Tryz.prog 134 T_134:=k_o E_134 ⟨K_39,K_80,K_151,trivial⟩ Tryz.func134
def At (x:(Aa × (Ac × (D_Rule × Unit)))) (c:Unit):(Option (Bool × Unit)):=
  (if (eqZ x.2.2.1.1 1) then ((getI x.1.2.2.1 x.2.2.1.2.1).bind fun v0 => ((((Cg (x.1,(x.2.1,(v0,()))) ()).bind fun v1 => (some v1.1)):(Option Bool)).bind fun v2 => (some (v2,())))) else (if (eqZ x.2.2.1.1 2) then ((((Ca (x.1,(x.2.1,(x.2.2.1.2.1,()))) ()).bind fun v3 => (some v3.1)):(Option Int)).bind fun v4 => (some ((leZ v4 x.1.1),()))) else (if (eqZ x.2.2.1.1 3) then ((((Eb (x.1,(x.2.1,(x.2.2.1.2.1,(x.2.2.1.2.2.1,())))) ()).bind fun v5 => (some v5.1)):(Option Int)).bind fun v6 => ((getI x.1.2.2.2.1 x.2.2.1.2.1).bind fun v7 => ((((I5 (v7.1,(x.2.2.1.2.2.1,())) ()).bind fun v8 => (some v8.1)):(Option Int)).bind fun v9 => (some ((leZ v6 v9),()))))) else (if (eqZ x.2.2.1.1 4) then ((((Kh (x.1,(x.2.1,x.2.2.1.2)) ()).bind fun v10 => (some v10.1)):(Option Int)).bind fun v11 => ((getI x.1.2.2.2.1 x.2.2.1.2.1).bind fun v12 => ((((Cu (v12.1,x.2.2.1.2.2) ()).bind fun v13 => (some v13.1)):(Option Int)).bind fun v14 => (some ((leZ v11 v14),()))))) else (if (eqZ x.2.2.1.1 5) then ((((Fx (x.1,(x.2.1,x.2.2.1.2)) ()).bind fun v15 => (some v15.1)):(Option Bool)).bind fun v16 => (some (v16,()))) else ((((Gh (x.1,(x.2.1,(x.2.2.1.2.1,()))) ()).bind fun v17 => (some v17.1)):(Option Int)).bind fun v18 => ((getI x.1.2.2.2.2.1 x.2.2.1.2.1).bind fun v19 => (some ((leZ v18 v19),())))))))))
def H_96:Hd:=⟨[y_0,y_6,.st [.int .i64,.int .i64,.int .i64,.int .i64]],[],none,.p,.bool,.p,[]⟩
def T_96:FSig:=sg_ H_96 At
theorem E_96:fnOf tys [(40,T_40),(82,T_82),(109,T_109),(128,T_128),(131,T_131),(132,T_132),(133,T_133),(134,T_134)] Tryz.f96 H_96 = T_96:=by kernel_rfl
theorem K_96:SigOk Tryz.prog 96 T_96:=k_o E_96 ⟨K_40,K_82,K_109,K_128,K_131,K_132,K_133,K_134,trivial⟩ Tryz.func96
abbrev De:Type:=(Int × (Int × ((List D_Rule) × (Aa × (Ac × ((List D_Rule) × Unit))))))
def D8:De -> Option (Out De ((Bool × De) ⊕ Empty) ((List D_Rule) × Unit)):=
  (fun v4 => (if (ltZ v4.1 v4.2.1) then ((((getI v4.2.2.1 v4.1).bind fun v5 => (some ())):(Option Unit)).bind fun v6 => ((((getI v4.2.2.1 v4.1).bind fun v7 => (some v7)):(Option D_Rule)).bind fun v8 => ((((At (v4.2.2.2.1,(v4.2.2.2.2.1,(v8,()))) ()).bind fun v9 => (some v9.1)):(Option Bool)).bind fun v10 => (((if (notB v10) then ((addI v4.2.2.2.2.2.1 (v8 :: [])).bind fun v11 => (some (Out.norm (v4.1,(v4.2.1,(v4.2.2.1,(v4.2.2.2.1,(v4.2.2.2.2.1,(v11,()))))))))) else (some (Out.norm v4))):(Option (Out (Int × (Int × ((List D_Rule) × (Aa × (Ac × ((List D_Rule) × Unit)))))) Empty ((List D_Rule) × Unit)))).bind fun v12 => (match ((match ((match v12 with | Out.norm v21 => (Out.norm v21) | Out.exit v22 => (Out.exit v22) | Out.ret v23 => (Out.ret v23)):(Out (Int × (Int × ((List D_Rule) × (Aa × (Ac × ((List D_Rule) × Unit)))))) Empty ((List D_Rule) × Unit))) with | Out.norm v18 => (Out.norm v18) | Out.exit v19 => (Out.exit v19) | Out.ret v20 => (Out.ret v20)):(Out (Int × (Int × ((List D_Rule) × (Aa × (Ac × ((List D_Rule) × Unit)))))) Empty ((List D_Rule) × Unit))) with | Out.norm v13 => (some (Out.norm ((addZ .i64 v13.1 1),v13.2))) | Out.exit v14 => (match ((Empty.elim v14):((Int × (Int × ((List D_Rule) × (Aa × (Ac × ((List D_Rule) × Unit)))))) ⊕ Empty)) with | Sum.inl v15 => (some (Out.norm ((addZ .i64 v15.1 1),v15.2))) | Sum.inr v16 => (some (Out.exit (Sum.inr (Empty.elim v16))))) | Out.ret v17 => (some (Out.ret v17))))))) else (some (Out.exit (Sum.inl ((ltZ v4.1 v4.2.1),v4))))))
def Gl (x:(Aa × (Ac × Unit))) (c:Unit):(Option ((List D_Rule) × Unit)):=
  ((((Cj x ()).bind fun v0 => (some v0.1)):(Option Bool)).bind fun v1 => (if (notB v1) then (some ([],())) else ((((Gj (x.1,()) ()).bind fun v2 => (some v2.1)):(Option (List D_Rule))).bind fun v3 => ((loopN (A:=De) big D8 (0,((lenI v3),(v3,(x.1,(x.2.1,([],()))))))).bind fun v24 => (match v24 with | Out.norm v25 => none | Out.exit v26 => (match ((match v26 with | Sum.inl v29 => (Sum.inl (v29.2.2.2.2.2.2.1,())) | Sum.inr v30 => (Empty.elim v30)):(((List D_Rule) × Unit) ⊕ Empty)) with | Sum.inl v27 => (some (v27.1,())) | Sum.inr v28 => none) | Out.ret v31 => (some v31))))))
def H_61:Hd:=⟨[y_0,y_6],[],none,.p,.sl 126 (.st [.int .i64,.int .i64,.int .i64,.int .i64]),(Ty.all (.sl 126 (.st [.int .i64,.int .i64,.int .i64,.int .i64]))),[]⟩
def T_61:FSig:=sg_ H_61 Gl
theorem E_61:fnOf tys [(39,T_39),(95,T_95),(96,T_96)] Tryz.f61 H_61 = T_61:=by kernel_rfl
theorem K_61:SigOk Tryz.prog 61 T_61:=k_o E_61 ⟨K_39,K_95,K_96,trivial⟩ Tryz.func61
def Jb (x:(Aa × (Ac × Unit))) (c:Unit):(Option (Bool × Unit)):=
  ((((Cj x ()).bind fun v0 => (some v0.1)):(Option Bool)).bind fun v1 => (((if v1 then ((((Gl x ()).bind fun v2 => (some v2.1)):(Option (List D_Rule))).bind fun v3 => (some ((eqZ (lenI v3) 0),()))) else (some (false,()))):(Option (Bool × Unit))).bind fun v4 => (some (v4.1,()))))
def H_25:Hd:=⟨[y_0,y_6],[],none,.p,.bool,.p,[]⟩
def T_25:FSig:=sg_ H_25 Jb
theorem E_25:fnOf tys [(39,T_39),(61,T_61)] Tryz.f25 H_25 = T_25:=by kernel_rfl
theorem K_25:SigOk Tryz.prog 25 T_25:=k_o E_25 ⟨K_39,K_61,trivial⟩ Tryz.func25
abbrev Dv:Type:=(Int × (Int × ((List Int) × (Int × (Int × ((List (List Int)) × (Ad × ((List (List Int)) × (Int × (Int × ((List Ad) × Unit)))))))))))
def E1:Dv -> Option (Out Dv ((Bool × Dv) ⊕ Empty) ((List (List Int)) × Unit)):=
  (fun v6 => (if (ltZ v6.1 v6.2.1) then ((((Am (v6.2.2.1,()) ()).bind fun v7 => (some v7.1)):(Option (List Int))).bind fun v8 => ((addI v8 (v6.1 :: [])).bind fun v9 => ((addI v6.2.2.2.2.2.2.2.1 (v9 :: [])).bind fun v10 => (some (Out.norm ((addZ .i64 v6.1 1),(v6.2.1,(v6.2.2.1,(v6.2.2.2.1,(v6.2.2.2.2.1,(v6.2.2.2.2.2.1,(v6.2.2.2.2.2.2.1,(v10,v6.2.2.2.2.2.2.2.2))))))))))))) else (some (Out.exit (Sum.inl ((ltZ v6.1 v6.2.1),v6))))))
abbrev Du:Type:=(Int × (Int × ((List (List Int)) × (Ad × ((List (List Int)) × (Int × (Int × ((List Ad) × Unit))))))))
def E3:Du -> Option (Out Du ((Bool × Du) ⊕ Empty) ((List (List Int)) × Unit)):=
  (fun v4 => (if (ltZ v4.1 v4.2.1) then ((getI v4.2.2.1 v4.1).bind fun v5 => ((loopN (A:=Dv) big E1 (0,((lenI v4.2.2.2.1.2.2.1),(v5,v4)))).bind fun v11 => (match v11 with | Out.norm v12 => none | Out.exit v13 => (match ((match v13 with | Sum.inl v18 => (Sum.inl v18.2.2.2.2) | Sum.inr v19 => (Empty.elim v19)):((Int × (Int × ((List (List Int)) × (Ad × ((List (List Int)) × (Int × (Int × ((List Ad) × Unit)))))))) ⊕ Empty)) with | Sum.inl v14 => (some (Out.norm ((addZ .i64 v14.1 1),v14.2))) | Sum.inr v15 => (match ((Empty.elim v15):((Int × (Int × ((List (List Int)) × (Ad × ((List (List Int)) × (Int × (Int × ((List Ad) × Unit)))))))) ⊕ Empty)) with | Sum.inl v16 => (some (Out.norm ((addZ .i64 v16.1 1),v16.2))) | Sum.inr v17 => (some (Out.exit (Sum.inr (Empty.elim v17)))))) | Out.ret v20 => (some (Out.ret v20))))) else (some (Out.exit (Sum.inl ((ltZ v4.1 v4.2.1),v4))))))
abbrev Dq:Type:=(Int × (Int × ((List Ad) × ((List (List Int)) × Unit))))
def Cz:Dq -> Option (Out Dq ((Bool × Dq) ⊕ Empty) ((List (List Int)) × Unit)):=
  (fun v2 => (if (ltZ v2.1 v2.2.1) then ((getI v2.2.2.1 v2.1).bind fun v3 => ((loopN (A:=Du) big E3 (0,((lenI v2.2.2.2.1),(v2.2.2.2.1,(v3,([],(v2.1,(v2.2.1,(v2.2.2.1,()))))))))).bind fun v21 => (match v21 with | Out.norm v22 => none | Out.exit v23 => (match ((match v23 with | Sum.inl v28 => (Sum.inl v28.2.2.2.2.2) | Sum.inr v29 => (Empty.elim v29)):(((List (List Int)) × (Int × (Int × ((List Ad) × Unit)))) ⊕ Empty)) with | Sum.inl v24 => (some (Out.norm ((addZ .i64 v24.2.1 1),(v24.2.2.1,(v24.2.2.2.1,(v24.1,())))))) | Sum.inr v25 => (match ((Empty.elim (Empty.elim v25)):((Int × (Int × ((List Ad) × ((List (List Int)) × Unit)))) ⊕ Empty)) with | Sum.inl v26 => (some (Out.norm ((addZ .i64 v26.1 1),v26.2))) | Sum.inr v27 => (some (Out.exit (Sum.inr (Empty.elim v27)))))) | Out.ret v30 => (some (Out.ret v30))))) else (some (Out.exit (Sum.inl ((ltZ v2.1 v2.2.1),v2))))))
def Ha (x:(Aa × Unit)) (c:Unit):(Option ((List (List Int)) × Unit)):=
  ((((Ao (x.1,()) ()).bind fun v0 => (some v0.1)):(Option Bool)).bind fun v1 => (if (notB v1) then (some ([],())) else ((loopN (A:=Dq) big Cz (0,((lenI x.1.2.1),(x.1.2.1,(([] :: []),()))))).bind fun v31 => (match v31 with | Out.norm v32 => none | Out.exit v33 => (match ((match v33 with | Sum.inl v36 => (Sum.inl (v36.2.2.2.2.1,())) | Sum.inr v37 => (Empty.elim v37)):(((List (List Int)) × Unit) ⊕ Empty)) with | Sum.inl v34 => (some (v34.1,())) | Sum.inr v35 => none) | Out.ret v38 => (some v38)))))
def H_33:Hd:=⟨[y_0],[],none,.p,.sl 26 (.sl 3 (.int .i64)),(Ty.all (.sl 26 (.sl 3 (.int .i64)))),[(999999,.p),(900003,.p)]⟩
def T_33:FSig:=sg_ H_33 Ha
theorem E_33:fnOf tys [(27,T_27),(49,T_49)] Tryz.f33 H_33 = T_33:=by kernel_rfl
theorem K_33:SigOk Tryz.prog 33 T_33:=k_o E_33 ⟨K_27,K_49,trivial⟩ Tryz.func33
abbrev Et:Type:=(Int × (Int × ((List Int) × (Int × (Int × ((List (List Int)) × ((List (List Int)) × (Int × D_Step))))))))
def Gc:Et -> Option (Out Et ((Bool × Et) ⊕ Empty) ((List (List Int)) × Unit)):=
  (fun v3 => (if (ltZ v3.1 v3.2.1) then ((((Am (v3.2.2.1,()) ()).bind fun v4 => (some v4.1)):(Option (List Int))).bind fun v5 => ((addI v5 (v3.1 :: [])).bind fun v6 => ((addI v3.2.2.2.2.2.2.1 (v6 :: [])).bind fun v7 => (some (Out.norm ((addZ .i64 v3.1 1),(v3.2.1,(v3.2.2.1,(v3.2.2.2.1,(v3.2.2.2.2.1,(v3.2.2.2.2.2.1,(v7,v3.2.2.2.2.2.2.2)))))))))))) else (some (Out.exit (Sum.inl ((ltZ v3.1 v3.2.1),v3))))))
abbrev Ep:Type:=(Int × (Int × ((List (List Int)) × ((List (List Int)) × (Int × D_Step)))))
def Gb:Ep -> Option (Out Ep ((Bool × Ep) ⊕ Empty) ((List (List Int)) × Unit)):=
  (fun v1 => (if (ltZ v1.1 v1.2.1) then ((getI v1.2.2.1 v1.1).bind fun v2 => ((loopN (A:=Et) big Gc (0,((addZ .i64 v1.2.2.2.2.2.2.1 1),(v2,v1)))).bind fun v8 => (match v8 with | Out.norm v9 => none | Out.exit v10 => (match ((match v10 with | Sum.inl v15 => (Sum.inl v15.2.2.2.2) | Sum.inr v16 => (Empty.elim v16)):((Int × (Int × ((List (List Int)) × ((List (List Int)) × (Int × D_Step))))) ⊕ Empty)) with | Sum.inl v11 => (some (Out.norm ((addZ .i64 v11.1 1),v11.2))) | Sum.inr v12 => (match ((Empty.elim v12):((Int × (Int × ((List (List Int)) × ((List (List Int)) × (Int × D_Step))))) ⊕ Empty)) with | Sum.inl v13 => (some (Out.norm ((addZ .i64 v13.1 1),v13.2))) | Sum.inr v14 => (some (Out.exit (Sum.inr (Empty.elim v14)))))) | Out.ret v17 => (some (Out.ret v17))))) else (some (Out.exit (Sum.inl ((ltZ v1.1 v1.2.1),v1))))))
abbrev Ey:Type:=(Int × (Int × (Int × ((List (List Int)) × Unit))))
def F8:Ey -> Option (Out Ey ((Bool × Ey) ⊕ Empty) ((List (List Int)) × Unit)):=
  (fun v0 => (if (ltZ v0.1 v0.2.1) then ((loopN (A:=Ep) big Gb (0,((lenI v0.2.2.2.1),(v0.2.2.2.1,([],(v0.1,(v0.2.1,(v0.2.2.1,())))))))).bind fun v18 => (match v18 with | Out.norm v19 => none | Out.exit v20 => (match ((match v20 with | Sum.inl v25 => (Sum.inl v25.2.2.2.2) | Sum.inr v26 => (Empty.elim v26)):(((List (List Int)) × (Int × D_Step)) ⊕ Empty)) with | Sum.inl v21 => (some (Out.norm ((addZ .i64 v21.2.1 1),(v21.2.2.1,(v21.2.2.2.1,(v21.1,())))))) | Sum.inr v22 => (match ((Empty.elim (Empty.elim v22)):((Int × (Int × (Int × ((List (List Int)) × Unit)))) ⊕ Empty)) with | Sum.inl v23 => (some (Out.norm ((addZ .i64 v23.1 1),v23.2))) | Sum.inr v24 => (some (Out.exit (Sum.inr (Empty.elim v24)))))) | Out.ret v27 => (some (Out.ret v27)))) else (some (Out.exit (Sum.inl ((ltZ v0.1 v0.2.1),v0))))))
def Iw (x:D_Step) (c:Unit):(Option ((List (List Int)) × Unit)):=
  ((loopN (A:=Ey) big F8 (0,(x.1,(x.2.1,(([] :: []),()))))).bind fun v28 => (match v28 with | Out.norm v29 => none | Out.exit v30 => (match ((match v30 with | Sum.inl v33 => (Sum.inl (v33.2.2.2.2.1,())) | Sum.inr v34 => (Empty.elim v34)):(((List (List Int)) × Unit) ⊕ Empty)) with | Sum.inl v31 => (some (v31.1,())) | Sum.inr v32 => none) | Out.ret v35 => (some v35)))
def H_34:Hd:=⟨[.int .i64,.int .i64],[],none,.p,.sl 26 (.sl 3 (.int .i64)),.p,[(3,.p),(5,.p)]⟩
def T_34:FSig:=sg_ H_34 Iw
theorem E_34:fnOf tys [(49,T_49)] Tryz.f34 H_34 = T_34:=by kernel_rfl
theorem K_34:SigOk Tryz.prog 34 T_34:=k_o E_34 ⟨K_49,trivial⟩ Tryz.func34
def Er (x:(Ac × Unit)) (c:Unit):(Option (Ac × Unit)):=
  ((((Am (x.1.1,()) ()).bind fun v0 => (some v0.1)):(Option (List Int))).bind fun v1 => ((((Am (x.1.2.1,()) ()).bind fun v2 => (some v2.1)):(Option (List Int))).bind fun v3 => (some ((v1,(v3,())),()))))
def H_35:Hd:=⟨[y_6],[],none,.p,y_6,(Ty.all (y_6)),[]⟩
def T_35:FSig:=sg_ H_35 Er
theorem E_35:fnOf tys [(49,T_49)] Tryz.f35 H_35 = T_35:=by kernel_rfl
theorem K_35:SigOk Tryz.prog 35 T_35:=k_o E_35 ⟨K_49,trivial⟩ Tryz.func35
abbrev Dx:Type:=(Int × (Int × ((List (List Int)) × ((List Int) × (Int × (Int × ((List (List Int)) × (Int × (Aa × ((List Ac) × Unit))))))))))
def Cy:Dx -> Option (Out Dx ((Bool × Dx) ⊕ Empty) ((List Ac) × Unit)):=
  (fun v12 => (if (ltZ v12.1 v12.2.1) then ((getI v12.2.2.1 v12.1).bind fun v13 => ((((Jb (v12.2.2.2.2.2.2.2.2.1,((v13,(v12.2.2.2.1,())),())) ()).bind fun v14 => (some v14.1)):(Option Bool)).bind fun v15 => (((if v15 then ((((Er ((v13,(v12.2.2.2.1,())),()) ()).bind fun v16 => (some v16.1)):(Option Ac)).bind fun v17 => ((addI v12.2.2.2.2.2.2.2.2.2.1 (v17 :: [])).bind fun v18 => (some (Out.norm (v12.1,(v12.2.1,(v12.2.2.1,(v12.2.2.2.1,(v12.2.2.2.2.1,(v12.2.2.2.2.2.1,(v12.2.2.2.2.2.2.1,(v12.2.2.2.2.2.2.2.1,(v12.2.2.2.2.2.2.2.2.1,(v18,())))))))))))))) else (some (Out.norm v12))):(Option (Out (Int × (Int × ((List (List Int)) × ((List Int) × (Int × (Int × ((List (List Int)) × (Int × (Aa × ((List Ac) × Unit)))))))))) Empty ((List Ac) × Unit)))).bind fun v19 => (match ((match ((match ((match v19 with | Out.norm v31 => (Out.norm v31) | Out.exit v32 => (Out.exit v32) | Out.ret v33 => (Out.ret v33)):(Out (Int × (Int × ((List (List Int)) × ((List Int) × (Int × (Int × ((List (List Int)) × (Int × (Aa × ((List Ac) × Unit)))))))))) Empty ((List Ac) × Unit))) with | Out.norm v28 => (Out.norm v28) | Out.exit v29 => (Out.exit v29) | Out.ret v30 => (Out.ret v30)):(Out (Int × (Int × ((List (List Int)) × ((List Int) × (Int × (Int × ((List (List Int)) × (Int × (Aa × ((List Ac) × Unit)))))))))) Empty ((List Ac) × Unit))) with | Out.norm v25 => (Out.norm v25) | Out.exit v26 => (Out.exit v26) | Out.ret v27 => (Out.ret v27)):(Out (Int × (Int × ((List (List Int)) × ((List Int) × (Int × (Int × ((List (List Int)) × (Int × (Aa × ((List Ac) × Unit)))))))))) Empty ((List Ac) × Unit))) with | Out.norm v20 => (some (Out.norm ((addZ .i64 v20.1 1),v20.2))) | Out.exit v21 => (match ((Empty.elim v21):((Int × (Int × ((List (List Int)) × ((List Int) × (Int × (Int × ((List (List Int)) × (Int × (Aa × ((List Ac) × Unit)))))))))) ⊕ Empty)) with | Sum.inl v22 => (some (Out.norm ((addZ .i64 v22.1 1),v22.2))) | Sum.inr v23 => (some (Out.exit (Sum.inr (Empty.elim v23))))) | Out.ret v24 => (some (Out.ret v24)))))) else (some (Out.exit (Sum.inl ((ltZ v12.1 v12.2.1),v12))))))
abbrev Ds:Type:=(Int × (Int × ((List (List Int)) × (Int × (Aa × ((List Ac) × Unit))))))
def Em:Ds -> Option (Out Ds ((Bool × Ds) ⊕ Empty) ((List Ac) × Unit)):=
  (fun v8 => (if (ltZ v8.1 v8.2.1) then ((getI v8.2.2.1 v8.1).bind fun v9 => ((((Iw ((lenI v8.2.2.2.2.1.2.1),(v8.2.2.2.1,())) ()).bind fun v10 => (some v10.1)):(Option (List (List Int)))).bind fun v11 => ((loopN (A:=Dx) big Cy (0,((lenI v11),(v11,(v9,v8))))).bind fun v34 => (match v34 with | Out.norm v35 => none | Out.exit v36 => (match ((match v36 with | Sum.inl v41 => (Sum.inl v41.2.2.2.2.2) | Sum.inr v42 => (Empty.elim v42)):((Int × (Int × ((List (List Int)) × (Int × (Aa × ((List Ac) × Unit)))))) ⊕ Empty)) with | Sum.inl v37 => (some (Out.norm ((addZ .i64 v37.1 1),v37.2))) | Sum.inr v38 => (match ((Empty.elim v38):((Int × (Int × ((List (List Int)) × (Int × (Aa × ((List Ac) × Unit)))))) ⊕ Empty)) with | Sum.inl v39 => (some (Out.norm ((addZ .i64 v39.1 1),v39.2))) | Sum.inr v40 => (some (Out.exit (Sum.inr (Empty.elim v40)))))) | Out.ret v43 => (some (Out.ret v43)))))) else (some (Out.exit (Sum.inl ((ltZ v8.1 v8.2.1),v8))))))
def Fc (x:(Aa × (Int × Unit))) (c:Unit):(Option ((List Ac) × Unit)):=
  ((((Ao (x.1,()) ()).bind fun v0 => (some v0.1)):(Option Bool)).bind fun v1 => (((if (notB v1) then (some (true,(x.2.1,(x.1,())))) else (((if (ltZ 3 (lenI x.1.2.1)) then (some (true,(x.2.1,(x.1,())))) else ((((A0 (x.2.1,(0,(12,()))) ()).bind fun v2 => (some v2.1)):(Option Bool)).bind fun v3 => (some ((notB v3),(x.2.1,(x.1,())))))):(Option (Bool × (Int × (Aa × Unit))))).bind fun v4 => (some v4))):(Option (Bool × (Int × (Aa × Unit))))).bind fun v5 => (if v5.1 then (some ([],())) else ((((Ha (v5.2.2.1,()) ()).bind fun v6 => (some v6.1)):(Option (List (List Int)))).bind fun v7 => ((loopN (A:=Ds) big Em (0,((lenI v7),(v7,(v5.2.1,(v5.2.2.1,([],()))))))).bind fun v44 => (match v44 with | Out.norm v45 => none | Out.exit v46 => (match ((match v46 with | Sum.inl v49 => (Sum.inl (v49.2.2.2.2.2.2.1,())) | Sum.inr v50 => (Empty.elim v50)):(((List Ac) × Unit) ⊕ Empty)) with | Sum.inl v47 => (some (v47.1,())) | Sum.inr v48 => none) | Out.ret v51 => (some v51)))))))
def H_7:Hd:=⟨[y_0,.int .i64],[],none,.p,.sl 35 (y_6),(Ty.all (.sl 35 (y_6))),[(27,.p)]⟩
def T_7:FSig:=sg_ H_7 Fc
theorem E_7:fnOf tys [(25,T_25),(27,T_27),(32,T_32),(33,T_33),(34,T_34),(35,T_35)] Tryz.f7 H_7 = T_7:=by kernel_rfl
theorem K_7:SigOk Tryz.prog 7 T_7:=k_o E_7 ⟨K_25,K_27,K_32,K_33,K_34,K_35,trivial⟩ Tryz.func7
def Bl (x:(Aa × (Int × Unit))) (c:Unit):(Option (Int × Unit)):=
  ((getI x.1.2.1 x.2.1).bind fun v0 => ((getI x.1.2.1 x.2.1).bind fun v1 => ((((Cd (v1,()) ()).bind fun v2 => (some v2.1)):(Option (List Int))).bind fun v3 => ((((D4 (v0,(v3,())) ()).bind fun v4 => (some v4.1)):(Option Int)).bind fun v5 => (some (v5,()))))))
def H_38:Hd:=⟨[y_0,.int .i64],[],none,.p,.int .i64,.p,[]⟩
def T_38:FSig:=sg_ H_38 Bl
theorem E_38:fnOf tys [(77,T_77),(78,T_78)] Tryz.f38 H_38 = T_38:=by kernel_rfl
theorem K_38:SigOk Tryz.prog 38 T_38:=k_o E_38 ⟨K_77,K_78,trivial⟩ Tryz.func38
abbrev Dp:Type:=(Int × (Int × ((List Int) × (Bool × ((List Int) × (Int × (Int × (Int × ((List (List Int)) × (Int × (Aa × Unit)))))))))))
def B8:Dp -> Option (Out Dp ((Bool × Dp) ⊕ Empty) ((List Int) × Unit)):=
  (fun v4 => (if (ltZ v4.1 v4.2.1) then ((getI v4.2.2.1 v4.1).bind fun v5 => ((((Bl (v4.2.2.2.2.2.2.2.2.2.2.1,(v4.1,())) ()).bind fun v6 => (some v6.1)):(Option Int)).bind fun v7 => (((if (notB (eqZ v5 (-1000))) then (((if (notB v4.2.2.2.1) then (some (true,((subZ .i64 (subZ .i64 v4.2.2.2.2.2.2.2.2.2.1 v7) v5),v4))) else (some ((ltZ (subZ .i64 (subZ .i64 v4.2.2.2.2.2.2.2.2.2.1 v7) v5) v4.2.2.2.2.2.1),((subZ .i64 (subZ .i64 v4.2.2.2.2.2.2.2.2.2.1 v7) v5),v4)))):(Option (Bool × (Int × (Int × (Int × ((List Int) × (Bool × ((List Int) × (Int × (Int × (Int × ((List (List Int)) × (Int × (Aa × Unit))))))))))))))).bind fun v8 => (some v8)) else (some (false,((subZ .i64 (subZ .i64 v4.2.2.2.2.2.2.2.2.2.1 v7) v5),v4)))):(Option (Bool × (Int × (Int × (Int × ((List Int) × (Bool × ((List Int) × (Int × (Int × (Int × ((List (List Int)) × (Int × (Aa × Unit))))))))))))))).bind fun v9 => (((if v9.1 then (some (Out.norm (v9.2.2.1,(v9.2.2.2.1,(v9.2.2.2.2.1,(true,(v9.2.2.2.2.2.2.1,(v9.2.1,v9.2.2.2.2.2.2.2.2)))))))) else (some (Out.norm v9.2.2))):(Option (Out (Int × (Int × ((List Int) × (Bool × ((List Int) × (Int × (Int × (Int × ((List (List Int)) × (Int × (Aa × Unit))))))))))) Empty ((List Int) × Unit)))).bind fun v10 => (match ((match ((match ((match v10 with | Out.norm v22 => (Out.norm v22) | Out.exit v23 => (Out.exit v23) | Out.ret v24 => (Out.ret v24)):(Out (Int × (Int × ((List Int) × (Bool × ((List Int) × (Int × (Int × (Int × ((List (List Int)) × (Int × (Aa × Unit))))))))))) Empty ((List Int) × Unit))) with | Out.norm v19 => (Out.norm v19) | Out.exit v20 => (Out.exit v20) | Out.ret v21 => (Out.ret v21)):(Out (Int × (Int × ((List Int) × (Bool × ((List Int) × (Int × (Int × (Int × ((List (List Int)) × (Int × (Aa × Unit))))))))))) Empty ((List Int) × Unit))) with | Out.norm v16 => (Out.norm v16) | Out.exit v17 => (Out.exit v17) | Out.ret v18 => (Out.ret v18)):(Out (Int × (Int × ((List Int) × (Bool × ((List Int) × (Int × (Int × (Int × ((List (List Int)) × (Int × (Aa × Unit))))))))))) Empty ((List Int) × Unit))) with | Out.norm v11 => (some (Out.norm ((addZ .i64 v11.1 1),v11.2))) | Out.exit v12 => (match ((Empty.elim v12):((Int × (Int × ((List Int) × (Bool × ((List Int) × (Int × (Int × (Int × ((List (List Int)) × (Int × (Aa × Unit))))))))))) ⊕ Empty)) with | Sum.inl v13 => (some (Out.norm ((addZ .i64 v13.1 1),v13.2))) | Sum.inr v14 => (some (Out.exit (Sum.inr (Empty.elim v14))))) | Out.ret v15 => (some (Out.ret v15))))))) else (some (Out.exit (Sum.inl ((ltZ v4.1 v4.2.1),v4))))))
abbrev Dt:Type:=(Int × (Int × ((List (List Int)) × (Int × (Aa × ((List Int) × Unit))))))
def Eu:Dt -> Option (Out Dt ((Bool × Dt) ⊕ Empty) ((List Int) × Unit)):=
  (fun v2 => (if (ltZ v2.1 v2.2.1) then ((getI v2.2.2.1 v2.1).bind fun v3 => ((loopN (A:=Dp) big B8 (0,((lenI v3),(v3,(false,(v2.2.2.2.2.2.1,(0,(v2.1,(v2.2.1,(v2.2.2.1,(v2.2.2.2.1,(v2.2.2.2.2.1,())))))))))))).bind fun v25 => (match v25 with | Out.norm v26 => none | Out.exit v27 => (match ((match v27 with | Sum.inl v33 => (Sum.inl v33.2.2.2.2.2) | Sum.inr v34 => (Empty.elim v34)):(((List Int) × (Int × (Int × (Int × ((List (List Int)) × (Int × (Aa × Unit))))))) ⊕ Empty)) with | Sum.inl v28 => ((addI v28.1 (v28.2.1 :: [])).bind fun v29 => (some (Out.norm ((addZ .i64 v28.2.2.1 1),(v28.2.2.2.1,(v28.2.2.2.2.1,(v28.2.2.2.2.2.1,(v28.2.2.2.2.2.2.1,(v29,()))))))))) | Sum.inr v30 => (match ((Empty.elim (Empty.elim v30)):((Int × (Int × ((List (List Int)) × (Int × (Aa × ((List Int) × Unit)))))) ⊕ Empty)) with | Sum.inl v31 => (some (Out.norm ((addZ .i64 v31.1 1),v31.2))) | Sum.inr v32 => (some (Out.exit (Sum.inr (Empty.elim v32)))))) | Out.ret v35 => (some (Out.ret v35))))) else (some (Out.exit (Sum.inl ((ltZ v2.1 v2.2.1),v2))))))
def B3 (x:(Aa × (Int × Unit))) (c:Unit):(Option ((List Int) × Unit)):=
  ((((Dg (x.1,()) ()).bind fun v0 => (some v0.1)):(Option (List (List Int)))).bind fun v1 => ((loopN (A:=Dt) big Eu (0,((lenI v1),(v1,(x.2.1,(x.1,([],()))))))).bind fun v36 => (match v36 with | Out.norm v37 => none | Out.exit v38 => (match ((match v38 with | Sum.inl v41 => (Sum.inl (v41.2.2.2.2.2.2.1,())) | Sum.inr v42 => (Empty.elim v42)):(((List Int) × Unit) ⊕ Empty)) with | Sum.inl v39 => (some (v39.1,())) | Sum.inr v40 => none) | Out.ret v43 => (some v43))))
def H_9:Hd:=⟨[y_0,.int .i64],[],none,.p,.sl 3 (.int .i64),(Ty.all (.sl 3 (.int .i64))),[]⟩
def T_9:FSig:=sg_ H_9 B3
theorem E_9:fnOf tys [(31,Ig),(38,T_38)] Tryz.f9 H_9 = T_9:=by kernel_rfl
theorem K_9:SigOk Tryz.prog 9 T_9:=k_o E_9 ⟨Kt,K_38,trivial⟩ Tryz.func9
abbrev Ih:Type:=(Int × (Int × ((List Int) × Ac)))
def Jz:Ih -> Option (Out Ih ((Bool × Ih) ⊕ Empty) ((List Int) × Unit)):=
  (fun v4 => (if (ltZ v4.1 v4.2.1) then ((((getI v4.2.2.1 v4.1).bind fun v5 => (some ())):(Option Unit)).bind fun v6 => ((((getI v4.2.2.1 v4.1).bind fun v7 => (some v7)):(Option Int)).bind fun v8 => ((((getI v4.2.2.2.1 v4.1).bind fun v9 => (some ())):(Option Unit)).bind fun v10 => ((((getI v4.2.2.2.1 v4.1).bind fun v11 => (some v11)):(Option Int)).bind fun v12 => ((addI v4.2.2.2.2.1 ((subZ .i64 v12 v8) :: [])).bind fun v13 => (some (Out.norm ((addZ .i64 v4.1 1),(v4.2.1,(v4.2.2.1,(v4.2.2.2.1,(v13,())))))))))))) else (some (Out.exit (Sum.inl ((ltZ v4.1 v4.2.1),v4))))))
def Mi (x:(Aa × (Int × Unit))) (c:Unit):(Option ((List Int) × Unit)):=
  ((((B3 x ()).bind fun v0 => (some v0.1)):(Option (List Int))).bind fun v1 => ((((Au (x.1,()) ()).bind fun v2 => (some v2.1)):(Option (List Int))).bind fun v3 => ((loopN (A:=Ih) big Jz (0,((lenI v3),(v3,(v1,([],())))))).bind fun v14 => (match v14 with | Out.norm v15 => none | Out.exit v16 => (match ((match v16 with | Sum.inl v19 => (Sum.inl (v19.2.2.2.2.2.1,())) | Sum.inr v20 => (Empty.elim v20)):(((List Int) × Unit) ⊕ Empty)) with | Sum.inl v17 => (some (v17.1,())) | Sum.inr v18 => none) | Out.ret v21 => (some v21)))))
def H_10:Hd:=⟨[y_0,.int .i64],[],none,.p,.sl 3 (.int .i64),(Ty.all (.sl 3 (.int .i64))),[]⟩
def T_10:FSig:=sg_ H_10 Mi
theorem E_10:fnOf tys [(6,T_6),(9,T_9)] Tryz.f10 H_10 = T_10:=by kernel_rfl
theorem K_10:SigOk Tryz.prog 10 T_10:=k_o E_10 ⟨K_6,K_9,trivial⟩ Tryz.func10
abbrev Fz:Type:=(Int × (Int × (Aa × (Ac × (Int × Unit)))))
def Ie:Fz -> Option (Out Fz ((Bool × Fz) ⊕ Empty) (Int × Unit)):=
  (fun v2 => (if (ltZ v2.1 v2.2.1) then ((((Ca (v2.2.2.1,(v2.2.2.2.1,(v2.1,()))) ()).bind fun v3 => (some v3.1)):(Option Int)).bind fun v4 => (some (Out.norm ((addZ .i64 v2.1 1),(v2.2.1,(v2.2.2.1,(v2.2.2.2.1,((maxI v2.2.2.2.2.1 v4),())))))))) else (some (Out.exit (Sum.inl ((ltZ v2.1 v2.2.1),v2))))))
def Hm (x:(Aa × (Ac × Unit))) (c:Unit):(Option (Int × Unit)):=
  ((((Cj x ()).bind fun v0 => (some v0.1)):(Option Bool)).bind fun v1 => (if (notB v1) then (some ((-1),())) else ((loopN (A:=Fz) big Ie (0,((lenI x.1.2.1),(x.1,(x.2.1,(0,())))))).bind fun v5 => (match v5 with | Out.norm v6 => none | Out.exit v7 => (match ((match v7 with | Sum.inl v10 => (Sum.inl (v10.2.2.2.2.2.1,())) | Sum.inr v11 => (Empty.elim v11)):((Int × Unit) ⊕ Empty)) with | Sum.inl v8 => (some (v8.1,())) | Sum.inr v9 => none) | Out.ret v12 => (some v12)))))
def H_11:Hd:=⟨[y_0,y_6],[],none,.p,.int .i64,.p,[]⟩
def T_11:FSig:=sg_ H_11 Hm
theorem E_11:fnOf tys [(39,T_39),(40,T_40)] Tryz.f11 H_11 = T_11:=by kernel_rfl
theorem K_11:SigOk Tryz.prog 11 T_11:=k_o E_11 ⟨K_39,K_40,trivial⟩ Tryz.func11
abbrev E4:Type:=(Int × (Int × ((List Int) × (Aa × (Int × Unit)))))
def D9:E4 -> Option (Out E4 ((Bool × E4) ⊕ Empty) (Int × Unit)):=
  (fun v8 => (if (ltZ v8.1 v8.2.1) then ((getI v8.2.2.1 v8.1).bind fun v9 => (((if (notB (eqZ v9 (-1000))) then ((((Bl (v8.2.2.2.1,(v8.1,())) ()).bind fun v10 => (some v10.1)):(Option Int)).bind fun v11 => (some (Out.norm (v8.1,(v8.2.1,(v8.2.2.1,(v8.2.2.2.1,((maxI v8.2.2.2.2.1 (addZ .i64 v9 v11)),())))))))) else (some (Out.norm v8))):(Option (Out (Int × (Int × ((List Int) × (Aa × (Int × Unit))))) Empty (Int × Unit)))).bind fun v12 => (match ((match ((match v12 with | Out.norm v21 => (Out.norm v21) | Out.exit v22 => (Out.exit v22) | Out.ret v23 => (Out.ret v23)):(Out (Int × (Int × ((List Int) × (Aa × (Int × Unit))))) Empty (Int × Unit))) with | Out.norm v18 => (Out.norm v18) | Out.exit v19 => (Out.exit v19) | Out.ret v20 => (Out.ret v20)):(Out (Int × (Int × ((List Int) × (Aa × (Int × Unit))))) Empty (Int × Unit))) with | Out.norm v13 => (some (Out.norm ((addZ .i64 v13.1 1),v13.2))) | Out.exit v14 => (match ((Empty.elim v14):((Int × (Int × ((List Int) × (Aa × (Int × Unit))))) ⊕ Empty)) with | Sum.inl v15 => (some (Out.norm ((addZ .i64 v15.1 1),v15.2))) | Sum.inr v16 => (some (Out.exit (Sum.inr (Empty.elim v16))))) | Out.ret v17 => (some (Out.ret v17))))) else (some (Out.exit (Sum.inl ((ltZ v8.1 v8.2.1),v8))))))
def Jc (x:(Aa × (Int × Unit))) (c:Unit):(Option (Int × Unit)):=
  ((((Dg (x.1,()) ()).bind fun v0 => (some v0.1)):(Option (List (List Int)))).bind fun v1 => (((if (eqZ (lenI v1) 0) then (some (true,(v1,(x.2.1,(x.1,()))))) else ((((As x ()).bind fun v2 => (some v2.1)):(Option Bool)).bind fun v3 => (some ((notB v3),(v1,(x.2.1,(x.1,()))))))):(Option (Bool × ((List (List Int)) × (Int × (Aa × Unit)))))).bind fun v4 => (if v4.1 then (some (0,())) else ((((Bl (v4.2.2.2.1,(v4.2.2.1,())) ()).bind fun v5 => (some v5.1)):(Option Int)).bind fun v6 => ((getI v4.2.1 v4.2.2.1).bind fun v7 => ((loopN (A:=E4) big D9 (0,((lenI v7),(v7,(v4.2.2.2.1,(v6,())))))).bind fun v24 => (match v24 with | Out.norm v25 => none | Out.exit v26 => (match ((match v26 with | Sum.inl v29 => (Sum.inl (v29.2.2.2.2.2.1,())) | Sum.inr v30 => (Empty.elim v30)):((Int × Unit) ⊕ Empty)) with | Sum.inl v27 => (some (v27.1,())) | Sum.inr v28 => none) | Out.ret v31 => (some v31))))))))
def H_12:Hd:=⟨[y_0,.int .i64],[],none,.p,.int .i64,.p,[]⟩
def T_12:FSig:=sg_ H_12 Jc
theorem E_12:fnOf tys [(31,Ig),(38,T_38),(41,T_41)] Tryz.f12 H_12 = T_12:=by kernel_rfl
theorem K_12:SigOk Tryz.prog 12 T_12:=k_o E_12 ⟨Kt,K_38,K_41,trivial⟩ Tryz.func12
abbrev Fh:Type:=(Int × (Int × ((List Int) × (Aa × (Int × Unit)))))
def Hj:Fh -> Option (Out Fh ((Bool × Fh) ⊕ Empty) (Int × Unit)):=
  (fun v2 => (if (ltZ v2.1 v2.2.1) then ((((getI v2.2.2.1 v2.1).bind fun v3 => (some ())):(Option Unit)).bind fun v4 => ((((getI v2.2.2.1 v2.1).bind fun v5 => (some v5)):(Option Int)).bind fun v6 => ((((Bl (v2.2.2.2.1,(v2.1,())) ()).bind fun v7 => (some v7.1)):(Option Int)).bind fun v8 => (some (Out.norm ((addZ .i64 v2.1 1),(v2.2.1,(v2.2.2.1,(v2.2.2.2.1,((maxI v2.2.2.2.2.1 (addZ .i64 v6 v8)),())))))))))) else (some (Out.exit (Sum.inl ((ltZ v2.1 v2.2.1),v2))))))
def Bm (x:(Aa × Unit)) (c:Unit):(Option (Int × Unit)):=
  ((((Au (x.1,()) ()).bind fun v0 => (some v0.1)):(Option (List Int))).bind fun v1 => ((loopN (A:=Fh) big Hj (0,((lenI v1),(v1,(x.1,(0,())))))).bind fun v9 => (match v9 with | Out.norm v10 => none | Out.exit v11 => (match ((match v11 with | Sum.inl v14 => (Sum.inl (v14.2.2.2.2.2.1,())) | Sum.inr v15 => (Empty.elim v15)):((Int × Unit) ⊕ Empty)) with | Sum.inl v12 => (some (v12.1,())) | Sum.inr v13 => none) | Out.ret v16 => (some v16))))
def H_13:Hd:=⟨[y_0],[],none,.p,.int .i64,.p,[]⟩
def T_13:FSig:=sg_ H_13 Bm
theorem E_13:fnOf tys [(6,T_6),(38,T_38)] Tryz.f13 H_13 = T_13:=by kernel_rfl
theorem K_13:SigOk Tryz.prog 13 T_13:=k_o E_13 ⟨K_6,K_38,trivial⟩ Tryz.func13
abbrev Hq:Type:=(Int × (Int × ((List D_Mode) × (((D_Mode × Unit) -> (Option (Int × (Bool × Unit)))) × (Int × Unit)))))
def I4:Hq -> Option (Out Hq ((Bool × Hq) ⊕ Empty) (Int × Unit)):=
  (fun v0 => (if (ltZ v0.1 v0.2.1) then ((getI v0.2.2.1 v0.1).bind fun v1 => ((v0.2.2.2.1 (v1,())).bind fun v2 => (if (notB v2.2.1) then (some (Out.ret (0,()))) else (((if (eqZ v0.1 0) then (some (true,(v2.1,v0))) else (some ((ltZ v2.1 v0.2.2.2.2.1),(v2.1,v0)))):(Option (Bool × (Int × (Int × (Int × ((List D_Mode) × (((D_Mode × Unit) -> (Option (Int × (Bool × Unit)))) × (Int × Unit))))))))).bind fun v3 => (((if v3.1 then (some (Out.norm (v3.2.2.1,(v3.2.2.2.1,(v3.2.2.2.2.1,(v3.2.2.2.2.2.1,(v3.2.1,()))))))) else (some (Out.norm v3.2.2))):(Option (Out (Int × (Int × ((List D_Mode) × (((D_Mode × Unit) -> (Option (Int × (Bool × Unit)))) × (Int × Unit))))) Empty (Int × Unit)))).bind fun v4 => (match ((match ((match ((match ((match v4 with | Out.norm v19 => (Out.norm v19) | Out.exit v20 => (Out.exit v20) | Out.ret v21 => (Out.ret v21)):(Out (Int × (Int × ((List D_Mode) × (((D_Mode × Unit) -> (Option (Int × (Bool × Unit)))) × (Int × Unit))))) Empty (Int × Unit))) with | Out.norm v16 => (Out.norm v16) | Out.exit v17 => (Out.exit v17) | Out.ret v18 => (Out.ret v18)):(Out (Int × (Int × ((List D_Mode) × (((D_Mode × Unit) -> (Option (Int × (Bool × Unit)))) × (Int × Unit))))) Empty (Int × Unit))) with | Out.norm v13 => (Out.norm v13) | Out.exit v14 => (Out.exit v14) | Out.ret v15 => (Out.ret v15)):(Out (Int × (Int × ((List D_Mode) × (((D_Mode × Unit) -> (Option (Int × (Bool × Unit)))) × (Int × Unit))))) Empty (Int × Unit))) with | Out.norm v10 => (Out.norm v10) | Out.exit v11 => (Out.exit v11) | Out.ret v12 => (Out.ret v12)):(Out (Int × (Int × ((List D_Mode) × (((D_Mode × Unit) -> (Option (Int × (Bool × Unit)))) × (Int × Unit))))) Empty (Int × Unit))) with | Out.norm v5 => (some (Out.norm ((addZ .i64 v5.1 1),v5.2))) | Out.exit v6 => (match ((Empty.elim v6):((Int × (Int × ((List D_Mode) × (((D_Mode × Unit) -> (Option (Int × (Bool × Unit)))) × (Int × Unit))))) ⊕ Empty)) with | Sum.inl v7 => (some (Out.norm ((addZ .i64 v7.1 1),v7.2))) | Sum.inr v8 => (some (Out.exit (Sum.inr (Empty.elim v8))))) | Out.ret v9 => (some (Out.ret v9)))))))) else (some (Out.exit (Sum.inl ((ltZ v0.1 v0.2.1),v0))))))
def Kj (x:((List D_Mode) × (((D_Mode × Unit) -> (Option (Int × (Bool × Unit)))) × Unit))) (c:Unit):(Option (Int × Unit)):=
  ((loopN (A:=Hq) big I4 (0,((lenI x.1),(x.1,(x.2.1,(0,())))))).bind fun v22 => (match v22 with | Out.norm v23 => none | Out.exit v24 => (match ((match v24 with | Sum.inl v27 => (Sum.inl (v27.2.2.2.2.2.1,())) | Sum.inr v28 => (Empty.elim v28)):((Int × Unit) ⊕ Empty)) with | Sum.inl v25 => (some (v25.1,())) | Sum.inr v26 => none) | Out.ret v29 => (some v29)))
def H_106:Hd:=⟨[.sl 86 (y_4),.fn [y_4] (.tup [.int .i64,.bool])],[],none,.p,.int .i64,.p,[]⟩
def T_106:FSig:=sg_ H_106 Kj
theorem E_106:fnOf tys [] Tryz.f106 H_106 = T_106:=by kernel_rfl
theorem K_106:SigOk Tryz.prog 106 T_106:=k_o E_106 trivial Tryz.func106
def Kb (x:((List Int) × (Int × Unit))) (c:Unit):(Option ((Int × (Bool × Unit)) × Unit)):=
  ((((A0 (x.2.1,(0,((subZ .i64 (lenI x.1) 1),()))) ()).bind fun v0 => (some v0.1)):(Option Bool)).bind fun v1 => (if (notB v1) then (some ((0,(false,())),())) else ((getI x.1 x.2.1).bind fun v2 => (some ((v2,(true,())),())))))
def H_108:Hd:=⟨[.sl 3 (.int .i64),.int .i64],[],none,.p,.tup [.int .i64,.bool],.p,[]⟩
def T_108:FSig:=sg_ H_108 Kb
theorem E_108:fnOf tys [(32,T_32)] Tryz.f108 H_108 = T_108:=by kernel_rfl
theorem K_108:SigOk Tryz.prog 108 T_108:=k_o E_108 ⟨K_32,trivial⟩ Tryz.func108
def Ka (x:(D_Mode × Unit)) (c:(Int × Unit)):(Option ((Int × (Bool × Unit)) × Unit)):=
  ((((Kb (x.1.2.1,(c.1,())) ()).bind fun v0 => (some v0.1)):(Option (Int × (Bool × Unit)))).bind fun v1 => (some (((mulZ .i64 x.1.1 v1.1),(v1.2.1,())),())))
def H_107:Hd:=⟨[y_4],[.int .i64],none,.p,.tup [.int .i64,.bool],.p,[]⟩
def T_107:FSig:=sg_ H_107 Ka
theorem E_107:fnOf tys [(108,T_108)] Tryz.f107 H_107 = T_107:=by kernel_rfl
theorem K_107:SigOk Tryz.prog 107 T_107:=k_o E_107 ⟨K_108,trivial⟩ Tryz.func107
def Lw (x:(Ad × ((List Int) × (Int × Unit)))) (c:Unit):(Option (Int × Unit)):=
  ((((Jv (x.1,(x.2.1,())) ()).bind fun v0 => (some v0.1)):(Option (List D_Mode))).bind fun v1 => ((((Kj (v1,((fun v2 => ((Ka v2 (x.2.2.1,())).bind fun v3 => (some v3.1))),())) ()).bind fun v4 => (some v4.1)):(Option Int)).bind fun v5 => (some (v5,()))))
def H_81:Hd:=⟨[y_1,.sl 3 (.int .i64),.int .i64],[],none,.p,.int .i64,.p,[]⟩
def T_81:FSig:=sg_ H_81 Lw
theorem E_81:fnOf tys [(105,T_105),(106,T_106),(107,T_107)] Tryz.f81 H_81 = T_81:=by kernel_rfl
theorem K_81:SigOk Tryz.prog 81 T_81:=k_o E_81 ⟨K_105,K_106,K_107,trivial⟩ Tryz.func81
abbrev Fi:Type:=(Int × (Int × ((List Ad) × (Int × (Bool × (Int × (Ai × (Int × (Int × ((List Ai) × (Int × (Aa × Unit))))))))))))
def G7:Fi -> Option (Out Fi ((Bool × Fi) ⊕ Empty) (Int × Unit)):=
  (fun v7 => (if (ltZ v7.1 v7.2.1) then ((getI v7.2.2.1 v7.1).bind fun v8 => ((((Cd (v8,()) ()).bind fun v9 => (some v9.1)):(Option (List Int))).bind fun v10 => ((((Lw (v8,(v10,(v7.2.2.2.1,()))) ()).bind fun v11 => (some v11.1)):(Option Int)).bind fun v12 => (some (Out.norm ((addZ .i64 v7.1 1),(v7.2.1,(v7.2.2.1,(v7.2.2.2.1,(v7.2.2.2.2.1,((addZ .i64 v7.2.2.2.2.2.1 v12),v7.2.2.2.2.2.2))))))))))) else (some (Out.exit (Sum.inl ((ltZ v7.1 v7.2.1),v7))))))
abbrev Fu:Type:=(Int × (Int × ((List Ai) × (Bool × (Int × (Aa × Unit))))))
def Hw:Fu -> Option (Out Fu ((Bool × Fu) ⊕ Empty) (Int × Unit)):=
  (fun v5 => (if (ltZ v5.1 v5.2.1) then ((getI v5.2.2.1 v5.1).bind fun v6 => ((loopN (A:=Fi) big G7 (0,((lenI v5.2.2.2.2.2.1.2.1),(v5.2.2.2.2.2.1.2.1,(v5.1,(v5.2.2.2.1,(0,(v6,(v5.1,(v5.2.1,(v5.2.2.1,v5.2.2.2.2))))))))))).bind fun v13 => (match v13 with | Out.norm v14 => none | Out.exit v15 => (match ((match v15 with | Sum.inl v23 => (Sum.inl v23.2.2.2.2.2) | Sum.inr v24 => (Empty.elim v24)):((Bool × (Int × (Ai × (Int × (Int × ((List Ai) × (Int × (Aa × Unit)))))))) ⊕ Empty)) with | Sum.inl v16 => (((if v16.1 then ((((Cu (v16.2.2.1.1,(0,(v16.2.2.2.2.2.2.1,()))) ()).bind fun v17 => (some v17.1)):(Option Int)).bind fun v18 => (some (v16.2.2.2.1,(v16.2.2.2.2.1,(v16.2.2.2.2.2.1,((leZ v16.2.1 v18),v16.2.2.2.2.2.2)))))) else (some (v16.2.2.2.1,(v16.2.2.2.2.1,(v16.2.2.2.2.2.1,(false,v16.2.2.2.2.2.2)))))):(Option (Int × (Int × ((List Ai) × (Bool × (Int × (Aa × Unit)))))))).bind fun v19 => (some (Out.norm ((addZ .i64 v19.1 1),v19.2)))) | Sum.inr v20 => (match ((Empty.elim (Empty.elim v20)):((Int × (Int × ((List Ai) × (Bool × (Int × (Aa × Unit)))))) ⊕ Empty)) with | Sum.inl v21 => (some (Out.norm ((addZ .i64 v21.1 1),v21.2))) | Sum.inr v22 => (some (Out.exit (Sum.inr (Empty.elim v22)))))) | Out.ret v25 => (some (Out.ret v25))))) else (some (Out.exit (Sum.inl ((ltZ v5.1 v5.2.1),v5))))))
abbrev Ft:Type:=(Int × (Aa × Unit))
def Ci:Ft -> Option (Out Ft ((Bool × Ft) ⊕ Empty) (Int × Unit)):=
  (fun v4 => (if (leZ v4.1 60) then ((loopN (A:=Fu) big Hw (0,((lenI v4.2.1.2.2.2.1),(v4.2.1.2.2.2.1,(true,v4))))).bind fun v26 => (match v26 with | Out.norm v27 => none | Out.exit v28 => (match ((match v28 with | Sum.inl v33 => (Sum.inl v33.2.2.2.2) | Sum.inr v34 => (Empty.elim v34)):((Bool × (Int × (Aa × Unit))) ⊕ Empty)) with | Sum.inl v29 => (if v29.1 then (some (Out.ret (v29.2.1,()))) else (some (Out.norm ((addZ .i64 v29.2.1 1),(v29.2.2.1,()))))) | Sum.inr v30 => (match ((Empty.elim (Empty.elim v30)):((Int × (Aa × Unit)) ⊕ Empty)) with | Sum.inl v31 => (some (Out.norm ((addZ .i64 v31.1 1),(v31.2.1,())))) | Sum.inr v32 => (some (Out.exit (Sum.inr (Empty.elim v32)))))) | Out.ret v35 => (some (Out.ret v35)))) else (some (Out.exit (Sum.inl ((leZ v4.1 60),v4))))))
def Ek (x:(Aa × Unit)) (c:Unit):(Option (Int × Unit)):=
  ((((Ao (x.1,()) ()).bind fun v0 => (some v0.1)):(Option Bool)).bind fun v1 => (if (notB v1) then (some (0,())) else ((((Bm (x.1,()) ()).bind fun v2 => (some v2.1)):(Option Int)).bind fun v3 => ((loopN (A:=Ft) big Ci ((maxI v3 1),(x.1,()))).bind fun v36 => (match v36 with | Out.norm v37 => none | Out.exit v38 => (match ((match v38 with | Sum.inl v41 => (Sum.inl ()) | Sum.inr v42 => (Empty.elim v42)):(Unit ⊕ Empty)) with | Sum.inl v39 => (some (61,())) | Sum.inr v40 => none) | Out.ret v43 => (some v43))))))
def H_42:Hd:=⟨[y_0],[],none,.p,.int .i64,.p,[]⟩
def T_42:FSig:=sg_ H_42 Ek
theorem E_42:fnOf tys [(13,T_13),(27,T_27),(77,T_77),(81,T_81),(82,T_82)] Tryz.f42 H_42 = T_42:=by kernel_rfl
theorem K_42:SigOk Tryz.prog 42 T_42:=k_o E_42 ⟨K_13,K_27,K_77,K_81,K_82,trivial⟩ Tryz.func42
abbrev Bb:Type:=(Int × (Int × (Int × (Int × ((D_Step -> (Option Int)) × ((List Int) × Unit))))))
def Aq:Bb -> Option (Out Bb ((Bool × Bb) ⊕ Empty) (Unit × (List Int))):=
  (fun v1 => (((if (ltZ v1.2.2.2.1 v1.1) then ((((getI v1.2.2.2.2.2.1 v1.1).bind fun v2 => (some ())):(Option Unit)).bind fun v3 => ((((getI v1.2.2.2.2.2.1 v1.1).bind fun v4 => (some v4)):(Option Int)).bind fun v5 => ((((getI v1.2.2.2.2.2.1 (subZ .i64 v1.1 1)).bind fun v6 => (some ())):(Option Unit)).bind fun v7 => ((((getI v1.2.2.2.2.2.1 (subZ .i64 v1.1 1)).bind fun v8 => (some v8)):(Option Int)).bind fun v9 => ((v1.2.2.2.2.1 (v5,(v9,()))).bind fun v10 => (some ((ltZ v10 0),v1))))))) else (some (false,v1))):(Option (Bool × (Int × (Int × (Int × (Int × ((D_Step -> (Option Int)) × ((List Int) × Unit))))))))).bind fun v11 => (if v11.1 then ((((getI v11.2.2.2.2.2.2.1 (subZ .i64 v11.2.1 1)).bind fun v12 => (some ())):(Option Unit)).bind fun v13 => ((((getI v11.2.2.2.2.2.2.1 (subZ .i64 v11.2.1 1)).bind fun v14 => (some v14)):(Option Int)).bind fun v15 => ((((getI v11.2.2.2.2.2.2.1 v11.2.1).bind fun v16 => (some ())):(Option Unit)).bind fun v17 => ((((getI v11.2.2.2.2.2.2.1 v11.2.1).bind fun v18 => (some v18)):(Option Int)).bind fun v19 => ((((getI v11.2.2.2.2.2.2.1 v11.2.1).bind fun v20 => (some ())):(Option Unit)).bind fun v21 => ((((((getI v11.2.2.2.2.2.2.1 v11.2.1).bind fun v22 => (some v22)):(Option Int)).bind fun v23 => (some v15)):(Option Int)).bind fun v24 => ((((getI (setI v11.2.2.2.2.2.2.1 v11.2.1 (fun v25 => v24)) (subZ .i64 v11.2.1 1)).bind fun v26 => (some ())):(Option Unit)).bind fun v27 => ((((((getI (setI v11.2.2.2.2.2.2.1 v11.2.1 (fun v28 => v24)) (subZ .i64 v11.2.1 1)).bind fun v29 => (some v29)):(Option Int)).bind fun v30 => (some v19)):(Option Int)).bind fun v31 => (some (Out.norm ((subZ .i64 v11.2.1 1),(v11.2.2.1,(v11.2.2.2.1,(v11.2.2.2.2.1,(v11.2.2.2.2.2.1,((setI (setI v11.2.2.2.2.2.2.1 v11.2.1 (fun v32 => v24)) (subZ .i64 v11.2.1 1) (fun v33 => v31)),())))))))))))))))) else (some (Out.exit (Sum.inl v11))))))
abbrev A9:Type:=(Int × (Int × (Int × ((D_Step -> (Option Int)) × ((List Int) × Unit)))))
def Ar:A9 -> Option (Out A9 ((Bool × A9) ⊕ Empty) (Unit × (List Int))):=
  (fun v0 => (if (ltZ v0.1 v0.2.1) then ((loopN (A:=Bb) big Aq (v0.1,v0)).bind fun v34 => (match v34 with | Out.norm v35 => none | Out.exit v36 => (match ((match v36 with | Sum.inl v41 => (Sum.inl v41.2.2) | Sum.inr v42 => (Empty.elim v42)):((Int × (Int × (Int × ((D_Step -> (Option Int)) × ((List Int) × Unit))))) ⊕ Empty)) with | Sum.inl v37 => (some (Out.norm ((addZ .i64 v37.1 1),v37.2))) | Sum.inr v38 => (match ((Empty.elim v38):((Int × (Int × (Int × ((D_Step -> (Option Int)) × ((List Int) × Unit))))) ⊕ Empty)) with | Sum.inl v39 => (some (Out.norm ((addZ .i64 v39.1 1),v39.2))) | Sum.inr v40 => (some (Out.exit (Sum.inr (Empty.elim v40)))))) | Out.ret v43 => (some (Out.ret v43)))) else (some (Out.exit (Sum.inl ((ltZ v0.1 v0.2.1),v0))))))
def Az (x:((List Int) × (Int × (Int × ((D_Step -> (Option Int)) × Unit))))) (c:Unit):(Option (Unit × (List Int))):=
  ((loopN (A:=A9) big Ar ((addZ .i64 x.2.1 1),(x.2.2.1,(x.2.1,(x.2.2.2.1,(x.1,())))))).bind fun v44 => (match v44 with | Out.norm v45 => none | Out.exit v46 => (match ((match v46 with | Sum.inl v49 => (Sum.inl (v49.2.2.2.2.2.1,())) | Sum.inr v50 => (Empty.elim v50)):(((List Int) × Unit) ⊕ Empty)) with | Sum.inl v47 => (some ((),v47.1)) | Sum.inr v48 => none) | Out.ret v51 => (some v51)))
def H_142:Hd:=⟨[.sl 3 (.int .i64),.int .i64,.int .i64,.fn [.int .i64,.int .i64] (.int .i64)],[],some 0,Ty.all (.sl 3 (.int .i64)),.tup [],.p,[]⟩
def T_142:FSig:=sg_ H_142 Az
theorem E_142:fnOf tys [] Tryz.f142 H_142 = T_142:=by kernel_rfl
theorem K_142:SigOk Tryz.prog 142 T_142:=k_o E_142 trivial Tryz.func142
def Ky:Hd:=⟨[.sl 3 (.int .i64),.int .i64,.int .i64,.int .i64,.fn [.int .i64,.int .i64] (.int .i64)],[],some 0,Ty.all (.sl 3 (.int .i64)),.tup [],.p,[]⟩
def D3:((List Int) × (Int × (Int × (Int × ((D_Step -> Option Int) × Unit))))) -> Unit -> Option (Unit × (List Int)):=fun _ _ => none
def Gd:FSig:=sg_ Ky D3
theorem Kv:SigOk Tryz.prog 143 Gd:=⟨⟨Tryz.f143,Tryz.func143,by decide,rfl⟩,fun _ _ _ _ _ _ _ _ _ _ _ _ _ _ h => by cases h⟩
abbrev Bw:Type:=(Int × (Int × (Int × (Int × ((D_Step -> (Option Int)) × ((List Int) × Unit))))))
def Dl:Bw -> Option (Out Bw ((Bool × Bw) ⊕ Empty) (Unit × (List Int))):=
  (fun v0 => (if (leZ v0.1 v0.2.2.2.1) then ((Az (v0.2.2.2.2.2.1,(v0.2.1,(v0.1,(v0.2.2.2.2.1,())))) ()).bind fun v1 => (some (Out.norm ((addZ .i64 v0.1 v0.2.2.1),(v0.1,(v0.2.2.1,(v0.2.2.2.1,(v0.2.2.2.2.1,(v1.2,()))))))))) else (some (Out.exit (Sum.inl ((leZ v0.1 v0.2.2.2.1),v0))))))
abbrev Bt:Type:=(Int × (Int × (Int × (Int × ((D_Step -> (Option Int)) × ((List Int) × Unit))))))
def Lf:Bt -> Option (Out Bt ((Bool × Bt) ⊕ Empty) (Unit × (List Int))):=
  (fun v8 => (if (leZ v8.1 v8.2.2.2.1) then ((D3 (v8.2.2.2.2.2.1,(v8.2.1,((addZ .i64 v8.2.1 v8.2.2.1),(v8.1,(v8.2.2.2.2.1,()))))) ()).bind fun v9 => (some (Out.norm ((addZ .i64 v8.1 (mulZ .i64 2 v8.2.2.1)),(v8.1,(v8.2.2.1,(v8.2.2.2.1,(v8.2.2.2.2.1,(v9.2,()))))))))) else (some (Out.exit (Sum.inl ((leZ v8.1 v8.2.2.2.1),v8))))))
abbrev Bu:Type:=(Int × (Int × ((D_Step -> (Option Int)) × ((List Int) × Unit))))
def Dm:Bu -> Option (Out Bu ((Bool × Bu) ⊕ Empty) (Unit × (List Int))):=
  (fun v7 => (if (ltZ v7.1 v7.2.1) then ((loopN (A:=Bt) big Lf ((mulZ .i64 2 v7.1),(0,v7))).bind fun v10 => (match v10 with | Out.norm v11 => none | Out.exit v12 => (match ((match v12 with | Sum.inl v30 => (Sum.inl v30.2.2) | Sum.inr v31 => (Empty.elim v31)):((Int × (Int × (Int × ((D_Step -> (Option Int)) × ((List Int) × Unit))))) ⊕ Empty)) with | Sum.inl v13 => (((if (ltZ (addZ .i64 v13.1 v13.2.1) v13.2.2.1) then ((D3 (v13.2.2.2.2.1,(v13.1,((addZ .i64 v13.1 v13.2.1),(v13.2.2.1,(v13.2.2.2.1,()))))) ()).bind fun v14 => (some (Out.norm (v13.2.1,(v13.2.2.1,(v13.2.2.2.1,(v14.2,()))))))) else (some (Out.norm v13.2))):(Option (Out (Int × (Int × ((D_Step -> (Option Int)) × ((List Int) × Unit)))) Empty (Unit × (List Int))))).bind fun v15 => (match ((match ((match v15 with | Out.norm v24 => (Out.norm v24) | Out.exit v25 => (Out.exit v25) | Out.ret v26 => (Out.ret v26)):(Out (Int × (Int × ((D_Step -> (Option Int)) × ((List Int) × Unit)))) Empty (Unit × (List Int)))) with | Out.norm v21 => (Out.norm v21) | Out.exit v22 => (Out.exit v22) | Out.ret v23 => (Out.ret v23)):(Out (Int × (Int × ((D_Step -> (Option Int)) × ((List Int) × Unit)))) Empty (Unit × (List Int)))) with | Out.norm v16 => (some (Out.norm ((mulZ .i64 v16.1 2),v16.2))) | Out.exit v17 => (match ((Empty.elim (Empty.elim v17)):((Int × (Int × ((D_Step -> (Option Int)) × ((List Int) × Unit)))) ⊕ Empty)) with | Sum.inl v18 => (some (Out.norm v18)) | Sum.inr v19 => (some (Out.exit (Sum.inr v19)))) | Out.ret v20 => (some (Out.ret v20)))) | Sum.inr v27 => (match ((Empty.elim (Empty.elim v27)):((Int × (Int × ((D_Step -> (Option Int)) × ((List Int) × Unit)))) ⊕ Empty)) with | Sum.inl v28 => (some (Out.norm v28)) | Sum.inr v29 => (some (Out.exit (Sum.inr v29))))) | Out.ret v32 => (some (Out.ret v32)))) else (some (Out.exit (Sum.inl ((ltZ v7.1 v7.2.1),v7))))))
def Fb (x:((List Int) × (Int × ((D_Step -> (Option Int)) × Unit)))) (c:Unit):(Option (Unit × (List Int))):=
  ((loopN (A:=Bw) big Dl (20,(0,(20,(x.2.1,(x.2.2.1,(x.1,()))))))).bind fun v2 => (match v2 with | Out.norm v3 => none | Out.exit v4 => (match ((match v4 with | Sum.inl v42 => (Sum.inl v42.2.2) | Sum.inr v43 => (Empty.elim v43)):((Int × (Int × (Int × ((D_Step -> (Option Int)) × ((List Int) × Unit))))) ⊕ Empty)) with | Sum.inl v5 => ((Az (v5.2.2.2.2.1,(v5.1,(v5.2.2.1,(v5.2.2.2.1,())))) ()).bind fun v6 => ((loopN (A:=Bu) big Dm (v5.2.1,(v5.2.2.1,(v5.2.2.2.1,(v6.2,()))))).bind fun v33 => (match v33 with | Out.norm v34 => none | Out.exit v35 => (match ((match v35 with | Sum.inl v38 => (Sum.inl (v38.2.2.2.2.1,())) | Sum.inr v39 => (Empty.elim v39)):(((List Int) × Unit) ⊕ Empty)) with | Sum.inl v36 => (some ((),v36.1)) | Sum.inr v37 => none) | Out.ret v40 => (some v40)))) | Sum.inr v41 => none) | Out.ret v44 => (some v44)))
def H_113:Hd:=⟨[.sl 3 (.int .i64),.int .i64,.fn [.int .i64,.int .i64] (.int .i64)],[],some 0,Ty.all (.sl 3 (.int .i64)),.tup [],.p,[]⟩
def T_113:FSig:=sg_ H_113 Fb
theorem E_113:fnOf tys [(142,T_142),(143,Gd)] Tryz.f113 H_113 = T_113:=by kernel_rfl
theorem K_113:SigOk Tryz.prog 113 T_113:=k_o E_113 ⟨K_142,Kv,trivial⟩ Tryz.func113
def Bv (x:((List Int) × ((D_Step -> (Option Int)) × Unit))) (c:Unit):(Option (Unit × (List Int))):=
  ((Fb (x.1,((lenI x.1),(x.2.1,()))) ()).bind fun v0 => (some ((),v0.2)))
def H_85:Hd:=⟨[.sl 3 (.int .i64),.fn [.int .i64,.int .i64] (.int .i64)],[],some 0,Ty.all (.sl 3 (.int .i64)),.tup [],.p,[]⟩
def T_85:FSig:=sg_ H_85 Bv
theorem E_85:fnOf tys [(113,T_113)] Tryz.f85 H_85 = T_85:=by kernel_rfl
theorem K_85:SigOk Tryz.prog 85 T_85:=k_o E_85 ⟨K_113,trivial⟩ Tryz.func85
abbrev Jq:Type:=(Int × ((List Int) × Unit))
def Kx:Jq -> Option (Out Jq ((Bool × Jq) ⊕ Empty) (Bool × Unit)):=
  (fun v0 => (if (ltZ v0.1 (lenI v0.2.1)) then ((getI v0.2.1 v0.1).bind fun v1 => ((getI v0.2.1 (subZ .i64 v0.1 1)).bind fun v2 => (if (leZ v1 v2) then (some (Out.ret (false,()))) else (some (Out.norm ((addZ .i64 v0.1 1),(v0.2.1,()))))))) else (some (Out.exit (Sum.inl ((ltZ v0.1 (lenI v0.2.1)),v0))))))
def Nq (x:((List Int) × Unit)) (c:Unit):(Option (Bool × Unit)):=
  ((loopN (A:=Jq) big Kx (1,(x.1,()))).bind fun v3 => (match v3 with | Out.norm v4 => none | Out.exit v5 => (match ((match v5 with | Sum.inl v8 => (Sum.inl ()) | Sum.inr v9 => (Empty.elim v9)):(Unit ⊕ Empty)) with | Sum.inl v6 => (some (true,())) | Sum.inr v7 => none) | Out.ret v10 => (some v10)))
def H_126:Hd:=⟨[.sl 3 (.int .i64)],[],none,.p,.bool,.p,[]⟩
def T_126:FSig:=sg_ H_126 Nq
theorem E_126:fnOf tys [] Tryz.f126 H_126 = T_126:=by kernel_rfl
theorem K_126:SigOk Tryz.prog 126 T_126:=k_o E_126 trivial Tryz.func126
def Hp:(Int × D_Mode) -> Option (Out (Int × D_Mode) ((Bool × (Int × D_Mode)) ⊕ Empty) (Bool × Unit)):=
  (fun v0 => (if (ltZ v0.1 v0.2.1) then ((getI v0.2.2.1 v0.1).bind fun v1 => ((((Ip (v0.2.2.2.1,(v1,())) ()).bind fun v2 => (some v2.1)):(Option Bool)).bind fun v3 => (if (notB v3) then (some (Out.ret (false,()))) else (some (Out.norm ((addZ .i64 v0.1 1),v0.2)))))) else (some (Out.exit (Sum.inl ((ltZ v0.1 v0.2.1),v0))))))
def J7 (x:Ac) (c:Unit):(Option (Bool × Unit)):=
  ((loopN (A:=(Int × D_Mode)) big Hp (0,((lenI x.1),x))).bind fun v4 => (match v4 with | Out.norm v5 => none | Out.exit v6 => (match ((match v6 with | Sum.inl v9 => (Sum.inl ()) | Sum.inr v10 => (Empty.elim v10)):(Unit ⊕ Empty)) with | Sum.inl v7 => (some (true,())) | Sum.inr v8 => none) | Out.ret v11 => (some v11)))
def H_127:Hd:=⟨[.sl 3 (.int .i64),.sl 3 (.int .i64)],[],none,.p,.bool,.p,[]⟩
def T_127:FSig:=sg_ H_127 J7
theorem E_127:fnOf tys [(55,T_55)] Tryz.f127 H_127 = T_127:=by kernel_rfl
theorem K_127:SigOk Tryz.prog 127 T_127:=k_o E_127 ⟨K_55,trivial⟩ Tryz.func127
def Ki (x:(Int × Unit)) (c:Unit):(Option (Bool × Unit)):=
  ((((A0 (x.1,((-2),(62,()))) ()).bind fun v0 => (some v0.1)):(Option Bool)).bind fun v1 => (some (v1,())))
def H_161:Hd:=⟨[.int .i64],[],none,.p,.bool,.p,[]⟩
def T_161:FSig:=sg_ H_161 Ki
theorem E_161:fnOf tys [(32,T_32)] Tryz.f161 H_161 = T_161:=by kernel_rfl
theorem K_161:SigOk Tryz.prog 161 T_161:=k_o E_161 ⟨K_32,trivial⟩ Tryz.func161
abbrev E5:Type:=(Int × (Int × ((List (List Int)) × (Ae × (Aa × Unit)))))
def Ei:E5 -> Option (Out E5 ((Bool × E5) ⊕ Empty) (Bool × Unit)):=
  (fun v5 => (if (ltZ v5.1 v5.2.1) then ((getI v5.2.2.1 v5.1).bind fun v6 => ((getI v5.2.2.2.1.1 v5.1).bind fun v7 => ((((Ki (v7,()) ()).bind fun v8 => (some v8.1)):(Option Bool)).bind fun v9 => (((if (notB v9) then (some (true,v5)) else ((getI v5.2.2.2.1.2.1 v5.1).bind fun v10 => ((((Ki (v10,()) ()).bind fun v11 => (some v11.1)):(Option Bool)).bind fun v12 => (((if (notB v12) then (some (true,v5)) else ((((Nq (v6,()) ()).bind fun v13 => (some v13.1)):(Option Bool)).bind fun v14 => (((if (notB v14) then (some (true,v5)) else ((getI v5.2.2.2.2.1.2.1 v5.1).bind fun v15 => ((((Cd (v15,()) ()).bind fun v16 => (some v16.1)):(Option (List Int))).bind fun v17 => ((((J7 (v6,(v17,())) ()).bind fun v18 => (some v18.1)):(Option Bool)).bind fun v19 => (some ((notB v19),v5)))))):(Option (Bool × (Int × (Int × ((List (List Int)) × (Ae × (Aa × Unit)))))))).bind fun v20 => (some v20)))):(Option (Bool × (Int × (Int × ((List (List Int)) × (Ae × (Aa × Unit)))))))).bind fun v21 => (some v21))))):(Option (Bool × (Int × (Int × ((List (List Int)) × (Ae × (Aa × Unit)))))))).bind fun v22 => (if v22.1 then (some (Out.ret (false,()))) else (some (Out.norm ((addZ .i64 v22.2.1 1),v22.2.2)))))))) else (some (Out.exit (Sum.inl ((ltZ v5.1 v5.2.1),v5))))))
def Iy (x:(Aa × (Ae × Unit))) (c:Unit):(Option (Bool × Unit)):=
  ((((Ao (x.1,()) ()).bind fun v0 => (some v0.1)):(Option Bool)).bind fun v1 => (((if (notB v1) then (some (true,(x.2.1,(x.1,())))) else (((if (notB (eqZ (lenI x.2.1.1) (lenI x.1.2.1))) then (some (true,(x.2.1,(x.1,())))) else (((if (notB (eqZ (lenI x.2.1.2.1) (lenI x.1.2.1))) then (some (true,(x.2.1,(x.1,())))) else (some ((notB (eqZ (lenI x.2.1.2.2.1) (lenI x.1.2.1))),(x.2.1,(x.1,()))))):(Option (Bool × (Ae × (Aa × Unit))))).bind fun v2 => (some v2))):(Option (Bool × (Ae × (Aa × Unit))))).bind fun v3 => (some v3))):(Option (Bool × (Ae × (Aa × Unit))))).bind fun v4 => (if v4.1 then (some (false,())) else ((loopN (A:=E5) big Ei (0,((lenI v4.2.1.2.2.1),(v4.2.1.2.2.1,v4.2)))).bind fun v23 => (match v23 with | Out.norm v24 => none | Out.exit v25 => (match ((match v25 with | Sum.inl v28 => (Sum.inl ()) | Sum.inr v29 => (Empty.elim v29)):(Unit ⊕ Empty)) with | Sum.inl v26 => (some (true,())) | Sum.inr v27 => none) | Out.ret v30 => (some v30))))))
def H_157:Hd:=⟨[y_0,y_3],[],none,.p,.bool,.p,[]⟩
def T_157:FSig:=sg_ H_157 Iy
theorem E_157:fnOf tys [(27,T_27),(77,T_77),(126,T_126),(127,T_127),(161,T_161)] Tryz.f157 H_157 = T_157:=by kernel_rfl
theorem K_157:SigOk Tryz.prog 157 T_157:=k_o E_157 ⟨K_27,K_77,K_126,K_127,K_161,trivial⟩ Tryz.func157
abbrev Bj:Type:=(Int × (Int × ((((List Int) × Unit) -> (Option Bool)) × ((List (List Int)) × Unit))))
def Bq:Bj -> Option (Out Bj ((Bool × Bj) ⊕ Empty) (Int × Unit)):=
  (fun v0 => (if (ltZ v0.1 v0.2.1) then ((getI v0.2.2.2.1 v0.1).bind fun v1 => ((v0.2.2.1 (v1,())).bind fun v2 => (if v2 then (some (Out.ret (v0.1,()))) else (some (Out.norm ((addZ .i64 v0.1 1),v0.2)))))) else (some (Out.exit (Sum.inl ((ltZ v0.1 v0.2.1),v0))))))
def B7 (x:((List (List Int)) × ((((List Int) × Unit) -> (Option Bool)) × Unit))) (c:Unit):(Option (Int × Unit)):=
  ((loopN (A:=Bj) big Bq (0,((lenI x.1),(x.2.1,(x.1,()))))).bind fun v3 => (match v3 with | Out.norm v4 => none | Out.exit v5 => (match ((match v5 with | Sum.inl v8 => (Sum.inl ()) | Sum.inr v9 => (Empty.elim v9)):(Unit ⊕ Empty)) with | Sum.inl v6 => (some ((-1),())) | Sum.inr v7 => none) | Out.ret v10 => (some v10)))
def H_164:Hd:=⟨[.sl 26 (.sl 3 (.int .i64)),.fn [.sl 3 (.int .i64)] (.bool)],[],none,.p,.int .i64,.p,[]⟩
def T_164:FSig:=sg_ H_164 B7
theorem E_164:fnOf tys [] Tryz.f164 H_164 = T_164:=by kernel_rfl
theorem K_164:SigOk Tryz.prog 164 T_164:=k_o E_164 trivial Tryz.func164
def Dn (x:((List (List Int)) × ((((List Int) × Unit) -> (Option Bool)) × Unit))) (c:Unit):(Option (Bool × Unit)):=
  ((((B7 x ()).bind fun v0 => (some v0.1)):(Option Int)).bind fun v1 => (some ((leZ 0 v1),())))
def H_162:Hd:=⟨[.sl 26 (.sl 3 (.int .i64)),.fn [.sl 3 (.int .i64)] (.bool)],[],none,.p,.bool,.p,[]⟩
def T_162:FSig:=sg_ H_162 Dn
theorem E_162:fnOf tys [(164,T_164)] Tryz.f162 H_162 = T_162:=by kernel_rfl
theorem K_162:SigOk Tryz.prog 162 T_162:=k_o E_162 ⟨K_164,trivial⟩ Tryz.func162
def Jk (x:((List Int) × Unit)) (c:Unit):(Option (Bool × Unit)):=
  (some ((eqZ (lenI x.1) 0),()))
def H_163:Hd:=⟨[.sl 3 (.int .i64)],[],none,.p,.bool,.p,[]⟩
def T_163:FSig:=sg_ H_163 Jk
theorem E_163:fnOf tys [] Tryz.f163 H_163 = T_163:=by kernel_rfl
theorem K_163:SigOk Tryz.prog 163 T_163:=k_o E_163 trivial Tryz.func163
abbrev D6:Type:=(Int × (Int × ((List Int) × (Ae × Unit))))
def Ld:D6 -> Option (Out D6 ((Bool × D6) ⊕ Empty) (Bool × Unit)):=
  (fun v0 => (if (ltZ v0.1 v0.2.1) then ((getI v0.2.2.1 v0.1).bind fun v1 => (((if (ltZ v0.1 (lenI v0.2.2.2.1.2.1)) then ((getI v0.2.2.2.1.2.1 v0.1).bind fun v2 => (some ((ltZ v2 v1),v0))) else (some (false,v0))):(Option (Bool × (Int × (Int × ((List Int) × (Ae × Unit))))))).bind fun v3 => (if v3.1 then (some (Out.ret (true,()))) else (some (Out.norm ((addZ .i64 v3.2.1 1),v3.2.2)))))) else (some (Out.exit (Sum.inl ((ltZ v0.1 v0.2.1),v0))))))
def Id (x:(Ae × Unit)) (c:Unit):(Option (Bool × Unit)):=
  ((loopN (A:=D6) big Ld (0,((lenI x.1.1),(x.1.1,(x.1,()))))).bind fun v4 => (match v4 with | Out.norm v5 => none | Out.exit v6 => (match ((match v6 with | Sum.inl v13 => (Sum.inl (v13.2.2.2.2.1,())) | Sum.inr v14 => (Empty.elim v14)):((Ae × Unit) ⊕ Empty)) with | Sum.inl v7 => ((((Dn (v7.1.2.2.1,((fun v8 => ((Jk v8 ()).bind fun v9 => (some v9.1))),())) ()).bind fun v10 => (some v10.1)):(Option Bool)).bind fun v11 => (some (v11,()))) | Sum.inr v12 => none) | Out.ret v15 => (some v15)))
def H_158:Hd:=⟨[y_3],[],none,.p,.bool,.p,[]⟩
def T_158:FSig:=sg_ H_158 Id
theorem E_158:fnOf tys [(162,T_162),(163,T_163)] Tryz.f158 H_158 = T_158:=by kernel_rfl
theorem K_158:SigOk Tryz.prog 158 T_158:=k_o E_158 ⟨K_162,K_163,trivial⟩ Tryz.func158
def Jh (x:(Aa × (Ae × Unit))) (c:Unit):(Option (Bool × Unit)):=
  ((((Iy x ()).bind fun v0 => (some v0.1)):(Option Bool)).bind fun v1 => (((if v1 then ((((Id (x.2.1,()) ()).bind fun v2 => (some v2.1)):(Option Bool)).bind fun v3 => (some ((notB v3),()))) else (some (false,()))):(Option (Bool × Unit))).bind fun v4 => (some (v4.1,()))))
def H_152:Hd:=⟨[y_0,y_3],[],none,.p,.bool,.p,[]⟩
def T_152:FSig:=sg_ H_152 Jh
theorem E_152:fnOf tys [(157,T_157),(158,T_158)] Tryz.f152 H_152 = T_152:=by kernel_rfl
theorem K_152:SigOk Tryz.prog 152 T_152:=k_o E_152 ⟨K_157,K_158,trivial⟩ Tryz.func152
def J5 (x:(Aa × (Ae × (Int × Unit)))) (c:Unit):(Option (Bool × Unit)):=
  ((((Jh (x.1,(x.2.1,())) ()).bind fun v0 => (some v0.1)):(Option Bool)).bind fun v1 => (((if v1 then ((((Df (x.1,(x.2.2.1,())) ()).bind fun v2 => (some v2.1)):(Option Bool)).bind fun v3 => (some (v3,()))) else (some (false,()))):(Option (Bool × Unit))).bind fun v4 => (some (v4.1,()))))
def H_137:Hd:=⟨[y_0,y_3,.int .i64],[],none,.p,.bool,.p,[]⟩
def T_137:FSig:=sg_ H_137 J5
theorem E_137:fnOf tys [(130,T_130),(152,T_152)] Tryz.f137 H_137 = T_137:=by kernel_rfl
theorem K_137:SigOk Tryz.prog 137 T_137:=k_o E_137 ⟨K_130,K_152,trivial⟩ Tryz.func137
def I3 (x:(D_Mode × Unit)) (c:(Int × Unit)):(Option ((Int × (Bool × Unit)) × Unit)):=
  ((((Kb (x.1.2.1,(c.1,())) ()).bind fun v0 => (some v0.1)):(Option (Int × (Bool × Unit)))).bind fun v1 => (some (v1,())))
def H_159:Hd:=⟨[y_4],[.int .i64],none,.p,.tup [.int .i64,.bool],.p,[]⟩
def T_159:FSig:=sg_ H_159 I3
theorem E_159:fnOf tys [(108,T_108)] Tryz.f159 H_159 = T_159:=by kernel_rfl
theorem K_159:SigOk Tryz.prog 159 T_159:=k_o E_159 ⟨K_108,trivial⟩ Tryz.func159
def Hh (x:(Ad × ((List Int) × (Int × Unit)))) (c:Unit):(Option (Int × Unit)):=
  ((((Jv (x.1,(x.2.1,())) ()).bind fun v0 => (some v0.1)):(Option (List D_Mode))).bind fun v1 => ((((Kj (v1,((fun v2 => ((I3 v2 (x.2.2.1,())).bind fun v3 => (some v3.1))),())) ()).bind fun v4 => (some v4.1)):(Option Int)).bind fun v5 => (some (v5,()))))
def H_153:Hd:=⟨[y_1,.sl 3 (.int .i64),.int .i64],[],none,.p,.int .i64,.p,[]⟩
def T_153:FSig:=sg_ H_153 Hh
theorem E_153:fnOf tys [(105,T_105),(106,T_106),(159,T_159)] Tryz.f153 H_153 = T_153:=by kernel_rfl
theorem K_153:SigOk Tryz.prog 153 T_153:=k_o E_153 ⟨K_105,K_106,K_159,trivial⟩ Tryz.func153
def Gn (x:(Aa × (Ae × D_Step))) (c:Unit):(Option (Int × Unit)):=
  ((((Jh (x.1,(x.2.1,())) ()).bind fun v0 => (some v0.1)):(Option Bool)).bind fun v1 => (((if (notB v1) then (some (true,(x.1,(x.2.1,(x.2.2.2.1,(x.2.2.1,())))))) else ((((As (x.1,(x.2.2.2.1,())) ()).bind fun v2 => (some v2.1)):(Option Bool)).bind fun v3 => (((if (notB v3) then (some (true,(x.1,(x.2.1,(x.2.2.2.1,(x.2.2.1,())))))) else ((((A8 (x.1,(x.2.2.1,())) ()).bind fun v4 => (some v4.1)):(Option Bool)).bind fun v5 => (some ((notB v5),(x.1,(x.2.1,(x.2.2.2.1,(x.2.2.1,())))))))):(Option (Bool × (Aa × (Ae × D_Step))))).bind fun v6 => (some v6)))):(Option (Bool × (Aa × (Ae × D_Step))))).bind fun v7 => (if v7.1 then (some (0,())) else ((getI v7.2.1.2.1 v7.2.2.2.1).bind fun v8 => ((getI v7.2.2.1.2.2.1 v7.2.2.2.1).bind fun v9 => ((((Hh (v8,(v9,(v7.2.2.2.2.1,()))) ()).bind fun v10 => (some v10.1)):(Option Int)).bind fun v11 => (some (v11,()))))))))
def H_140:Hd:=⟨[y_0,y_3,.int .i64,.int .i64],[],none,.p,.int .i64,.p,[]⟩
def T_140:FSig:=sg_ H_140 Gn
theorem E_140:fnOf tys [(41,T_41),(149,T_149),(152,T_152),(153,T_153)] Tryz.f140 H_140 = T_140:=by kernel_rfl
theorem K_140:SigOk Tryz.prog 140 T_140:=k_o E_140 ⟨K_41,K_149,K_152,K_153,trivial⟩ Tryz.func140
def In (x:(Int × Unit)) (c:(Aa × (Ae × (Int × Unit)))):(Option (Bool × Unit)):=
  ((((Gn (c.1,(c.2.1,(c.2.2.1,(x.1,())))) ()).bind fun v0 => (some v0.1)):(Option Int)).bind fun v1 => (some ((ltZ 0 v1),())))
def H_139:Hd:=⟨[.int .i64],[y_0,y_3,.int .i64],none,.p,.bool,.p,[]⟩
def T_139:FSig:=sg_ H_139 In
theorem E_139:fnOf tys [(140,T_140)] Tryz.f139 H_139 = T_139:=by kernel_rfl
theorem K_139:SigOk Tryz.prog 139 T_139:=k_o E_139 ⟨K_140,trivial⟩ Tryz.func139
def Jg (x:(Int × Unit)) (c:Unit):(Option (Bool × Unit)):=
  (some ((notB (eqZ x.1 x.1)),()))
def H_114:Hd:=⟨[.int .i64],[],none,.p,.bool,.p,[]⟩
def T_114:FSig:=sg_ H_114 Jg
theorem E_114:fnOf tys [] Tryz.f114 H_114 = T_114:=by kernel_rfl
theorem K_114:SigOk Tryz.prog 114 T_114:=k_o E_114 trivial Tryz.func114
def I8 (x:D_Step) (c:Unit):(Option (Int × Unit)):=
  ((((Jg (x.1,()) ()).bind fun v0 => (some v0.1)):(Option Bool)).bind fun v1 => ((((Jg (x.2.1,()) ()).bind fun v2 => (some v2.1)):(Option Bool)).bind fun v3 => (if v1 then (if v3 then (some (0,())) else (some ((-1),()))) else (if v3 then (some (1,())) else (if (ltZ x.1 x.2.1) then (some ((-1),())) else (if (ltZ x.2.1 x.1) then (some (1,())) else (some (0,()))))))))
def H_87:Hd:=⟨[.int .i64,.int .i64],[],none,.p,.int .i64,.p,[]⟩
def T_87:FSig:=sg_ H_87 I8
theorem E_87:fnOf tys [(114,T_114)] Tryz.f87 H_87 = T_87:=by kernel_rfl
theorem K_87:SigOk Tryz.prog 87 T_87:=k_o E_87 ⟨K_114,trivial⟩ Tryz.func87
def Dk (x:D_Step) (c:(Ae × Unit)):(Option (Int × Unit)):=
  ((getI c.1.1 x.1).bind fun v0 => ((getI c.1.1 x.2.1).bind fun v1 => ((((I8 (v0,(v1,())) ()).bind fun v2 => (some v2.1)):(Option Int)).bind fun v3 => (some (v3,())))))
def H_141:Hd:=⟨[.int .i64,.int .i64],[y_3],none,.p,.int .i64,.p,[]⟩
def T_141:FSig:=sg_ H_141 Dk
theorem E_141:fnOf tys [(87,T_87)] Tryz.f141 H_141 = T_141:=by kernel_rfl
theorem K_141:SigOk Tryz.prog 141 T_141:=k_o E_141 ⟨K_87,trivial⟩ Tryz.func141
def Dh (x:(Aa × (Ae × (Int × Unit)))) (c:Unit):(Option ((List Int) × Unit)):=
  ((((J5 x ()).bind fun v0 => (some v0.1)):(Option Bool)).bind fun v1 => (if (notB v1) then (some ([],())) else ((((Fj ((lenI x.1.2.1),()) ()).bind fun v2 => (some v2.1)):(Option (List Int))).bind fun v3 => ((((M3 (v3,((fun v4 => ((In v4 x).bind fun v5 => (some v5.1))),())) ()).bind fun v6 => (some v6.1)):(Option (List Int))).bind fun v7 => ((Bv (v7,((fun v8 => ((Dk v8 (x.2.1,())).bind fun v9 => (some v9.1))),())) ()).bind fun v10 => (some (v10.2,())))))))
def H_110:Hd:=⟨[y_0,y_3,.int .i64],[],none,.p,.sl 3 (.int .i64),(Ty.all (.sl 3 (.int .i64))),[]⟩
def T_110:FSig:=sg_ H_110 Dh
theorem E_110:fnOf tys [(22,T_22),(85,T_85),(137,T_137),(138,T_138),(139,T_139),(141,T_141)] Tryz.f110 H_110 = T_110:=by kernel_rfl
theorem K_110:SigOk Tryz.prog 110 T_110:=k_o E_110 ⟨K_22,K_85,K_137,K_138,K_139,K_141,trivial⟩ Tryz.func110
def Ef (x:(Aa × (Ae × (Int × Unit)))) (c:Unit):(Option (Int × Unit)):=
  ((getI x.1.2.1 x.2.2.1).bind fun v0 => ((getI x.2.1.2.2.1 x.2.2.1).bind fun v1 => ((((D4 (v0,(v1,())) ()).bind fun v2 => (some v2.1)):(Option Int)).bind fun v3 => (some (v3,())))))
def H_112:Hd:=⟨[y_0,y_3,.int .i64],[],none,.p,.int .i64,.p,[]⟩
def T_112:FSig:=sg_ H_112 Ef
theorem E_112:fnOf tys [(78,T_78)] Tryz.f112 H_112 = T_112:=by kernel_rfl
theorem K_112:SigOk Tryz.prog 112 T_112:=k_o E_112 ⟨K_78,trivial⟩ Tryz.func112
abbrev Dz:Type:=(Int × (Int × ((List Int) × (Bool × (Int × (Int × (Int × (Int × (Int × (Int × ((List Int) × ((List Int) × (Int × (Aa × (Ae × Unit)))))))))))))))
def Ez:Dz -> Option (Out Dz ((Bool × Dz) ⊕ Empty) (Int × Unit)):=
  (fun v12 => (if (ltZ v12.1 v12.2.1) then ((((getI v12.2.2.2.2.2.2.2.2.2.2.2.1 v12.1).bind fun v13 => (some ())):(Option Unit)).bind fun v14 => ((((getI v12.2.2.2.2.2.2.2.2.2.2.2.1 (List.headD (v12.2.2.1 ++ (v12.1 :: [])) 0)).bind fun v15 => (some v15)):(Option Int)).bind fun v16 => ((((Cp (v12.2.2.2.2.2.2.2.2.2.2.2.2.2.1,(v12.2.2.2.2.2.2.2.2.2.2.2.2.1,(v16,(v12.2.2.2.2.2.1,())))) ()).bind fun v17 => (some v17.1)):(Option Int)).bind fun v18 => (((if (notB (eqZ v16 v12.2.2.2.2.2.1)) then (((if (notB v12.2.2.2.1) then (some (true,(v18,v12))) else (some ((ltZ v18 v12.2.2.2.2.2.2.2.1),(v18,v12)))):(Option (Bool × (Int × (Int × (Int × ((List Int) × (Bool × (Int × (Int × (Int × (Int × (Int × (Int × ((List Int) × ((List Int) × (Int × (Aa × (Ae × Unit))))))))))))))))))).bind fun v19 => (some v19)) else (some (false,(v18,v12)))):(Option (Bool × (Int × (Int × (Int × ((List Int) × (Bool × (Int × (Int × (Int × (Int × (Int × (Int × ((List Int) × ((List Int) × (Int × (Aa × (Ae × Unit))))))))))))))))))).bind fun v20 => (((if v20.1 then (some (Out.norm (v20.2.2.1,(v20.2.2.2.1,(v20.2.2.2.2.1,(true,(v20.2.2.2.2.2.2.1,(v20.2.2.2.2.2.2.2.1,(v20.2.2.2.2.2.2.2.2.1,(v20.2.1,v20.2.2.2.2.2.2.2.2.2.2)))))))))) else (some (Out.norm v20.2.2))):(Option (Out (Int × (Int × ((List Int) × (Bool × (Int × (Int × (Int × (Int × (Int × (Int × ((List Int) × ((List Int) × (Int × (Aa × (Ae × Unit))))))))))))))) Empty (Int × Unit)))).bind fun v21 => (match ((match ((match ((match v21 with | Out.norm v33 => (Out.norm v33) | Out.exit v34 => (Out.exit v34) | Out.ret v35 => (Out.ret v35)):(Out (Int × (Int × ((List Int) × (Bool × (Int × (Int × (Int × (Int × (Int × (Int × ((List Int) × ((List Int) × (Int × (Aa × (Ae × Unit))))))))))))))) Empty (Int × Unit))) with | Out.norm v30 => (Out.norm v30) | Out.exit v31 => (Out.exit v31) | Out.ret v32 => (Out.ret v32)):(Out (Int × (Int × ((List Int) × (Bool × (Int × (Int × (Int × (Int × (Int × (Int × ((List Int) × ((List Int) × (Int × (Aa × (Ae × Unit))))))))))))))) Empty (Int × Unit))) with | Out.norm v27 => (Out.norm v27) | Out.exit v28 => (Out.exit v28) | Out.ret v29 => (Out.ret v29)):(Out (Int × (Int × ((List Int) × (Bool × (Int × (Int × (Int × (Int × (Int × (Int × ((List Int) × ((List Int) × (Int × (Aa × (Ae × Unit))))))))))))))) Empty (Int × Unit))) with | Out.norm v22 => (some (Out.norm ((addZ .i64 v22.1 1),v22.2))) | Out.exit v23 => (match ((Empty.elim v23):((Int × (Int × ((List Int) × (Bool × (Int × (Int × (Int × (Int × (Int × (Int × ((List Int) × ((List Int) × (Int × (Aa × (Ae × Unit))))))))))))))) ⊕ Empty)) with | Sum.inl v24 => (some (Out.norm ((addZ .i64 v24.1 1),v24.2))) | Sum.inr v25 => (some (Out.exit (Sum.inr (Empty.elim v25))))) | Out.ret v26 => (some (Out.ret v26)))))))) else (some (Out.exit (Sum.inl ((ltZ v12.1 v12.2.1),v12))))))
abbrev Dr:Type:=(Int × (Int × ((List Int) × ((List Int) × (Int × (Aa × (Ae × D_Step)))))))
def E9:Dr -> Option (Out Dr ((Bool × Dr) ⊕ Empty) (Int × Unit)):=
  (fun v7 => (if (ltZ v7.1 v7.2.1) then ((((getI v7.2.2.2.1 v7.1).bind fun v8 => (some ())):(Option Unit)).bind fun v9 => ((((getI v7.2.2.2.1 (List.headD (v7.2.2.1 ++ (v7.1 :: [])) 0)).bind fun v10 => (some v10)):(Option Int)).bind fun v11 => ((loopN (A:=Dz) big Ez (0,((lenI v7.2.2.2.1),([],(false,(v7.2.2.2.2.2.2.2.1,(v11,(v7.2.2.2.2.2.2.2.2.1,(0,(v7.1,(v7.2.1,(v7.2.2.1,(v7.2.2.2.1,(v7.2.2.2.2.1,(v7.2.2.2.2.2.1,(v7.2.2.2.2.2.2.1,())))))))))))))))).bind fun v36 => (match v36 with | Out.norm v37 => none | Out.exit v38 => (match ((match v38 with | Sum.inl v45 => (Sum.inl v45.2.2.2.2.2) | Sum.inr v46 => (Empty.elim v46)):((Int × (Int × (Int × (Int × (Int × (Int × ((List Int) × ((List Int) × (Int × (Aa × (Ae × Unit))))))))))) ⊕ Empty)) with | Sum.inl v39 => ((((Ef (v39.2.2.2.2.2.2.2.2.2.1,(v39.2.2.2.2.2.2.2.2.2.2.1,(v39.2.1,()))) ()).bind fun v40 => (some v40.1)):(Option Int)).bind fun v41 => (some (Out.norm ((addZ .i64 v39.2.2.2.2.1 1),(v39.2.2.2.2.2.1,(v39.2.2.2.2.2.2.1,(v39.2.2.2.2.2.2.2.1,(v39.2.2.2.2.2.2.2.2.1,(v39.2.2.2.2.2.2.2.2.2.1,(v39.2.2.2.2.2.2.2.2.2.2.1,((addZ .i64 v39.1 (addZ .i64 v41 v39.2.2.2.1)),((maxI v39.2.2.1 v39.2.2.2.1),())))))))))))) | Sum.inr v42 => (match ((Empty.elim (Empty.elim v42)):((Int × (Int × ((List Int) × ((List Int) × (Int × (Aa × (Ae × D_Step))))))) ⊕ Empty)) with | Sum.inl v43 => (some (Out.norm ((addZ .i64 v43.1 1),v43.2))) | Sum.inr v44 => (some (Out.exit (Sum.inr (Empty.elim v44)))))) | Out.ret v47 => (some (Out.ret v47)))))) else (some (Out.exit (Sum.inl ((ltZ v7.1 v7.2.1),v7))))))
def Ch (x:(Aa × (Ae × (Int × Unit)))) (c:Unit):(Option (Int × Unit)):=
  ((((Dh x ()).bind fun v0 => (some v0.1)):(Option (List Int))).bind fun v1 => (if (eqZ (lenI v1) 0) then (some (0,())) else ((((getI v1 0).bind fun v2 => (some ())):(Option Unit)).bind fun v3 => ((((getI v1 0).bind fun v4 => (some v4)):(Option Int)).bind fun v5 => ((getI x.2.1.1 v5).bind fun v6 => ((loopN (A:=Dr) big E9 (0,((lenI v1),([],(v1,(x.2.2.1,(x.1,(x.2.1,(v6,(0,())))))))))).bind fun v48 => (match v48 with | Out.norm v49 => none | Out.exit v50 => (match ((match v50 with | Sum.inl v53 => (Sum.inl v53.2.2.2.2.2.2.2.2) | Sum.inr v54 => (Empty.elim v54)):(D_Step ⊕ Empty)) with | Sum.inl v51 => (some ((subZ .i64 v51.1 v51.2.1),())) | Sum.inr v52 => none) | Out.ret v55 => (some v55))))))))
def H_83:Hd:=⟨[y_0,y_3,.int .i64],[],none,.p,.int .i64,.p,[]⟩
def T_83:FSig:=sg_ H_83 Ch
theorem E_83:fnOf tys [(110,T_110),(111,T_111),(112,T_112)] Tryz.f83 H_83 = T_83:=by kernel_rfl
theorem K_83:SigOk Tryz.prog 83 T_83:=k_o E_83 ⟨K_110,K_111,K_112,trivial⟩ Tryz.func83
abbrev C4:Type:=(Int × (Int × ((List Ad) × (Aa × (Ae × (Ae × Unit))))))
def Kc:C4 -> Option (Out C4 ((Bool × C4) ⊕ Empty) (Ae × Unit)):=
  (fun v2 => (if (ltZ v2.1 v2.2.1) then ((getI v2.2.2.1 v2.1).bind fun v3 => ((addI v2.2.2.2.2.1.1 (0 :: [])).bind fun v4 => ((addI v2.2.2.2.2.1.2.1 ((subZ .i64 v2.2.2.2.1.1 1) :: [])).bind fun v5 => ((((Cd (v3,()) ()).bind fun v6 => (some v6.1)):(Option (List Int))).bind fun v7 => ((addI v2.2.2.2.2.1.2.2.1 (v7 :: [])).bind fun v8 => (some (Out.norm ((addZ .i64 v2.1 1),(v2.2.1,(v2.2.2.1,(v2.2.2.2.1,((v4,(v5,(v8,()))),(v2.2.2.2.2.2.1,()))))))))))))) else (some (Out.exit (Sum.inl ((ltZ v2.1 v2.2.1),v2))))))
def Ge (x:(Aa × Unit)) (c:Unit):(Option (Ae × Unit)):=
  ((((Ao (x.1,()) ()).bind fun v0 => (some v0.1)):(Option Bool)).bind fun v1 => (if (notB v1) then (some (([],([],([],()))),())) else ((loopN (A:=C4) big Kc (0,((lenI x.1.2.1),(x.1.2.1,(x.1,(([],([],([],()))),(([],([],([],()))),()))))))).bind fun v9 => (match v9 with | Out.norm v10 => none | Out.exit v11 => (match ((match v11 with | Sum.inl v14 => (Sum.inl v14.2.2.2.2.2) | Sum.inr v15 => (Empty.elim v15)):((Ae × (Ae × Unit)) ⊕ Empty)) with | Sum.inl v12 => (some (v12.1,())) | Sum.inr v13 => none) | Out.ret v16 => (some v16)))))
def H_84:Hd:=⟨[y_0],[],none,.p,y_3,(Ty.all (y_3)),[]⟩
def T_84:FSig:=sg_ H_84 Ge
theorem E_84:fnOf tys [(27,T_27),(77,T_77)] Tryz.f84 H_84 = T_84:=by kernel_rfl
theorem K_84:SigOk Tryz.prog 84 T_84:=k_o E_84 ⟨K_27,K_77,trivial⟩ Tryz.func84
abbrev B5:Type:=(Int × (Int × (Aa × (Int × Unit))))
def Co:B5 -> Option (Out B5 ((Bool × B5) ⊕ Empty) (Int × Unit)):=
  (fun v2 => (if (ltZ v2.1 v2.2.1) then ((((Ge (v2.2.2.1,()) ()).bind fun v3 => (some v3.1)):(Option Ae)).bind fun v4 => ((((Ch (v2.2.2.1,(v4,(v2.1,()))) ()).bind fun v5 => (some v5.1)):(Option Int)).bind fun v6 => (some (Out.norm ((addZ .i64 v2.1 1),(v2.2.1,(v2.2.2.1,((maxI v2.2.2.2.1 v6),())))))))) else (some (Out.exit (Sum.inl ((ltZ v2.1 v2.2.1),v2))))))
def Cf (x:(Aa × Unit)) (c:Unit):(Option (Int × Unit)):=
  ((((Ao (x.1,()) ()).bind fun v0 => (some v0.1)):(Option Bool)).bind fun v1 => (if (notB v1) then (some (0,())) else ((loopN (A:=B5) big Co (0,((lenI x.1.2.2.2.1),(x.1,(0,()))))).bind fun v7 => (match v7 with | Out.norm v8 => none | Out.exit v9 => (match ((match v9 with | Sum.inl v12 => (Sum.inl (v12.2.2.2.2.1,())) | Sum.inr v13 => (Empty.elim v13)):((Int × Unit) ⊕ Empty)) with | Sum.inl v10 => (some (v10.1,())) | Sum.inr v11 => none) | Out.ret v14 => (some v14)))))
def H_43:Hd:=⟨[y_0],[],none,.p,.int .i64,.p,[]⟩
def T_43:FSig:=sg_ H_43 Cf
theorem E_43:fnOf tys [(27,T_27),(83,T_83),(84,T_84)] Tryz.f43 H_43 = T_43:=by kernel_rfl
theorem K_43:SigOk Tryz.prog 43 T_43:=k_o E_43 ⟨K_27,K_83,K_84,trivial⟩ Tryz.func43
def O5:Hd:=⟨[y_0],[],none,.p,.int .i64,.p,[]⟩
def I9:(Aa × Unit) -> Unit -> Option (Int × Unit):=lbF Ao Bm Ek Cf
def Mf:FSig:=sg_ O5 I9
theorem O9:SigOk Tryz.prog 14 Mf:=Tryz.lb_ok K_27 K_13 K_42 K_43
abbrev B4:Type:=(Int × (Int × ((List Int) × Ac)))
def Bp:B4 -> Option (Out B4 ((Bool × B4) ⊕ Empty) ((List Int) × Unit)):=
  (fun v6 => (if (ltZ v6.1 v6.2.1) then ((((getI v6.2.2.1 v6.1).bind fun v7 => (some ())):(Option Unit)).bind fun v8 => ((((getI v6.2.2.1 v6.1).bind fun v9 => (some v9)):(Option Int)).bind fun v10 => ((((getI v6.2.2.2.1 v6.1).bind fun v11 => (some ())):(Option Unit)).bind fun v12 => ((((getI v6.2.2.2.1 v6.1).bind fun v13 => (some v13)):(Option Int)).bind fun v14 => (((if (eqZ v10 v14) then ((addI v6.2.2.2.2.1 (v6.1 :: [])).bind fun v15 => (some (Out.norm (v6.1,(v6.2.1,(v6.2.2.1,(v6.2.2.2.1,(v15,())))))))) else (some (Out.norm v6))):(Option (Out (Int × (Int × ((List Int) × Ac))) Empty ((List Int) × Unit)))).bind fun v16 => (match ((match ((match v16 with | Out.norm v25 => (Out.norm v25) | Out.exit v26 => (Out.exit v26) | Out.ret v27 => (Out.ret v27)):(Out (Int × (Int × ((List Int) × Ac))) Empty ((List Int) × Unit))) with | Out.norm v22 => (Out.norm v22) | Out.exit v23 => (Out.exit v23) | Out.ret v24 => (Out.ret v24)):(Out (Int × (Int × ((List Int) × Ac))) Empty ((List Int) × Unit))) with | Out.norm v17 => (some (Out.norm ((addZ .i64 v17.1 1),v17.2))) | Out.exit v18 => (match ((Empty.elim v18):((Int × (Int × ((List Int) × Ac))) ⊕ Empty)) with | Sum.inl v19 => (some (Out.norm ((addZ .i64 v19.1 1),v19.2))) | Sum.inr v20 => (some (Out.exit (Sum.inr (Empty.elim v20))))) | Out.ret v21 => (some (Out.ret v21)))))))) else (some (Out.exit (Sum.inl ((ltZ v6.1 v6.2.1),v6))))))
def C7 (x:(Aa × Unit)) (c:Unit):(Option ((List Int) × Unit)):=
  ((((Bm (x.1,()) ()).bind fun v0 => (some v0.1)):(Option Int)).bind fun v1 => ((((B3 (x.1,(v1,())) ()).bind fun v2 => (some v2.1)):(Option (List Int))).bind fun v3 => ((((Au (x.1,()) ()).bind fun v4 => (some v4.1)):(Option (List Int))).bind fun v5 => ((loopN (A:=B4) big Bp (0,((lenI v5),(v5,(v3,([],())))))).bind fun v28 => (match v28 with | Out.norm v29 => none | Out.exit v30 => (match ((match v30 with | Sum.inl v33 => (Sum.inl (v33.2.2.2.2.2.1,())) | Sum.inr v34 => (Empty.elim v34)):(((List Int) × Unit) ⊕ Empty)) with | Sum.inl v31 => (some (v31.1,())) | Sum.inr v32 => none) | Out.ret v35 => (some v35))))))
def H_15:Hd:=⟨[y_0],[],none,.p,.sl 3 (.int .i64),(Ty.all (.sl 3 (.int .i64))),[]⟩
def T_15:FSig:=sg_ H_15 C7
theorem E_15:fnOf tys [(6,T_6),(9,T_9),(13,T_13)] Tryz.f15 H_15 = T_15:=by kernel_rfl
theorem K_15:SigOk Tryz.prog 15 T_15:=k_o E_15 ⟨K_6,K_9,K_13,trivial⟩ Tryz.func15
def Dw (x:(Aa × Unit)) (c:Unit):(Option (Bool × Unit)):=
  ((((Ao (x.1,()) ()).bind fun v0 => (some v0.1)):(Option Bool)).bind fun v1 => (((if v1 then ((((Bh (x.1,()) ()).bind fun v2 => (some v2.1)):(Option (List Int))).bind fun v3 => (((if (ltZ 0 (lenI v3)) then (some (true,())) else ((((Bm (x.1,()) ()).bind fun v4 => (some v4.1)):(Option Int)).bind fun v5 => (some ((ltZ x.1.1 v5),())))):(Option (Bool × Unit))).bind fun v6 => (some (v6.1,())))) else (some (false,()))):(Option (Bool × Unit))).bind fun v7 => (some (v7.1,()))))
def H_16:Hd:=⟨[y_0],[],none,.p,.bool,.p,[]⟩
def T_16:FSig:=sg_ H_16 Dw
theorem E_16:fnOf tys [(8,Hy),(13,T_13),(27,T_27)] Tryz.f16 H_16 = T_16:=by kernel_rfl
theorem K_16:SigOk Tryz.prog 16 T_16:=k_o E_16 ⟨Hz,K_13,K_27,trivial⟩ Tryz.func16
abbrev H6:Type:=(Int × (Int × (Ac × (Int × (Int × ((List Ac) × ((List Int) × ((List Int) × ((List Int) × (Aa × ((List Ac) × Unit)))))))))))
def J3:H6 -> Option (Out H6 ((Bool × H6) ⊕ Empty) (Bool × Unit)):=
  (fun v17 => (if (ltZ v17.1 v17.2.1) then ((getI v17.2.2.1.1 v17.1).bind fun v18 => ((((getI v17.2.2.2.2.2.2.2.2.1 v17.1).bind fun v19 => (some ())):(Option Unit)).bind fun v20 => ((((getI v17.2.2.2.2.2.2.2.2.1 v17.1).bind fun v21 => (some v21)):(Option Int)).bind fun v22 => (((if (ltZ v18 v22) then (some (true,v17)) else ((getI v17.2.2.1.1 v17.1).bind fun v23 => ((((getI v17.2.2.2.2.2.2.2.1 v17.1).bind fun v24 => (some ())):(Option Unit)).bind fun v25 => ((((getI v17.2.2.2.2.2.2.2.1 v17.1).bind fun v26 => (some v26)):(Option Int)).bind fun v27 => (((if (ltZ v27 v23) then (some (true,v17)) else ((((getI v17.2.2.2.2.2.2.1 v17.1).bind fun v28 => (some ())):(Option Unit)).bind fun v29 => ((((getI v17.2.2.2.2.2.2.1 v17.1).bind fun v30 => (some v30)):(Option Int)).bind fun v31 => ((((getI v17.2.2.2.2.2.2.2.1 v17.1).bind fun v32 => (some ())):(Option Unit)).bind fun v33 => ((((getI v17.2.2.2.2.2.2.2.1 v17.1).bind fun v34 => (some v34)):(Option Int)).bind fun v35 => ((((getI v17.2.2.2.2.2.2.2.2.1 v17.1).bind fun v36 => (some ())):(Option Unit)).bind fun v37 => ((((getI v17.2.2.2.2.2.2.2.2.1 v17.1).bind fun v38 => (some v38)):(Option Int)).bind fun v39 => (((if (notB (eqZ v31 (subZ .i64 v35 v39))) then (some (true,v17)) else ((((Hm (v17.2.2.2.2.2.2.2.2.2.1,(v17.2.2.1,())) ()).bind fun v40 => (some v40.1)):(Option Int)).bind fun v41 => ((getI v17.2.2.1.1 v17.1).bind fun v42 => ((((Jc (v17.2.2.2.2.2.2.2.2.2.1,(v17.1,())) ()).bind fun v43 => (some v43.1)):(Option Int)).bind fun v44 => (some ((ltZ v41 (addZ .i64 v42 v44)),v17)))))):(Option (Bool × (Int × (Int × (Ac × (Int × (Int × ((List Ac) × ((List Int) × ((List Int) × ((List Int) × (Aa × ((List Ac) × Unit)))))))))))))).bind fun v45 => (some v45))))))))):(Option (Bool × (Int × (Int × (Ac × (Int × (Int × ((List Ac) × ((List Int) × ((List Int) × ((List Int) × (Aa × ((List Ac) × Unit)))))))))))))).bind fun v46 => (some v46)))))):(Option (Bool × (Int × (Int × (Ac × (Int × (Int × ((List Ac) × ((List Int) × ((List Int) × ((List Int) × (Aa × ((List Ac) × Unit)))))))))))))).bind fun v47 => (if v47.1 then (some (Out.ret (false,()))) else (some (Out.norm ((addZ .i64 v47.2.1 1),v47.2.2)))))))) else (some (Out.exit (Sum.inl ((ltZ v17.1 v17.2.1),v17))))))
abbrev Ia:Type:=(Int × (Int × ((List Ac) × ((List Int) × ((List Int) × ((List Int) × (Aa × ((List Ac) × Unit))))))))
def J8:Ia -> Option (Out Ia ((Bool × Ia) ⊕ Empty) (Bool × Unit)):=
  (fun v15 => (if (ltZ v15.1 v15.2.1) then ((getI v15.2.2.1 v15.1).bind fun v16 => (if (notB (eqZ (lenI v16.1) (lenI v15.2.2.2.2.2.1))) then (some (Out.ret (false,()))) else ((loopN (A:=H6) big J3 (0,((lenI v15.2.2.2.2.2.2.1.2.1),(v16,v15)))).bind fun v48 => (match v48 with | Out.norm v49 => none | Out.exit v50 => (match ((match v50 with | Sum.inl v64 => (Sum.inl v64.2.2.2) | Sum.inr v65 => (Empty.elim v65)):((Ac × (Int × (Int × ((List Ac) × ((List Int) × ((List Int) × ((List Int) × (Aa × ((List Ac) × Unit))))))))) ⊕ Empty)) with | Sum.inl v51 => ((((Hm (v51.2.2.2.2.2.2.2.1,(v51.1,())) ()).bind fun v52 => (some v52.1)):(Option Int)).bind fun v53 => ((((Bm (v51.2.2.2.2.2.2.2.1,()) ()).bind fun v54 => (some v54.1)):(Option Int)).bind fun v55 => (((if (ltZ v53 v55) then (some (true,v51.2)) else ((((Hm (v51.2.2.2.2.2.2.2.1,(v51.1,())) ()).bind fun v56 => (some v56.1)):(Option Int)).bind fun v57 => ((((I9 (v51.2.2.2.2.2.2.2.1,()) ()).bind fun v58 => (some v58.1)):(Option Int)).bind fun v59 => (some ((ltZ v57 v59),v51.2))))):(Option (Bool × (Int × (Int × ((List Ac) × ((List Int) × ((List Int) × ((List Int) × (Aa × ((List Ac) × Unit))))))))))).bind fun v60 => (if v60.1 then (some (Out.ret (false,()))) else (some (Out.norm ((addZ .i64 v60.2.1 1),v60.2.2))))))) | Sum.inr v61 => (match ((Empty.elim (Empty.elim v61)):((Int × (Int × ((List Ac) × ((List Int) × ((List Int) × ((List Int) × (Aa × ((List Ac) × Unit)))))))) ⊕ Empty)) with | Sum.inl v62 => (some (Out.norm ((addZ .i64 v62.1 1),v62.2))) | Sum.inr v63 => (some (Out.exit (Sum.inr (Empty.elim v63)))))) | Out.ret v66 => (some (Out.ret v66)))))) else (some (Out.exit (Sum.inl ((ltZ v15.1 v15.2.1),v15))))))
def Ml (x:((List Int) × Unit)) (c:Unit):(Option (Bool × Unit)):=
  (if (ltZ 1048576 (lenI x.1)) then (some (true,())) else ((((J9 (x.1,()) ()).bind fun v0 => (some v0.1)):(Option Aa)).bind fun v1 => ((((Au (v1,()) ()).bind fun v2 => (some v2.1)):(Option (List Int))).bind fun v3 => ((((Fc (v1,(6,())) ()).bind fun v4 => (some v4.1)):(Option (List Ac))).bind fun v5 => (if (eqZ (lenI v3) 0) then (((if (eqZ (lenI v5) 0) then ((((Bh (v1,()) ()).bind fun v6 => (some v6.1)):(Option (List Int))).bind fun v7 => (some ((ltZ 0 (lenI v7)),()))) else (some (false,()))):(Option (Bool × Unit))).bind fun v8 => (some (v8.1,()))) else ((((B3 (v1,(v1.1,())) ()).bind fun v9 => (some v9.1)):(Option (List Int))).bind fun v10 => ((((Mi (v1,(v1.1,())) ()).bind fun v11 => (some v11.1)):(Option (List Int))).bind fun v12 => (((if (notB (eqZ (lenI v3) (lenI v1.2.1))) then (some (true,(v12,(v10,(v3,(v1,(v5,()))))))) else (((if (notB (eqZ (lenI v10) (lenI v3))) then (some (true,(v12,(v10,(v3,(v1,(v5,()))))))) else (some ((notB (eqZ (lenI v12) (lenI v3))),(v12,(v10,(v3,(v1,(v5,())))))))):(Option (Bool × ((List Int) × ((List Int) × ((List Int) × (Aa × ((List Ac) × Unit)))))))).bind fun v13 => (some v13))):(Option (Bool × ((List Int) × ((List Int) × ((List Int) × (Aa × ((List Ac) × Unit)))))))).bind fun v14 => (if v14.1 then (some (false,())) else ((loopN (A:=Ia) big J8 (0,((lenI v14.2.2.2.2.2.1),(v14.2.2.2.2.2.1,v14.2)))).bind fun v67 => (match v67 with | Out.norm v68 => none | Out.exit v69 => (match ((match v69 with | Sum.inl v78 => (Sum.inl v78.2.2.2.2.2.2.2) | Sum.inr v79 => (Empty.elim v79)):((Aa × ((List Ac) × Unit)) ⊕ Empty)) with | Sum.inl v70 => ((((C7 (v70.1,()) ()).bind fun v71 => (some v71.1)):(Option (List Int))).bind fun v72 => (((if (ltZ 0 (lenI v72)) then ((((Dw (v70.1,()) ()).bind fun v73 => (some v73.1)):(Option Bool)).bind fun v74 => (((if (notB v74) then (some (true,())) else (some ((eqZ (lenI v70.2.1) 0),()))):(Option (Bool × Unit))).bind fun v75 => (some (v75.1,())))) else (some (false,()))):(Option (Bool × Unit))).bind fun v76 => (some (v76.1,())))) | Sum.inr v77 => none) | Out.ret v80 => (some v80))))))))))))
def K0:Hd:=⟨[.sl 5 (.int .u8)],[],none,.p,.bool,.p,[(1000000005,.p)]⟩
def Ob:FSig:=sg_ K0 Ml
theorem Ui:fnOf tys [(5,T_5),(6,T_6),(7,T_7),(8,Hy),(9,T_9),(10,T_10),(11,T_11),(12,T_12),(13,T_13),(14,Mf),(15,T_15),(16,T_16)] Tryz.f3 K0 = Ob:=by kernel_rfl
theorem Uq:SigOk Tryz.prog 3 Ob:=k_o Ui ⟨K_5,K_6,K_7,Hz,K_9,K_10,K_11,K_12,K_13,O9,K_15,K_16,trivial⟩ Tryz.func3
end Go.Proofs.YteggmejnpcfalaaGreat
