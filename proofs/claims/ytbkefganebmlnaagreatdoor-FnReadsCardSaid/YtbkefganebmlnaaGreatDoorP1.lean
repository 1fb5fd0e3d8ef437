/-
  What impl.ParseRule computes over what the functions that it calls compute. No condition.
-/
import Derived.Test.YtbkefganebmlnaaGreatDoorN42
import Derived.Test.YtbkefganebmlnaaGreatDoorN41
namespace Go.Proofs
set_option linter.unusedVariables false
set_option linter.unusedSimpArgs false
open Go.RowKit Go.Abs
abbrev prjU:Ty:=.st [.int .i64,.sl 75 (.st [.str,.int .i64,.sl 131 (.st [.int .i64,.sl 3 (.int .i64),.sl 3 (.int .i64)])]),.sl 69 (.st [.int .i64,.int .i64,.bool,.int .i64]),.sl 126 (.st [.sl 203 (.st [.int .i64,.int .i64]),.sl 25 (.sl 3 (.int .i64))]),.sl 3 (.int .i64)]
abbrev rulU:Ty:=.st [.int .i64,.int .i64,.int .i64,.int .i64]
abbrev Rul:Type:=Int × Int × Int × Int × Unit
abbrev Txt:Type:=List UInt8
/-- the kind whose name is the first word -/
def prK (w0:Txt):Nat -> Nat -> Int -> Int
  | 0,_,k => k
  | n + 1,i,k => prK w0 n (i + 1) (if ruleOf (i:Int) = w0 then (i:Int) else k)
/-- three fields, one of them set -/
def put3 (f:Int × Int × Int) (i:Nat) (m:Int):Int × Int × Int:=if i = 0 then (m,f.2) else if i = 1 then (f.1,m,f.2.2) else (f.1,f.2.1,m)
/-- the fields of a rule, word by word -/
def prL (FP:Txt -> Option (Int × Bool × Unit)) (FA:Txt -> Option Int):List Txt -> Nat -> Int × Int × Int -> Option (Option (Int × Int × Int))
  | [],_,f => some (some f)
  | w :: r,i,f => if 2 < i then some none else (FP w).bind fun n => (if n.2.1 = true then some n.1 else FA w).bind fun m => prL FP FA r (i + 1) (put3 f i m)
def prF (FS:Ty.dens [.str,.str] -> Unit -> Option (List Txt × Unit)) (FP:Ty.dens [.str] -> Unit -> Option ((Int × Bool × Unit) × Unit)) (FA:Ty.dens [prjU,.str] -> Unit -> Option (Int × Unit)) (FF:Ty.dens [prjU,rulU] -> Unit -> Option (Txt × Unit)) :
    Ty.dens [prjU,.str] -> Unit -> Option ((Rul × Bool × Unit) × Unit):=fun x _ =>
  ((FS (x.2.1,[32],()) ()).map (·.1)).bind fun ws => match ws with
    | [] => none
    | w0 :: rest => (prL (fun w => (FP (w,()) ()).map (·.1)) (fun w => (FA (x.1,w,()) ()).map (·.1)) rest 0 (0,0,0)).bind fun o => match o with
      | none => some (((0,0,0,0,()),false,()),())
      | some f => if (show Txt from x.2.1) = [] then some (((0,0,0,0,()),false,()),()) else
        ((FF (x.1,(prK w0 6 1 0,f.1,f.2.1,f.2.2,()),()) ()).map (·.1)).bind fun t => if t = (show Txt from x.2.1) then some (((prK w0 6 1 0,f.1,f.2.1,f.2.2,()),true,()),()) else some (((0,0,0,0,()),false,()),())
end Go.Proofs
