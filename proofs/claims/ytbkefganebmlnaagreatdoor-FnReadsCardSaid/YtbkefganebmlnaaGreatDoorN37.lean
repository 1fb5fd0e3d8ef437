/-
  The meta layer, part 37: plain laws of the numbers that a generator draws.
-/
import Derived.Test.YtbkefganebmlnaaGreatDoorN36
namespace Go.Abs
set_option linter.unusedVariables false
set_option linter.unusedSimpArgs false
theorem and255 (x:Int):∃ k:Nat,k <= 255 /\ bitsI .and .i64 x 255 = (k:Int):=by
 refine ⟨(BitVec.ofInt IntKind.i64.bits x &&& BitVec.ofInt IntKind.i64.bits 255).toNat,?_,?_⟩
 ·rw [BitVec.toNat_and]
  refine Nat.le_trans Nat.and_le_right ?_
  decide
 ·have h:(BitVec.ofInt IntKind.i64.bits x &&& BitVec.ofInt IntKind.i64.bits 255).toNat <= 255:=by
   rw [BitVec.toNat_and]
   refine Nat.le_trans Nat.and_le_right ?_
   decide
  show IntKind.i64.wrap _ = _
  exact wrap64 (by omega) (by omega)
theorem Agu (k n:Nat) (h:0 < n):remZ (k:Int) (n:Int) = some ((k % n:Nat):Int):=by
 unfold remZ
 rw [if_neg (by omega)]
 congr 1
theorem Adl (x:Int) (n:Nat):∃ y,shiftI false .i64 x (n:Int) = some y:=by
 unfold shiftI
 rw [if_neg (by omega)]
 exact ⟨_,rfl⟩
end Go.Abs
