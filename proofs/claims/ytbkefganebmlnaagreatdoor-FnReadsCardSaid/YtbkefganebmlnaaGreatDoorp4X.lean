/-
  Where a text of one byte stands in a text; the names of rules: walks. No condition.
-/
import Derived.Test.YtbkefganebmlnaaGreatDoorN42
import Derived.Test.YtbkefganebmlnaaGreatDoorp3X
import Derived.WalkKit
import Derived.WalkSpells
import Derived.WalkLawsBesides
import Derived.Deep.QuietTactic
import Derived.BigQuiet
import Derived.ProofKit
import Derived.OpenShut
import Derived.Lib.Hide
import Derived.Shelf.Strings.Search2
namespace Go.Proofs
open Go.Shelf
def Tryz.lays219_ren:Go.Shelf.Ren:=⟨fun | 219 => 203 | 217 => 188 | 225 => 235 | 224 => 236 | 267 => 237 | 266 => 224 | 314 => 254 | n => n,fun | 9 => 9 | 3 => 3 | 4 => 4 | 5 => 5 | 46 => 222 | 146 => 294 | 51 => 259 | n => n,fun | 1 => 0 | n => n⟩
theorem Tryz.lays219:Go.Proofs.Lays.n219 Tryz.prog Tryz.lays219_ren:={
  mixed:=by kernel_rfl
  f217:=Tryz.func188.trans (congrArg some (by kernel_rfl))
  f219:=Tryz.func203.trans (congrArg some (by kernel_rfl))
  f224:=Tryz.func236.trans (congrArg some (by kernel_rfl))
  f225:=Tryz.func235.trans (congrArg some (by kernel_rfl))
  f266:=Tryz.func224.trans (congrArg some (by kernel_rfl))
  f267:=Tryz.func237.trans (congrArg some (by kernel_rfl))
  f314:=Tryz.func254.trans (congrArg some (by kernel_rfl))
  t3:=Tryz.underlying3
  a3:=Tryz.isAgg3
  z3:=Tryz.sizeOf3
  v3:=Tryz.zeroValue3
  t4:=Tryz.underlying4
  a4:=Tryz.isAgg4
  z4:=Tryz.sizeOf4
  v4:=Tryz.zeroValue4
  t5:=Tryz.underlying5
  a5:=Tryz.isAgg5
  z5:=Tryz.sizeOf5
  v5:=Tryz.zeroValue5
  t9:=Tryz.underlying9
  a9:=Tryz.isAgg9
  z9:=Tryz.sizeOf9
  v9:=Tryz.zeroValue9
  t46:=Tryz.underlying222
  a46:=Tryz.isAgg222
  z46:=Tryz.sizeOf222
  v46:=Tryz.zeroValue222
  t51:=Tryz.underlying259
  a51:=Tryz.isAgg259
  z51:=Tryz.sizeOf259
  v51:=Tryz.zeroValue259
  t146:=Tryz.underlying294
  a146:=Tryz.isAgg294
  z146:=Tryz.sizeOf294
  v146:=Tryz.zeroValue294
  g1:=by kernel_rfl }
open Go.ChangeShapes Go.WideShapes Go.ChangeAt Go.RowKit Go.Abs in
set_option maxHeartbeats 1000000 in
theorem Tryz.ruleName_any (n:Int) (w:World) :
    Calls Tryz.prog 83 #[.int .i64 n] w fun e w' => e = .returned (.string ⟨(ruleOf n).toArray⟩) /\ Below w.heap.size w w':=by
  by_cases h:0 <= n /\ n <= 6
  · have hc:n = 0 \/ n = 1 \/ n = 2 \/ n = 3 \/ n = 4 \/ n = 5 \/ n = 6:=by omega
    rcases hc with rfl | rfl | rfl | rfl | rfl | rfl | rfl <;>
    · go_enter Tryz.func83,Tryz.ntmps83
      go_wp2_with (go_at_call 90; refine (Tryz.within_anyP _ _ _ _).mono ?_; rintro e w' ⟨rfl,rfl⟩)
      go_ret
      exact ⟨rfl,(Below.refl _ _).alloc (Nat.le_refl _) _⟩
  · have hb:(decide ((0:Int) <= n) && decide (n <= 6)) = false:=by simp; omega
    have hn:ruleOf n = []:=by unfold ruleOf; rw [if_neg (by omega),if_neg (by omega),if_neg (by omega),if_neg (by omega),if_neg (by omega),if_neg (by omega),if_neg (by omega)]
    have HN:=Lib.hid hn
    clear h hn
    go_enter Tryz.func83,Tryz.ntmps83
    go_wp2_with (go_at_call 90; refine (Tryz.within_anyP _ _ _ _).mono ?_; rintro e w' ⟨rfl,rfl⟩)
    go_ret
    exact ⟨by rw [HN.out]; rfl,(Below.refl _ _).alloc (Nat.le_refl _) _⟩
end Go.Proofs
