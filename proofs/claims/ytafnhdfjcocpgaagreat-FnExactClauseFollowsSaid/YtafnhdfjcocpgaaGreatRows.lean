/-
  No cell of these rows narrows 'for every input' (looked for: loops, veiled, ifaces, maps, wideKeys, modest, calm, conditions, laid).
  DERIVED. THE GIVEN ROWS OF THIS SEAT. 7 by the template 'for every input the law returns true; each argument reads behind the call as it read before'; 0 by the template 'total and deterministic' (their statements: YtafnhdfjcocpgaaGreatTotals.lean).
  GIVEN WITH THE SEED: the statements are not yours to turn. If you find one false, say at which input.
  Laid BY PROGRAM, IN A SANDBOX (cutbox-rows.mjs): the forced cells as the released guide's own fill.sh prints them over the translation d26e0a5f4f93a9e1… (all of the seat's roots in one cut). By AI agents, Wed Nov 11 2026. No macro, syntax, notation, axiom, sorry.
-/
import Derived.Test.YtafnhdfjcocpgaaGreatChecked
import GoSem.Claim
import GoSem.ClaimJoined
import GoSem.ClaimMapViews
import Derived.JoinedTies
import Derived.KernelRfl
namespace Go.Proofs.YtafnhdfjcocpgaaGreat
/- THE CELL 'sum', in the pinned program and in every row, IS THE sha256 OF THE DUMP (.gsa) THAT YtafnhdfjcocpgaaGreatProg.lean LOADS. Nothing in Lean hashes anything: it is a label: what it is worth is what the hold of that sum in a sandbox is worth. -/
noncomputable def Tryz.pinned : Pinned := { name := "ytafnhdfjcocpgaagreat", sum := "d26e0a5f4f93a9e110704c887c27516fbe533773d253056469c4d13dfb43114e", checked := Tryz.checked }
namespace Rows
def none {H : Type} : Left H := { results := [], args := [] }

/-- 'laws.FnExactPlanEarliest': WHATEVER THE INPUT: true; the input reads as it did. -/
def fnExactPlanEarliestSpec : ChangeSpec := { name := "fnExactPlanEarliest", fn := fun _ => fun
  | [d1, d2, d3, d4, d5] => { results := [.lit (.bool true)], args := [d1, d2, d3, d4, d5] }
  | _ => none }
def fnExactPlanEarliestRow : OpenClaim := { program := "ytafnhdfjcocpgaagreat", sum := "d26e0a5f4f93a9e110704c887c27516fbe533773d253056469c4d13dfb43114e", func := "loop.example/g00806/laws.FnExactPlanEarliest", spec := "fnExactPlanEarliest", unfollowed := true, recurses := true, apart := false }
def FnExactPlanEarliestSaid : Prop := fnExactPlanEarliestRow.holds Tryz.pinned (OpenSpec.ofChange fnExactPlanEarliestSpec)

/-- ITS FALSE NEIGHBOUR: 'it returns false'. Refute it at one input. -/
def fnExactPlanEarliestWrong : ChangeSpec := { name := "fnExactPlanEarliest", fn := fun _ => fun
  | [d1, d2, d3, d4, d5] => { results := [.lit (.bool false)], args := [d1, d2, d3, d4, d5] }
  | _ => none }
def FnExactPlanEarliestWrongFalsely : Prop := fnExactPlanEarliestRow.holds Tryz.pinned (OpenSpec.ofChange fnExactPlanEarliestWrong)

/-- 'laws.FnExactClauseFollows': WHATEVER THE INPUT: true; the input reads as it did. -/
def fnExactClauseFollowsSpec : ChangeSpec := { name := "fnExactClauseFollows", fn := fun _ => fun
  | [d1, d2, d3] => { results := [.lit (.bool true)], args := [d1, d2, d3] }
  | _ => none }
def fnExactClauseFollowsRow : OpenClaim := { program := "ytafnhdfjcocpgaagreat", sum := "d26e0a5f4f93a9e110704c887c27516fbe533773d253056469c4d13dfb43114e", func := "loop.example/g00806/laws.FnExactClauseFollows", spec := "fnExactClauseFollows", unfollowed := true, recurses := true, apart := false }
def FnExactClauseFollowsSaid : Prop := fnExactClauseFollowsRow.holds Tryz.pinned (OpenSpec.ofChange fnExactClauseFollowsSpec)

/-- ITS FALSE NEIGHBOUR: 'it returns false'. Refute it at one input. -/
def fnExactClauseFollowsWrong : ChangeSpec := { name := "fnExactClauseFollows", fn := fun _ => fun
  | [d1, d2, d3] => { results := [.lit (.bool false)], args := [d1, d2, d3] }
  | _ => none }
def FnExactClauseFollowsWrongFalsely : Prop := fnExactClauseFollowsRow.holds Tryz.pinned (OpenSpec.ofChange fnExactClauseFollowsWrong)

/-- 'laws.FnExactPlanAdd': WHATEVER THE INPUT: true; the input reads as it did. -/
def fnExactPlanAddSpec : ChangeSpec := { name := "fnExactPlanAdd", fn := fun _ => fun
  | [d1, d2, d3, d4, d5] => { results := [.lit (.bool true)], args := [d1, d2, d3, d4, d5] }
  | _ => none }
def fnExactPlanAddRow : OpenClaim := { program := "ytafnhdfjcocpgaagreat", sum := "d26e0a5f4f93a9e110704c887c27516fbe533773d253056469c4d13dfb43114e", func := "loop.example/g00806/laws.FnExactPlanAdd", spec := "fnExactPlanAdd", unfollowed := true, recurses := true, apart := false }
def FnExactPlanAddSaid : Prop := fnExactPlanAddRow.holds Tryz.pinned (OpenSpec.ofChange fnExactPlanAddSpec)

/-- ITS FALSE NEIGHBOUR: 'it returns false'. Refute it at one input. -/
def fnExactPlanAddWrong : ChangeSpec := { name := "fnExactPlanAdd", fn := fun _ => fun
  | [d1, d2, d3, d4, d5] => { results := [.lit (.bool false)], args := [d1, d2, d3, d4, d5] }
  | _ => none }
def FnExactPlanAddWrongFalsely : Prop := fnExactPlanAddRow.holds Tryz.pinned (OpenSpec.ofChange fnExactPlanAddWrong)

/-- 'laws.FnExactShiftEarlier': WHATEVER THE INPUT: true; the input reads as it did. -/
def fnExactShiftEarlierSpec : ChangeSpec := { name := "fnExactShiftEarlier", fn := fun _ => fun
  | [d1, d2] => { results := [.lit (.bool true)], args := [d1, d2] }
  | _ => none }
def fnExactShiftEarlierRow : OpenClaim := { program := "ytafnhdfjcocpgaagreat", sum := "d26e0a5f4f93a9e110704c887c27516fbe533773d253056469c4d13dfb43114e", func := "loop.example/g00806/laws.FnExactShiftEarlier", spec := "fnExactShiftEarlier", unfollowed := true, recurses := true, apart := false }
def FnExactShiftEarlierSaid : Prop := fnExactShiftEarlierRow.holds Tryz.pinned (OpenSpec.ofChange fnExactShiftEarlierSpec)

/-- ITS FALSE NEIGHBOUR: 'it returns false'. Refute it at one input. -/
def fnExactShiftEarlierWrong : ChangeSpec := { name := "fnExactShiftEarlier", fn := fun _ => fun
  | [d1, d2] => { results := [.lit (.bool false)], args := [d1, d2] }
  | _ => none }
def FnExactShiftEarlierWrongFalsely : Prop := fnExactShiftEarlierRow.holds Tryz.pinned (OpenSpec.ofChange fnExactShiftEarlierWrong)

/-- 'laws.FnExactBestSchedule': WHATEVER THE INPUT: true; the input reads as it did. -/
def fnExactBestScheduleSpec : ChangeSpec := { name := "fnExactBestSchedule", fn := fun _ => fun
  | [d1, d2] => { results := [.lit (.bool true)], args := [d1, d2] }
  | _ => none }
def fnExactBestScheduleRow : OpenClaim := { program := "ytafnhdfjcocpgaagreat", sum := "d26e0a5f4f93a9e110704c887c27516fbe533773d253056469c4d13dfb43114e", func := "loop.example/g00806/laws.FnExactBestSchedule", spec := "fnExactBestSchedule", unfollowed := true, recurses := true, apart := false }
def FnExactBestScheduleSaid : Prop := fnExactBestScheduleRow.holds Tryz.pinned (OpenSpec.ofChange fnExactBestScheduleSpec)

/-- ITS FALSE NEIGHBOUR: 'it returns false'. Refute it at one input. -/
def fnExactBestScheduleWrong : ChangeSpec := { name := "fnExactBestSchedule", fn := fun _ => fun
  | [d1, d2] => { results := [.lit (.bool false)], args := [d1, d2] }
  | _ => none }
def FnExactBestScheduleWrongFalsely : Prop := fnExactBestScheduleRow.holds Tryz.pinned (OpenSpec.ofChange fnExactBestScheduleWrong)

/-- 'laws.FnExactUnitPropagate': WHATEVER THE INPUT: true; the input reads as it did. -/
def fnExactUnitPropagateSpec : ChangeSpec := { name := "fnExactUnitPropagate", fn := fun _ => fun
  | [d1, d2, d3] => { results := [.lit (.bool true)], args := [d1, d2, d3] }
  | _ => none }
def fnExactUnitPropagateRow : OpenClaim := { program := "ytafnhdfjcocpgaagreat", sum := "d26e0a5f4f93a9e110704c887c27516fbe533773d253056469c4d13dfb43114e", func := "loop.example/g00806/laws.FnExactUnitPropagate", spec := "fnExactUnitPropagate", unfollowed := true, recurses := true, apart := false }
def FnExactUnitPropagateSaid : Prop := fnExactUnitPropagateRow.holds Tryz.pinned (OpenSpec.ofChange fnExactUnitPropagateSpec)

/-- ITS FALSE NEIGHBOUR: 'it returns false'. Refute it at one input. -/
def fnExactUnitPropagateWrong : ChangeSpec := { name := "fnExactUnitPropagate", fn := fun _ => fun
  | [d1, d2, d3] => { results := [.lit (.bool false)], args := [d1, d2, d3] }
  | _ => none }
def FnExactUnitPropagateWrongFalsely : Prop := fnExactUnitPropagateRow.holds Tryz.pinned (OpenSpec.ofChange fnExactUnitPropagateWrong)

/-- 'laws.FnExactPushActivity': WHATEVER THE INPUT: true; the input reads as it did. -/
def fnExactPushActivitySpec : ChangeSpec := { name := "fnExactPushActivity", fn := fun _ => fun
  | [d1, d2, d3, d4] => { results := [.lit (.bool true)], args := [d1, d2, d3, d4] }
  | _ => none }
def fnExactPushActivityRow : OpenClaim := { program := "ytafnhdfjcocpgaagreat", sum := "d26e0a5f4f93a9e110704c887c27516fbe533773d253056469c4d13dfb43114e", func := "loop.example/g00806/laws.FnExactPushActivity", spec := "fnExactPushActivity", unfollowed := true, recurses := true, apart := false }
def FnExactPushActivitySaid : Prop := fnExactPushActivityRow.holds Tryz.pinned (OpenSpec.ofChange fnExactPushActivitySpec)

/-- ITS FALSE NEIGHBOUR: 'it returns false'. Refute it at one input. -/
def fnExactPushActivityWrong : ChangeSpec := { name := "fnExactPushActivity", fn := fun _ => fun
  | [d1, d2, d3, d4] => { results := [.lit (.bool false)], args := [d1, d2, d3, d4] }
  | _ => none }
def FnExactPushActivityWrongFalsely : Prop := fnExactPushActivityRow.holds Tryz.pinned (OpenSpec.ofChange fnExactPushActivityWrong)

/- THE SECOND FORM. 'bulk': how many values and letters a reading holds, each counted each time it is reached (what is shared counts as often as it is met; a slice's spare places count too). A statement '..UptoSaid' is the law's where the arguments, and the package variables that the reading takes, are together of bulk at most 1048576: NARROWER than '..Said'. Prove '..Said' where nothing that the law and all that it calls make is longer than what came in: it says more and counts as full. Else prove '..UptoSaid'. A law counts once. -/
mutual
def uptoBulk {H : Type} : DataW H → Nat
  | .lit (.string bytes) => bytes.length + 1
  | .lit _ => 1
  | .nil => 1
  | .ptr d => uptoBulk d + 1
  | .slice elems spare => uptoBulkAll elems + uptoBulkAll spare + 1
  | .agg parts => uptoBulkAll parts + 1
  | .iface _ d => uptoBulk d + 1
  | .map entries => uptoBulkEntries entries + 1
  | .held _ => 1
def uptoBulkAll {H : Type} : List (DataW H) → Nat
  | [] => 0
  | d :: r => uptoBulk d + uptoBulkAll r
def uptoBulkEntries {H : Type} : List (Lit × DataW H) → Nat
  | [] => 0
  | x :: r => uptoBulkEntry x + uptoBulkEntries r
def uptoBulkEntry {H : Type} : Lit × DataW H → Nat
  | (.string bytes, d) => bytes.length + uptoBulk d + 1
  | (_, d) => uptoBulk d + 1
 end
def uptoSmall : (H : Type) → List (DataW H) → Bool := fun _ ds => decide (uptoBulkAll ds ≤ 1048576)
def OpenSpec.upto (s : _root_.Go.ChangeSpec) : _root_.Go.OpenSpec := { _root_.Go.OpenSpec.ofChange s with cond := some uptoSmall }

/-- 'laws.FnExactPlanEarliest', WHERE WHAT IT READS IS OF BULK AT MOST 1048576: true; the input reads as it did. -/
def fnExactPlanEarliestUptoRow : OpenClaim := { program := "ytafnhdfjcocpgaagreat", sum := "d26e0a5f4f93a9e110704c887c27516fbe533773d253056469c4d13dfb43114e", func := "loop.example/g00806/laws.FnExactPlanEarliest", spec := "fnExactPlanEarliest", unfollowed := true, recurses := true, apart := false, narrowed := true }
def FnExactPlanEarliestUptoSaid : Prop := fnExactPlanEarliestUptoRow.holds Tryz.pinned (OpenSpec.upto fnExactPlanEarliestSpec)

/-- 'laws.FnExactClauseFollows', WHERE WHAT IT READS IS OF BULK AT MOST 1048576: true; the input reads as it did. -/
def fnExactClauseFollowsUptoRow : OpenClaim := { program := "ytafnhdfjcocpgaagreat", sum := "d26e0a5f4f93a9e110704c887c27516fbe533773d253056469c4d13dfb43114e", func := "loop.example/g00806/laws.FnExactClauseFollows", spec := "fnExactClauseFollows", unfollowed := true, recurses := true, apart := false, narrowed := true }
def FnExactClauseFollowsUptoSaid : Prop := fnExactClauseFollowsUptoRow.holds Tryz.pinned (OpenSpec.upto fnExactClauseFollowsSpec)

/-- 'laws.FnExactPlanAdd', WHERE WHAT IT READS IS OF BULK AT MOST 1048576: true; the input reads as it did. -/
def fnExactPlanAddUptoRow : OpenClaim := { program := "ytafnhdfjcocpgaagreat", sum := "d26e0a5f4f93a9e110704c887c27516fbe533773d253056469c4d13dfb43114e", func := "loop.example/g00806/laws.FnExactPlanAdd", spec := "fnExactPlanAdd", unfollowed := true, recurses := true, apart := false, narrowed := true }
def FnExactPlanAddUptoSaid : Prop := fnExactPlanAddUptoRow.holds Tryz.pinned (OpenSpec.upto fnExactPlanAddSpec)

/-- 'laws.FnExactShiftEarlier', WHERE WHAT IT READS IS OF BULK AT MOST 1048576: true; the input reads as it did. -/
def fnExactShiftEarlierUptoRow : OpenClaim := { program := "ytafnhdfjcocpgaagreat", sum := "d26e0a5f4f93a9e110704c887c27516fbe533773d253056469c4d13dfb43114e", func := "loop.example/g00806/laws.FnExactShiftEarlier", spec := "fnExactShiftEarlier", unfollowed := true, recurses := true, apart := false, narrowed := true }
def FnExactShiftEarlierUptoSaid : Prop := fnExactShiftEarlierUptoRow.holds Tryz.pinned (OpenSpec.upto fnExactShiftEarlierSpec)

/-- 'laws.FnExactBestSchedule', WHERE WHAT IT READS IS OF BULK AT MOST 1048576: true; the input reads as it did. -/
def fnExactBestScheduleUptoRow : OpenClaim := { program := "ytafnhdfjcocpgaagreat", sum := "d26e0a5f4f93a9e110704c887c27516fbe533773d253056469c4d13dfb43114e", func := "loop.example/g00806/laws.FnExactBestSchedule", spec := "fnExactBestSchedule", unfollowed := true, recurses := true, apart := false, narrowed := true }
def FnExactBestScheduleUptoSaid : Prop := fnExactBestScheduleUptoRow.holds Tryz.pinned (OpenSpec.upto fnExactBestScheduleSpec)

/-- 'laws.FnExactUnitPropagate', WHERE WHAT IT READS IS OF BULK AT MOST 1048576: true; the input reads as it did. -/
def fnExactUnitPropagateUptoRow : OpenClaim := { program := "ytafnhdfjcocpgaagreat", sum := "d26e0a5f4f93a9e110704c887c27516fbe533773d253056469c4d13dfb43114e", func := "loop.example/g00806/laws.FnExactUnitPropagate", spec := "fnExactUnitPropagate", unfollowed := true, recurses := true, apart := false, narrowed := true }
def FnExactUnitPropagateUptoSaid : Prop := fnExactUnitPropagateUptoRow.holds Tryz.pinned (OpenSpec.upto fnExactUnitPropagateSpec)

/-- 'laws.FnExactPushActivity', WHERE WHAT IT READS IS OF BULK AT MOST 1048576: true; the input reads as it did. -/
def fnExactPushActivityUptoRow : OpenClaim := { program := "ytafnhdfjcocpgaagreat", sum := "d26e0a5f4f93a9e110704c887c27516fbe533773d253056469c4d13dfb43114e", func := "loop.example/g00806/laws.FnExactPushActivity", spec := "fnExactPushActivity", unfollowed := true, recurses := true, apart := false, narrowed := true }
def FnExactPushActivityUptoSaid : Prop := fnExactPushActivityUptoRow.holds Tryz.pinned (OpenSpec.upto fnExactPushActivitySpec)

end Rows
end Go.Proofs.YtafnhdfjcocpgaaGreat
