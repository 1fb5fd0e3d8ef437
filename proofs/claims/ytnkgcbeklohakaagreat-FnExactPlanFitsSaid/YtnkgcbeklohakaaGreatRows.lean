/-
  No cell of these rows narrows 'for every input' (looked for: loops, veiled, ifaces, maps, wideKeys, modest, calm, conditions, laid).
  DERIVED. THE GIVEN ROWS OF THIS SEAT. 11 by the template 'for every input the law returns true; each argument reads behind the call as it read before'; 0 by the template 'total and deterministic' (their statements: YtnkgcbeklohakaaGreatTotals.lean).
  GIVEN WITH THE SEED: the statements are not yours to turn. If you find one false, say at which input.
  Laid BY PROGRAM, IN A SANDBOX (cutbox-rows.mjs): the forced cells as the released guide's own fill.sh prints them over the translation ab6fee37af0acfc7… (all of the seat's roots in one cut). By AI agents, Wed Nov 11 2026. No macro, syntax, notation, axiom, sorry.
-/
import Derived.Test.YtnkgcbeklohakaaGreatChecked
import GoSem.Claim
import GoSem.ClaimJoined
import GoSem.ClaimMapViews
import Derived.JoinedTies
import Derived.KernelRfl
namespace Go.Proofs.YtnkgcbeklohakaaGreat
/- THE CELL 'sum', in the pinned program and in every row, IS THE sha256 OF THE DUMP (.gsa) THAT YtnkgcbeklohakaaGreatProg.lean LOADS. Nothing in Lean hashes anything: it is a label: what it is worth is what the hold of that sum in a sandbox is worth. -/
noncomputable def Tryz.pinned : Pinned := { name := "ytnkgcbeklohakaagreat", sum := "ab6fee37af0acfc70951c8a0ffe9ee408f8a343a79332f91ec4ded96fcb781c4", checked := Tryz.checked }
namespace Rows
def none {H : Type} : Left H := { results := [], args := [] }

/-- 'laws.FnExactNegatedDomain': WHATEVER THE INPUT: true; the input reads as it did. -/
def fnExactNegatedDomainSpec : ChangeSpec := { name := "fnExactNegatedDomain", fn := fun _ => fun
  | [d1, d2] => { results := [.lit (.bool true)], args := [d1, d2] }
  | _ => none }
def fnExactNegatedDomainRow : OpenClaim := { program := "ytnkgcbeklohakaagreat", sum := "ab6fee37af0acfc70951c8a0ffe9ee408f8a343a79332f91ec4ded96fcb781c4", func := "loop.example/g00806/laws.FnExactNegatedDomain", spec := "fnExactNegatedDomain", unfollowed := true, recurses := true, apart := false }
def FnExactNegatedDomainSaid : Prop := fnExactNegatedDomainRow.holds Tryz.pinned (OpenSpec.ofChange fnExactNegatedDomainSpec)

/-- ITS FALSE NEIGHBOUR: 'it returns false'. Refute it at one input. -/
def fnExactNegatedDomainWrong : ChangeSpec := { name := "fnExactNegatedDomain", fn := fun _ => fun
  | [d1, d2] => { results := [.lit (.bool false)], args := [d1, d2] }
  | _ => none }
def FnExactNegatedDomainWrongFalsely : Prop := fnExactNegatedDomainRow.holds Tryz.pinned (OpenSpec.ofChange fnExactNegatedDomainWrong)

/-- 'laws.FnExactCountSchedules': WHATEVER THE INPUT: true; the input reads as it did. -/
def fnExactCountSchedulesSpec : ChangeSpec := { name := "fnExactCountSchedules", fn := fun _ => fun
  | [d1, d2, d3] => { results := [.lit (.bool true)], args := [d1, d2, d3] }
  | _ => none }
def fnExactCountSchedulesRow : OpenClaim := { program := "ytnkgcbeklohakaagreat", sum := "ab6fee37af0acfc70951c8a0ffe9ee408f8a343a79332f91ec4ded96fcb781c4", func := "loop.example/g00806/laws.FnExactCountSchedules", spec := "fnExactCountSchedules", unfollowed := true, recurses := true, apart := false }
def FnExactCountSchedulesSaid : Prop := fnExactCountSchedulesRow.holds Tryz.pinned (OpenSpec.ofChange fnExactCountSchedulesSpec)

/-- ITS FALSE NEIGHBOUR: 'it returns false'. Refute it at one input. -/
def fnExactCountSchedulesWrong : ChangeSpec := { name := "fnExactCountSchedules", fn := fun _ => fun
  | [d1, d2, d3] => { results := [.lit (.bool false)], args := [d1, d2, d3] }
  | _ => none }
def FnExactCountSchedulesWrongFalsely : Prop := fnExactCountSchedulesRow.holds Tryz.pinned (OpenSpec.ofChange fnExactCountSchedulesWrong)

/-- 'laws.FnExactLogNew': WHATEVER THE INPUT: true; the input reads as it did. -/
def fnExactLogNewSpec : ChangeSpec := { name := "fnExactLogNew", fn := fun _ => fun
  | [d] => { results := [.lit (.bool true)], args := [d] }
  | _ => none }
def fnExactLogNewRow : OpenClaim := { program := "ytnkgcbeklohakaagreat", sum := "ab6fee37af0acfc70951c8a0ffe9ee408f8a343a79332f91ec4ded96fcb781c4", func := "loop.example/g00806/laws.FnExactLogNew", spec := "fnExactLogNew", unfollowed := true, recurses := true, apart := false }
def FnExactLogNewSaid : Prop := fnExactLogNewRow.holds Tryz.pinned (OpenSpec.ofChange fnExactLogNewSpec)

/-- ITS FALSE NEIGHBOUR: 'it returns false'. Refute it at one input. -/
def fnExactLogNewWrong : ChangeSpec := { name := "fnExactLogNew", fn := fun _ => fun
  | [d] => { results := [.lit (.bool false)], args := [d] }
  | _ => none }
def FnExactLogNewWrongFalsely : Prop := fnExactLogNewRow.holds Tryz.pinned (OpenSpec.ofChange fnExactLogNewWrong)

/-- 'laws.FnExactAllSchedules': WHATEVER THE INPUT: true; the input reads as it did. -/
def fnExactAllSchedulesSpec : ChangeSpec := { name := "fnExactAllSchedules", fn := fun _ => fun
  | [d1, d2] => { results := [.lit (.bool true)], args := [d1, d2] }
  | _ => none }
def fnExactAllSchedulesRow : OpenClaim := { program := "ytnkgcbeklohakaagreat", sum := "ab6fee37af0acfc70951c8a0ffe9ee408f8a343a79332f91ec4ded96fcb781c4", func := "loop.example/g00806/laws.FnExactAllSchedules", spec := "fnExactAllSchedules", unfollowed := true, recurses := true, apart := false }
def FnExactAllSchedulesSaid : Prop := fnExactAllSchedulesRow.holds Tryz.pinned (OpenSpec.ofChange fnExactAllSchedulesSpec)

/-- ITS FALSE NEIGHBOUR: 'it returns false'. Refute it at one input. -/
def fnExactAllSchedulesWrong : ChangeSpec := { name := "fnExactAllSchedules", fn := fun _ => fun
  | [d1, d2] => { results := [.lit (.bool false)], args := [d1, d2] }
  | _ => none }
def FnExactAllSchedulesWrongFalsely : Prop := fnExactAllSchedulesRow.holds Tryz.pinned (OpenSpec.ofChange fnExactAllSchedulesWrong)

/-- 'laws.FnExactBestSchedule': WHATEVER THE INPUT: true; the input reads as it did. -/
def fnExactBestScheduleSpec : ChangeSpec := { name := "fnExactBestSchedule", fn := fun _ => fun
  | [d1, d2] => { results := [.lit (.bool true)], args := [d1, d2] }
  | _ => none }
def fnExactBestScheduleRow : OpenClaim := { program := "ytnkgcbeklohakaagreat", sum := "ab6fee37af0acfc70951c8a0ffe9ee408f8a343a79332f91ec4ded96fcb781c4", func := "loop.example/g00806/laws.FnExactBestSchedule", spec := "fnExactBestSchedule", unfollowed := true, recurses := true, apart := false }
def FnExactBestScheduleSaid : Prop := fnExactBestScheduleRow.holds Tryz.pinned (OpenSpec.ofChange fnExactBestScheduleSpec)

/-- ITS FALSE NEIGHBOUR: 'it returns false'. Refute it at one input. -/
def fnExactBestScheduleWrong : ChangeSpec := { name := "fnExactBestSchedule", fn := fun _ => fun
  | [d1, d2] => { results := [.lit (.bool false)], args := [d1, d2] }
  | _ => none }
def FnExactBestScheduleWrongFalsely : Prop := fnExactBestScheduleRow.holds Tryz.pinned (OpenSpec.ofChange fnExactBestScheduleWrong)

/-- 'laws.FnExactUnitPropagate': WHATEVER THE INPUT: true; the input reads as it did. -/
def fnExactUnitPropagateSpec : ChangeSpec := { name := "fnExactUnitPropagate", fn := fun _ => fun
  | [d1, d2, d3] => { results := [.lit (.bool true)], args := [d1, d2, d3] }
  | _ => none }
def fnExactUnitPropagateRow : OpenClaim := { program := "ytnkgcbeklohakaagreat", sum := "ab6fee37af0acfc70951c8a0ffe9ee408f8a343a79332f91ec4ded96fcb781c4", func := "loop.example/g00806/laws.FnExactUnitPropagate", spec := "fnExactUnitPropagate", unfollowed := true, recurses := true, apart := false }
def FnExactUnitPropagateSaid : Prop := fnExactUnitPropagateRow.holds Tryz.pinned (OpenSpec.ofChange fnExactUnitPropagateSpec)

/-- ITS FALSE NEIGHBOUR: 'it returns false'. Refute it at one input. -/
def fnExactUnitPropagateWrong : ChangeSpec := { name := "fnExactUnitPropagate", fn := fun _ => fun
  | [d1, d2, d3] => { results := [.lit (.bool false)], args := [d1, d2, d3] }
  | _ => none }
def FnExactUnitPropagateWrongFalsely : Prop := fnExactUnitPropagateRow.holds Tryz.pinned (OpenSpec.ofChange fnExactUnitPropagateWrong)

/-- 'laws.FnExactShiftEarlier': WHATEVER THE INPUT: true; the input reads as it did. -/
def fnExactShiftEarlierSpec : ChangeSpec := { name := "fnExactShiftEarlier", fn := fun _ => fun
  | [d1, d2] => { results := [.lit (.bool true)], args := [d1, d2] }
  | _ => none }
def fnExactShiftEarlierRow : OpenClaim := { program := "ytnkgcbeklohakaagreat", sum := "ab6fee37af0acfc70951c8a0ffe9ee408f8a343a79332f91ec4ded96fcb781c4", func := "loop.example/g00806/laws.FnExactShiftEarlier", spec := "fnExactShiftEarlier", unfollowed := true, recurses := true, apart := false }
def FnExactShiftEarlierSaid : Prop := fnExactShiftEarlierRow.holds Tryz.pinned (OpenSpec.ofChange fnExactShiftEarlierSpec)

/-- ITS FALSE NEIGHBOUR: 'it returns false'. Refute it at one input. -/
def fnExactShiftEarlierWrong : ChangeSpec := { name := "fnExactShiftEarlier", fn := fun _ => fun
  | [d1, d2] => { results := [.lit (.bool false)], args := [d1, d2] }
  | _ => none }
def FnExactShiftEarlierWrongFalsely : Prop := fnExactShiftEarlierRow.holds Tryz.pinned (OpenSpec.ofChange fnExactShiftEarlierWrong)

/-- 'laws.FnExactPlanFits': WHATEVER THE INPUT: true; the input reads as it did. -/
def fnExactPlanFitsSpec : ChangeSpec := { name := "fnExactPlanFits", fn := fun _ => fun
  | [d1, d2, d3, d4, d5] => { results := [.lit (.bool true)], args := [d1, d2, d3, d4, d5] }
  | _ => none }
def fnExactPlanFitsRow : OpenClaim := { program := "ytnkgcbeklohakaagreat", sum := "ab6fee37af0acfc70951c8a0ffe9ee408f8a343a79332f91ec4ded96fcb781c4", func := "loop.example/g00806/laws.FnExactPlanFits", spec := "fnExactPlanFits", unfollowed := true, recurses := true, apart := false }
def FnExactPlanFitsSaid : Prop := fnExactPlanFitsRow.holds Tryz.pinned (OpenSpec.ofChange fnExactPlanFitsSpec)

/-- ITS FALSE NEIGHBOUR: 'it returns false'. Refute it at one input. -/
def fnExactPlanFitsWrong : ChangeSpec := { name := "fnExactPlanFits", fn := fun _ => fun
  | [d1, d2, d3, d4, d5] => { results := [.lit (.bool false)], args := [d1, d2, d3, d4, d5] }
  | _ => none }
def FnExactPlanFitsWrongFalsely : Prop := fnExactPlanFitsRow.holds Tryz.pinned (OpenSpec.ofChange fnExactPlanFitsWrong)

/-- 'laws.FnExactPlanEarliest': WHATEVER THE INPUT: true; the input reads as it did. -/
def fnExactPlanEarliestSpec : ChangeSpec := { name := "fnExactPlanEarliest", fn := fun _ => fun
  | [d1, d2, d3, d4, d5] => { results := [.lit (.bool true)], args := [d1, d2, d3, d4, d5] }
  | _ => none }
def fnExactPlanEarliestRow : OpenClaim := { program := "ytnkgcbeklohakaagreat", sum := "ab6fee37af0acfc70951c8a0ffe9ee408f8a343a79332f91ec4ded96fcb781c4", func := "loop.example/g00806/laws.FnExactPlanEarliest", spec := "fnExactPlanEarliest", unfollowed := true, recurses := true, apart := false }
def FnExactPlanEarliestSaid : Prop := fnExactPlanEarliestRow.holds Tryz.pinned (OpenSpec.ofChange fnExactPlanEarliestSpec)

/-- ITS FALSE NEIGHBOUR: 'it returns false'. Refute it at one input. -/
def fnExactPlanEarliestWrong : ChangeSpec := { name := "fnExactPlanEarliest", fn := fun _ => fun
  | [d1, d2, d3, d4, d5] => { results := [.lit (.bool false)], args := [d1, d2, d3, d4, d5] }
  | _ => none }
def FnExactPlanEarliestWrongFalsely : Prop := fnExactPlanEarliestRow.holds Tryz.pinned (OpenSpec.ofChange fnExactPlanEarliestWrong)

/-- 'laws.FnExactClauseFollows': WHATEVER THE INPUT: true; the input reads as it did. -/
def fnExactClauseFollowsSpec : ChangeSpec := { name := "fnExactClauseFollows", fn := fun _ => fun
  | [d1, d2, d3] => { results := [.lit (.bool true)], args := [d1, d2, d3] }
  | _ => none }
def fnExactClauseFollowsRow : OpenClaim := { program := "ytnkgcbeklohakaagreat", sum := "ab6fee37af0acfc70951c8a0ffe9ee408f8a343a79332f91ec4ded96fcb781c4", func := "loop.example/g00806/laws.FnExactClauseFollows", spec := "fnExactClauseFollows", unfollowed := true, recurses := true, apart := false }
def FnExactClauseFollowsSaid : Prop := fnExactClauseFollowsRow.holds Tryz.pinned (OpenSpec.ofChange fnExactClauseFollowsSpec)

/-- ITS FALSE NEIGHBOUR: 'it returns false'. Refute it at one input. -/
def fnExactClauseFollowsWrong : ChangeSpec := { name := "fnExactClauseFollows", fn := fun _ => fun
  | [d1, d2, d3] => { results := [.lit (.bool false)], args := [d1, d2, d3] }
  | _ => none }
def FnExactClauseFollowsWrongFalsely : Prop := fnExactClauseFollowsRow.holds Tryz.pinned (OpenSpec.ofChange fnExactClauseFollowsWrong)

/-- 'laws.FnExactPlanAdd': WHATEVER THE INPUT: true; the input reads as it did. -/
def fnExactPlanAddSpec : ChangeSpec := { name := "fnExactPlanAdd", fn := fun _ => fun
  | [d1, d2, d3, d4, d5] => { results := [.lit (.bool true)], args := [d1, d2, d3, d4, d5] }
  | _ => none }
def fnExactPlanAddRow : OpenClaim := { program := "ytnkgcbeklohakaagreat", sum := "ab6fee37af0acfc70951c8a0ffe9ee408f8a343a79332f91ec4ded96fcb781c4", func := "loop.example/g00806/laws.FnExactPlanAdd", spec := "fnExactPlanAdd", unfollowed := true, recurses := true, apart := false }
def FnExactPlanAddSaid : Prop := fnExactPlanAddRow.holds Tryz.pinned (OpenSpec.ofChange fnExactPlanAddSpec)

/-- ITS FALSE NEIGHBOUR: 'it returns false'. Refute it at one input. -/
def fnExactPlanAddWrong : ChangeSpec := { name := "fnExactPlanAdd", fn := fun _ => fun
  | [d1, d2, d3, d4, d5] => { results := [.lit (.bool false)], args := [d1, d2, d3, d4, d5] }
  | _ => none }
def FnExactPlanAddWrongFalsely : Prop := fnExactPlanAddRow.holds Tryz.pinned (OpenSpec.ofChange fnExactPlanAddWrong)

/- THE SECOND FORM. 'bulk': how many values and letters a reading holds, each counted each time it is reached (what is shared counts as often as it is met; a slice's spare places count too). A statement '..UptoSaid' is the law's where the arguments, and the package variables that the reading takes, are together of bulk at most 1048576: NARROWER than '..Said'. Prove '..Said' where nothing that the law and all that it calls make is longer than what came in: it says more and counts as full. Else prove '..UptoSaid'. A law counts once. -/
mutual
def uptoBulk {H : Type} : DataW H → Nat
  | .lit (.string bytes) => bytes.length + 1
  | .lit _ => 1
  | .nil => 1
  | .ptr d => uptoBulk d + 1
  | .slice elems spare => uptoBulkAll elems + uptoBulkAll spare + 1
  | .agg parts => uptoBulkAll parts + 1
  | .iface _ d => uptoBulk d + 1
  | .map entries => uptoBulkEntries entries + 1
  | .held _ => 1
def uptoBulkAll {H : Type} : List (DataW H) → Nat
  | [] => 0
  | d :: r => uptoBulk d + uptoBulkAll r
def uptoBulkEntries {H : Type} : List (Lit × DataW H) → Nat
  | [] => 0
  | x :: r => uptoBulkEntry x + uptoBulkEntries r
def uptoBulkEntry {H : Type} : Lit × DataW H → Nat
  | (.string bytes, d) => bytes.length + uptoBulk d + 1
  | (_, d) => uptoBulk d + 1
 end
def uptoSmall : (H : Type) → List (DataW H) → Bool := fun _ ds => decide (uptoBulkAll ds ≤ 1048576)
def OpenSpec.upto (s : _root_.Go.ChangeSpec) : _root_.Go.OpenSpec := { _root_.Go.OpenSpec.ofChange s with cond := some uptoSmall }

/-- 'laws.FnExactNegatedDomain', WHERE WHAT IT READS IS OF BULK AT MOST 1048576: true; the input reads as it did. -/
def fnExactNegatedDomainUptoRow : OpenClaim := { program := "ytnkgcbeklohakaagreat", sum := "ab6fee37af0acfc70951c8a0ffe9ee408f8a343a79332f91ec4ded96fcb781c4", func := "loop.example/g00806/laws.FnExactNegatedDomain", spec := "fnExactNegatedDomain", unfollowed := true, recurses := true, apart := false, narrowed := true }
def FnExactNegatedDomainUptoSaid : Prop := fnExactNegatedDomainUptoRow.holds Tryz.pinned (OpenSpec.upto fnExactNegatedDomainSpec)

/-- 'laws.FnExactCountSchedules', WHERE WHAT IT READS IS OF BULK AT MOST 1048576: true; the input reads as it did. -/
def fnExactCountSchedulesUptoRow : OpenClaim := { program := "ytnkgcbeklohakaagreat", sum := "ab6fee37af0acfc70951c8a0ffe9ee408f8a343a79332f91ec4ded96fcb781c4", func := "loop.example/g00806/laws.FnExactCountSchedules", spec := "fnExactCountSchedules", unfollowed := true, recurses := true, apart := false, narrowed := true }
def FnExactCountSchedulesUptoSaid : Prop := fnExactCountSchedulesUptoRow.holds Tryz.pinned (OpenSpec.upto fnExactCountSchedulesSpec)

/-- 'laws.FnExactLogNew', WHERE WHAT IT READS IS OF BULK AT MOST 1048576: true; the input reads as it did. -/
def fnExactLogNewUptoRow : OpenClaim := { program := "ytnkgcbeklohakaagreat", sum := "ab6fee37af0acfc70951c8a0ffe9ee408f8a343a79332f91ec4ded96fcb781c4", func := "loop.example/g00806/laws.FnExactLogNew", spec := "fnExactLogNew", unfollowed := true, recurses := true, apart := false, narrowed := true }
def FnExactLogNewUptoSaid : Prop := fnExactLogNewUptoRow.holds Tryz.pinned (OpenSpec.upto fnExactLogNewSpec)

/-- 'laws.FnExactAllSchedules', WHERE WHAT IT READS IS OF BULK AT MOST 1048576: true; the input reads as it did. -/
def fnExactAllSchedulesUptoRow : OpenClaim := { program := "ytnkgcbeklohakaagreat", sum := "ab6fee37af0acfc70951c8a0ffe9ee408f8a343a79332f91ec4ded96fcb781c4", func := "loop.example/g00806/laws.FnExactAllSchedules", spec := "fnExactAllSchedules", unfollowed := true, recurses := true, apart := false, narrowed := true }
def FnExactAllSchedulesUptoSaid : Prop := fnExactAllSchedulesUptoRow.holds Tryz.pinned (OpenSpec.upto fnExactAllSchedulesSpec)

/-- 'laws.FnExactBestSchedule', WHERE WHAT IT READS IS OF BULK AT MOST 1048576: true; the input reads as it did. -/
def fnExactBestScheduleUptoRow : OpenClaim := { program := "ytnkgcbeklohakaagreat", sum := "ab6fee37af0acfc70951c8a0ffe9ee408f8a343a79332f91ec4ded96fcb781c4", func := "loop.example/g00806/laws.FnExactBestSchedule", spec := "fnExactBestSchedule", unfollowed := true, recurses := true, apart := false, narrowed := true }
def FnExactBestScheduleUptoSaid : Prop := fnExactBestScheduleUptoRow.holds Tryz.pinned (OpenSpec.upto fnExactBestScheduleSpec)

/-- 'laws.FnExactUnitPropagate', WHERE WHAT IT READS IS OF BULK AT MOST 1048576: true; the input reads as it did. -/
def fnExactUnitPropagateUptoRow : OpenClaim := { program := "ytnkgcbeklohakaagreat", sum := "ab6fee37af0acfc70951c8a0ffe9ee408f8a343a79332f91ec4ded96fcb781c4", func := "loop.example/g00806/laws.FnExactUnitPropagate", spec := "fnExactUnitPropagate", unfollowed := true, recurses := true, apart := false, narrowed := true }
def FnExactUnitPropagateUptoSaid : Prop := fnExactUnitPropagateUptoRow.holds Tryz.pinned (OpenSpec.upto fnExactUnitPropagateSpec)

/-- 'laws.FnExactShiftEarlier', WHERE WHAT IT READS IS OF BULK AT MOST 1048576: true; the input reads as it did. -/
def fnExactShiftEarlierUptoRow : OpenClaim := { program := "ytnkgcbeklohakaagreat", sum := "ab6fee37af0acfc70951c8a0ffe9ee408f8a343a79332f91ec4ded96fcb781c4", func := "loop.example/g00806/laws.FnExactShiftEarlier", spec := "fnExactShiftEarlier", unfollowed := true, recurses := true, apart := false, narrowed := true }
def FnExactShiftEarlierUptoSaid : Prop := fnExactShiftEarlierUptoRow.holds Tryz.pinned (OpenSpec.upto fnExactShiftEarlierSpec)

/-- 'laws.FnExactPlanFits', WHERE WHAT IT READS IS OF BULK AT MOST 1048576: true; the input reads as it did. -/
def fnExactPlanFitsUptoRow : OpenClaim := { program := "ytnkgcbeklohakaagreat", sum := "ab6fee37af0acfc70951c8a0ffe9ee408f8a343a79332f91ec4ded96fcb781c4", func := "loop.example/g00806/laws.FnExactPlanFits", spec := "fnExactPlanFits", unfollowed := true, recurses := true, apart := false, narrowed := true }
def FnExactPlanFitsUptoSaid : Prop := fnExactPlanFitsUptoRow.holds Tryz.pinned (OpenSpec.upto fnExactPlanFitsSpec)

/-- 'laws.FnExactPlanEarliest', WHERE WHAT IT READS IS OF BULK AT MOST 1048576: true; the input reads as it did. -/
def fnExactPlanEarliestUptoRow : OpenClaim := { program := "ytnkgcbeklohakaagreat", sum := "ab6fee37af0acfc70951c8a0ffe9ee408f8a343a79332f91ec4ded96fcb781c4", func := "loop.example/g00806/laws.FnExactPlanEarliest", spec := "fnExactPlanEarliest", unfollowed := true, recurses := true, apart := false, narrowed := true }
def FnExactPlanEarliestUptoSaid : Prop := fnExactPlanEarliestUptoRow.holds Tryz.pinned (OpenSpec.upto fnExactPlanEarliestSpec)

/-- 'laws.FnExactClauseFollows', WHERE WHAT IT READS IS OF BULK AT MOST 1048576: true; the input reads as it did. -/
def fnExactClauseFollowsUptoRow : OpenClaim := { program := "ytnkgcbeklohakaagreat", sum := "ab6fee37af0acfc70951c8a0ffe9ee408f8a343a79332f91ec4ded96fcb781c4", func := "loop.example/g00806/laws.FnExactClauseFollows", spec := "fnExactClauseFollows", unfollowed := true, recurses := true, apart := false, narrowed := true }
def FnExactClauseFollowsUptoSaid : Prop := fnExactClauseFollowsUptoRow.holds Tryz.pinned (OpenSpec.upto fnExactClauseFollowsSpec)

/-- 'laws.FnExactPlanAdd', WHERE WHAT IT READS IS OF BULK AT MOST 1048576: true; the input reads as it did. -/
def fnExactPlanAddUptoRow : OpenClaim := { program := "ytnkgcbeklohakaagreat", sum := "ab6fee37af0acfc70951c8a0ffe9ee408f8a343a79332f91ec4ded96fcb781c4", func := "loop.example/g00806/laws.FnExactPlanAdd", spec := "fnExactPlanAdd", unfollowed := true, recurses := true, apart := false, narrowed := true }
def FnExactPlanAddUptoSaid : Prop := fnExactPlanAddUptoRow.holds Tryz.pinned (OpenSpec.upto fnExactPlanAddSpec)

end Rows
end Go.Proofs.YtnkgcbeklohakaaGreat
