/-
  No cell of these rows narrows 'for every input' (looked for: loops, veiled, ifaces, maps, wideKeys, modest, calm, conditions, laid).
  DERIVED. THE GIVEN ROWS OF THIS SEAT. 5 by the template 'for every input the law returns true; each argument reads behind the call as it read before'; 0 by the template 'total and deterministic' (their statements: YtooohimfepookaaTotals.lean).
  GIVEN WITH THE SEED: the statements are not yours to turn. If you find one false, say at which input.
  Laid BY PROGRAM, IN A SANDBOX (cutbox-rows.mjs): the forced cells as the released guide's own fill.sh prints them over the translation 3f76c6cf220d02fc… (all of the seat's roots in one cut). By AI agents, Wed Nov 11 2026. No macro, syntax, notation, axiom, sorry.
-/
import Derived.Test.YtooohimfepookaaChecked
import GoSem.Claim
import GoSem.ClaimJoined
import GoSem.ClaimMapViews
import Derived.JoinedTies
import Derived.KernelRfl
namespace Go.Proofs.Ytooohimfepookaa
/- THE CELL 'sum', in the pinned program and in every row, IS THE sha256 OF THE DUMP (.gsa) THAT YtooohimfepookaaProg.lean LOADS. Nothing in Lean hashes anything: it is a label: what it is worth is what the hold of that sum in a sandbox is worth. -/
noncomputable def Try.pinned : Pinned := { name := "ytooohimfepookaa", sum := "3f76c6cf220d02fcdef8035a37e4763a7dea8bcd79653e372e1f27801e93ed56", checked := Try.checked }
namespace Rows
def none {H : Type} : Left H := { results := [], args := [] }

/-- 'laws.FnExactStatusName': WHATEVER THE INPUT: true; the input reads as it did. -/
def fnExactStatusNameSpec : ChangeSpec := { name := "fnExactStatusName", fn := fun _ => fun
  | [d] => { results := [.lit (.bool true)], args := [d] }
  | _ => none }
def fnExactStatusNameRow : OpenClaim := { program := "ytooohimfepookaa", sum := "3f76c6cf220d02fcdef8035a37e4763a7dea8bcd79653e372e1f27801e93ed56", func := "loop.example/g00806/laws.FnExactStatusName", spec := "fnExactStatusName", apart := false }
def FnExactStatusNameSaid : Prop := fnExactStatusNameRow.holds Try.pinned (OpenSpec.ofChange fnExactStatusNameSpec)

/-- ITS FALSE NEIGHBOUR: 'it returns false'. Refute it at one input. -/
def fnExactStatusNameWrong : ChangeSpec := { name := "fnExactStatusName", fn := fun _ => fun
  | [d] => { results := [.lit (.bool false)], args := [d] }
  | _ => none }
def FnExactStatusNameWrongFalsely : Prop := fnExactStatusNameRow.holds Try.pinned (OpenSpec.ofChange fnExactStatusNameWrong)

/-- 'laws.FnExactScheduleDistance': WHATEVER THE INPUT: true; the input reads as it did. -/
def fnExactScheduleDistanceSpec : ChangeSpec := { name := "fnExactScheduleDistance", fn := fun _ => fun
  | [d1, d2] => { results := [.lit (.bool true)], args := [d1, d2] }
  | _ => none }
def fnExactScheduleDistanceRow : OpenClaim := { program := "ytooohimfepookaa", sum := "3f76c6cf220d02fcdef8035a37e4763a7dea8bcd79653e372e1f27801e93ed56", func := "loop.example/g00806/laws.FnExactScheduleDistance", spec := "fnExactScheduleDistance", apart := false }
def FnExactScheduleDistanceSaid : Prop := fnExactScheduleDistanceRow.holds Try.pinned (OpenSpec.ofChange fnExactScheduleDistanceSpec)

/-- ITS FALSE NEIGHBOUR: 'it returns false'. Refute it at one input. -/
def fnExactScheduleDistanceWrong : ChangeSpec := { name := "fnExactScheduleDistance", fn := fun _ => fun
  | [d1, d2] => { results := [.lit (.bool false)], args := [d1, d2] }
  | _ => none }
def FnExactScheduleDistanceWrongFalsely : Prop := fnExactScheduleDistanceRow.holds Try.pinned (OpenSpec.ofChange fnExactScheduleDistanceWrong)

/-- 'laws.FnExactStartedBefore': WHATEVER THE INPUT: true; the input reads as it did. -/
def fnExactStartedBeforeSpec : ChangeSpec := { name := "fnExactStartedBefore", fn := fun _ => fun
  | [d1, d2] => { results := [.lit (.bool true)], args := [d1, d2] }
  | _ => none }
def fnExactStartedBeforeRow : OpenClaim := { program := "ytooohimfepookaa", sum := "3f76c6cf220d02fcdef8035a37e4763a7dea8bcd79653e372e1f27801e93ed56", func := "loop.example/g00806/laws.FnExactStartedBefore", spec := "fnExactStartedBefore", apart := false }
def FnExactStartedBeforeSaid : Prop := fnExactStartedBeforeRow.holds Try.pinned (OpenSpec.ofChange fnExactStartedBeforeSpec)

/-- ITS FALSE NEIGHBOUR: 'it returns false'. Refute it at one input. -/
def fnExactStartedBeforeWrong : ChangeSpec := { name := "fnExactStartedBefore", fn := fun _ => fun
  | [d1, d2] => { results := [.lit (.bool false)], args := [d1, d2] }
  | _ => none }
def FnExactStartedBeforeWrongFalsely : Prop := fnExactStartedBeforeRow.holds Try.pinned (OpenSpec.ofChange fnExactStartedBeforeWrong)

/-- 'laws.FnExactPrefixKept': WHATEVER THE INPUT: true; the input reads as it did. -/
def fnExactPrefixKeptSpec : ChangeSpec := { name := "fnExactPrefixKept", fn := fun _ => fun
  | [d1, d2, d3] => { results := [.lit (.bool true)], args := [d1, d2, d3] }
  | _ => none }
def fnExactPrefixKeptRow : OpenClaim := { program := "ytooohimfepookaa", sum := "3f76c6cf220d02fcdef8035a37e4763a7dea8bcd79653e372e1f27801e93ed56", func := "loop.example/g00806/laws.FnExactPrefixKept", spec := "fnExactPrefixKept", unfollowed := true, recurses := true, apart := false }
def FnExactPrefixKeptSaid : Prop := fnExactPrefixKeptRow.holds Try.pinned (OpenSpec.ofChange fnExactPrefixKeptSpec)

/-- ITS FALSE NEIGHBOUR: 'it returns false'. Refute it at one input. -/
def fnExactPrefixKeptWrong : ChangeSpec := { name := "fnExactPrefixKept", fn := fun _ => fun
  | [d1, d2, d3] => { results := [.lit (.bool false)], args := [d1, d2, d3] }
  | _ => none }
def FnExactPrefixKeptWrongFalsely : Prop := fnExactPrefixKeptRow.holds Try.pinned (OpenSpec.ofChange fnExactPrefixKeptWrong)

/-- 'laws.FnExactResultGap': WHATEVER THE INPUT: true; the input reads as it did. -/
def fnExactResultGapSpec : ChangeSpec := { name := "fnExactResultGap", fn := fun _ => fun
  | [d] => { results := [.lit (.bool true)], args := [d] }
  | _ => none }
def fnExactResultGapRow : OpenClaim := { program := "ytooohimfepookaa", sum := "3f76c6cf220d02fcdef8035a37e4763a7dea8bcd79653e372e1f27801e93ed56", func := "loop.example/g00806/laws.FnExactResultGap", spec := "fnExactResultGap", apart := false }
def FnExactResultGapSaid : Prop := fnExactResultGapRow.holds Try.pinned (OpenSpec.ofChange fnExactResultGapSpec)

/-- ITS FALSE NEIGHBOUR: 'it returns false'. Refute it at one input. -/
def fnExactResultGapWrong : ChangeSpec := { name := "fnExactResultGap", fn := fun _ => fun
  | [d] => { results := [.lit (.bool false)], args := [d] }
  | _ => none }
def FnExactResultGapWrongFalsely : Prop := fnExactResultGapRow.holds Try.pinned (OpenSpec.ofChange fnExactResultGapWrong)

/- THE SECOND FORM. 'bulk': how many values and letters a reading holds, each counted each time it is reached (what is shared counts as often as it is met; a slice's spare places count too). A statement '..UptoSaid' is the law's where the arguments, and the package variables that the reading takes, are together of bulk at most 1048576: NARROWER than '..Said'. Prove '..Said' where nothing that the law and all that it calls make is longer than what came in: it says more and counts as full. Else prove '..UptoSaid'. A law counts once. -/
mutual
def uptoBulk {H : Type} : DataW H → Nat
  | .lit (.string bytes) => bytes.length + 1
  | .lit _ => 1
  | .nil => 1
  | .ptr d => uptoBulk d + 1
  | .slice elems spare => uptoBulkAll elems + uptoBulkAll spare + 1
  | .agg parts => uptoBulkAll parts + 1
  | .iface _ d => uptoBulk d + 1
  | .map entries => uptoBulkEntries entries + 1
  | .held _ => 1
def uptoBulkAll {H : Type} : List (DataW H) → Nat
  | [] => 0
  | d :: r => uptoBulk d + uptoBulkAll r
def uptoBulkEntries {H : Type} : List (Lit × DataW H) → Nat
  | [] => 0
  | x :: r => uptoBulkEntry x + uptoBulkEntries r
def uptoBulkEntry {H : Type} : Lit × DataW H → Nat
  | (.string bytes, d) => bytes.length + uptoBulk d + 1
  | (_, d) => uptoBulk d + 1
 end
def uptoSmall : (H : Type) → List (DataW H) → Bool := fun _ ds => decide (uptoBulkAll ds ≤ 1048576)
def OpenSpec.upto (s : _root_.Go.ChangeSpec) : _root_.Go.OpenSpec := { _root_.Go.OpenSpec.ofChange s with cond := some uptoSmall }

/-- 'laws.FnExactStatusName', WHERE WHAT IT READS IS OF BULK AT MOST 1048576: true; the input reads as it did. -/
def fnExactStatusNameUptoRow : OpenClaim := { program := "ytooohimfepookaa", sum := "3f76c6cf220d02fcdef8035a37e4763a7dea8bcd79653e372e1f27801e93ed56", func := "loop.example/g00806/laws.FnExactStatusName", spec := "fnExactStatusName", apart := false, narrowed := true }
def FnExactStatusNameUptoSaid : Prop := fnExactStatusNameUptoRow.holds Try.pinned (OpenSpec.upto fnExactStatusNameSpec)

/-- 'laws.FnExactScheduleDistance', WHERE WHAT IT READS IS OF BULK AT MOST 1048576: true; the input reads as it did. -/
def fnExactScheduleDistanceUptoRow : OpenClaim := { program := "ytooohimfepookaa", sum := "3f76c6cf220d02fcdef8035a37e4763a7dea8bcd79653e372e1f27801e93ed56", func := "loop.example/g00806/laws.FnExactScheduleDistance", spec := "fnExactScheduleDistance", apart := false, narrowed := true }
def FnExactScheduleDistanceUptoSaid : Prop := fnExactScheduleDistanceUptoRow.holds Try.pinned (OpenSpec.upto fnExactScheduleDistanceSpec)

/-- 'laws.FnExactStartedBefore', WHERE WHAT IT READS IS OF BULK AT MOST 1048576: true; the input reads as it did. -/
def fnExactStartedBeforeUptoRow : OpenClaim := { program := "ytooohimfepookaa", sum := "3f76c6cf220d02fcdef8035a37e4763a7dea8bcd79653e372e1f27801e93ed56", func := "loop.example/g00806/laws.FnExactStartedBefore", spec := "fnExactStartedBefore", apart := false, narrowed := true }
def FnExactStartedBeforeUptoSaid : Prop := fnExactStartedBeforeUptoRow.holds Try.pinned (OpenSpec.upto fnExactStartedBeforeSpec)

/-- 'laws.FnExactPrefixKept', WHERE WHAT IT READS IS OF BULK AT MOST 1048576: true; the input reads as it did. -/
def fnExactPrefixKeptUptoRow : OpenClaim := { program := "ytooohimfepookaa", sum := "3f76c6cf220d02fcdef8035a37e4763a7dea8bcd79653e372e1f27801e93ed56", func := "loop.example/g00806/laws.FnExactPrefixKept", spec := "fnExactPrefixKept", unfollowed := true, recurses := true, apart := false, narrowed := true }
def FnExactPrefixKeptUptoSaid : Prop := fnExactPrefixKeptUptoRow.holds Try.pinned (OpenSpec.upto fnExactPrefixKeptSpec)

/-- 'laws.FnExactResultGap', WHERE WHAT IT READS IS OF BULK AT MOST 1048576: true; the input reads as it did. -/
def fnExactResultGapUptoRow : OpenClaim := { program := "ytooohimfepookaa", sum := "3f76c6cf220d02fcdef8035a37e4763a7dea8bcd79653e372e1f27801e93ed56", func := "loop.example/g00806/laws.FnExactResultGap", spec := "fnExactResultGap", apart := false, narrowed := true }
def FnExactResultGapUptoSaid : Prop := fnExactResultGapUptoRow.holds Try.pinned (OpenSpec.upto fnExactResultGapSpec)

end Rows
end Go.Proofs.Ytooohimfepookaa
