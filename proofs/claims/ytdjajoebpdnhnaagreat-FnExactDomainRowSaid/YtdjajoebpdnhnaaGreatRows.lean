/-
  No cell of these rows narrows 'for every input' (looked for: loops, veiled, ifaces, maps, wideKeys, modest, calm, conditions, laid).
  DERIVED. THE GIVEN ROWS OF THIS SEAT. 7 by the template 'for every input the law returns true; each argument reads behind the call as it read before'; 0 by the template 'total and deterministic' (their statements: YtdjajoebpdnhnaaGreatTotals.lean).
  GIVEN WITH THE SEED: the statements are not yours to turn. If you find one false, say at which input.
  Laid BY PROGRAM, IN A SANDBOX (cutbox-rows.mjs): the forced cells as the released guide's own fill.sh prints them over the translation bac68230f9ece2f8… (all of the seat's roots in one cut). By AI agents, Wed Nov 11 2026. No macro, syntax, notation, axiom, sorry.
-/
import Derived.Test.YtdjajoebpdnhnaaGreatChecked
import GoSem.Claim
import GoSem.ClaimJoined
import GoSem.ClaimMapViews
import Derived.JoinedTies
import Derived.KernelRfl
namespace Go.Proofs.YtdjajoebpdnhnaaGreat
/- THE CELL 'sum', in the pinned program and in every row, IS THE sha256 OF THE DUMP (.gsa) THAT YtdjajoebpdnhnaaGreatProg.lean LOADS. Nothing in Lean hashes anything: it is a label: what it is worth is what the hold of that sum in a sandbox is worth. -/
noncomputable def Tryz.pinned : Pinned := { name := "ytdjajoebpdnhnaagreat", sum := "bac68230f9ece2f802ab8889c47be45a5ad3b064c14a05d30e42e8e16c88e83c", checked := Tryz.checked }
namespace Rows
def none {H : Type} : Left H := { results := [], args := [] }

/-- 'laws.FnExactDomainRow': WHATEVER THE INPUT: true; the input reads as it did. -/
def fnExactDomainRowSpec : ChangeSpec := { name := "fnExactDomainRow", fn := fun _ => fun
  | [d1, d2, d3] => { results := [.lit (.bool true)], args := [d1, d2, d3] }
  | _ => none }
def fnExactDomainRowRow : OpenClaim := { program := "ytdjajoebpdnhnaagreat", sum := "bac68230f9ece2f802ab8889c47be45a5ad3b064c14a05d30e42e8e16c88e83c", func := "loop.example/g00806/laws.FnExactDomainRow", spec := "fnExactDomainRow", unfollowed := true, recurses := true, apart := false }
def FnExactDomainRowSaid : Prop := fnExactDomainRowRow.holds Tryz.pinned (OpenSpec.ofChange fnExactDomainRowSpec)

/-- ITS FALSE NEIGHBOUR: 'it returns false'. Refute it at one input. -/
def fnExactDomainRowWrong : ChangeSpec := { name := "fnExactDomainRow", fn := fun _ => fun
  | [d1, d2, d3] => { results := [.lit (.bool false)], args := [d1, d2, d3] }
  | _ => none }
def FnExactDomainRowWrongFalsely : Prop := fnExactDomainRowRow.holds Tryz.pinned (OpenSpec.ofChange fnExactDomainRowWrong)

/-- 'laws.FnExactDeadlineSlack': WHATEVER THE INPUT: true; the input reads as it did. -/
def fnExactDeadlineSlackSpec : ChangeSpec := { name := "fnExactDeadlineSlack", fn := fun _ => fun
  | [d1, d2] => { results := [.lit (.bool true)], args := [d1, d2] }
  | _ => none }
def fnExactDeadlineSlackRow : OpenClaim := { program := "ytdjajoebpdnhnaagreat", sum := "bac68230f9ece2f802ab8889c47be45a5ad3b064c14a05d30e42e8e16c88e83c", func := "loop.example/g00806/laws.FnExactDeadlineSlack", spec := "fnExactDeadlineSlack", unfollowed := true, recurses := true, apart := false }
def FnExactDeadlineSlackSaid : Prop := fnExactDeadlineSlackRow.holds Tryz.pinned (OpenSpec.ofChange fnExactDeadlineSlackSpec)

/-- ITS FALSE NEIGHBOUR: 'it returns false'. Refute it at one input. -/
def fnExactDeadlineSlackWrong : ChangeSpec := { name := "fnExactDeadlineSlack", fn := fun _ => fun
  | [d1, d2] => { results := [.lit (.bool false)], args := [d1, d2] }
  | _ => none }
def FnExactDeadlineSlackWrongFalsely : Prop := fnExactDeadlineSlackRow.holds Tryz.pinned (OpenSpec.ofChange fnExactDeadlineSlackWrong)

/-- 'laws.FnExactFreeFloat': WHATEVER THE INPUT: true; the input reads as it did. -/
def fnExactFreeFloatSpec : ChangeSpec := { name := "fnExactFreeFloat", fn := fun _ => fun
  | [d1, d2, d3] => { results := [.lit (.bool true)], args := [d1, d2, d3] }
  | _ => none }
def fnExactFreeFloatRow : OpenClaim := { program := "ytdjajoebpdnhnaagreat", sum := "bac68230f9ece2f802ab8889c47be45a5ad3b064c14a05d30e42e8e16c88e83c", func := "loop.example/g00806/laws.FnExactFreeFloat", spec := "fnExactFreeFloat", unfollowed := true, recurses := true, apart := false }
def FnExactFreeFloatSaid : Prop := fnExactFreeFloatRow.holds Tryz.pinned (OpenSpec.ofChange fnExactFreeFloatSpec)

/-- ITS FALSE NEIGHBOUR: 'it returns false'. Refute it at one input. -/
def fnExactFreeFloatWrong : ChangeSpec := { name := "fnExactFreeFloat", fn := fun _ => fun
  | [d1, d2, d3] => { results := [.lit (.bool false)], args := [d1, d2, d3] }
  | _ => none }
def FnExactFreeFloatWrongFalsely : Prop := fnExactFreeFloatRow.holds Tryz.pinned (OpenSpec.ofChange fnExactFreeFloatWrong)

/-- 'laws.FnExactTotalFloat': WHATEVER THE INPUT: true; the input reads as it did. -/
def fnExactTotalFloatSpec : ChangeSpec := { name := "fnExactTotalFloat", fn := fun _ => fun
  | [d1, d2, d3] => { results := [.lit (.bool true)], args := [d1, d2, d3] }
  | _ => none }
def fnExactTotalFloatRow : OpenClaim := { program := "ytdjajoebpdnhnaagreat", sum := "bac68230f9ece2f802ab8889c47be45a5ad3b064c14a05d30e42e8e16c88e83c", func := "loop.example/g00806/laws.FnExactTotalFloat", spec := "fnExactTotalFloat", unfollowed := true, recurses := true, apart := false }
def FnExactTotalFloatSaid : Prop := fnExactTotalFloatRow.holds Tryz.pinned (OpenSpec.ofChange fnExactTotalFloatSpec)

/-- ITS FALSE NEIGHBOUR: 'it returns false'. Refute it at one input. -/
def fnExactTotalFloatWrong : ChangeSpec := { name := "fnExactTotalFloat", fn := fun _ => fun
  | [d1, d2, d3] => { results := [.lit (.bool false)], args := [d1, d2, d3] }
  | _ => none }
def FnExactTotalFloatWrongFalsely : Prop := fnExactTotalFloatRow.holds Tryz.pinned (OpenSpec.ofChange fnExactTotalFloatWrong)

/-- 'laws.FnExactFreeFloats': WHATEVER THE INPUT: true; the input reads as it did. -/
def fnExactFreeFloatsSpec : ChangeSpec := { name := "fnExactFreeFloats", fn := fun _ => fun
  | [d1, d2] => { results := [.lit (.bool true)], args := [d1, d2] }
  | _ => none }
def fnExactFreeFloatsRow : OpenClaim := { program := "ytdjajoebpdnhnaagreat", sum := "bac68230f9ece2f802ab8889c47be45a5ad3b064c14a05d30e42e8e16c88e83c", func := "loop.example/g00806/laws.FnExactFreeFloats", spec := "fnExactFreeFloats", unfollowed := true, recurses := true, apart := false }
def FnExactFreeFloatsSaid : Prop := fnExactFreeFloatsRow.holds Tryz.pinned (OpenSpec.ofChange fnExactFreeFloatsSpec)

/-- ITS FALSE NEIGHBOUR: 'it returns false'. Refute it at one input. -/
def fnExactFreeFloatsWrong : ChangeSpec := { name := "fnExactFreeFloats", fn := fun _ => fun
  | [d1, d2] => { results := [.lit (.bool false)], args := [d1, d2] }
  | _ => none }
def FnExactFreeFloatsWrongFalsely : Prop := fnExactFreeFloatsRow.holds Tryz.pinned (OpenSpec.ofChange fnExactFreeFloatsWrong)

/-- 'laws.FnExactRobustness': WHATEVER THE INPUT: true; the input reads as it did. -/
def fnExactRobustnessSpec : ChangeSpec := { name := "fnExactRobustness", fn := fun _ => fun
  | [d1, d2] => { results := [.lit (.bool true)], args := [d1, d2] }
  | _ => none }
def fnExactRobustnessRow : OpenClaim := { program := "ytdjajoebpdnhnaagreat", sum := "bac68230f9ece2f802ab8889c47be45a5ad3b064c14a05d30e42e8e16c88e83c", func := "loop.example/g00806/laws.FnExactRobustness", spec := "fnExactRobustness", unfollowed := true, recurses := true, apart := false }
def FnExactRobustnessSaid : Prop := fnExactRobustnessRow.holds Tryz.pinned (OpenSpec.ofChange fnExactRobustnessSpec)

/-- ITS FALSE NEIGHBOUR: 'it returns false'. Refute it at one input. -/
def fnExactRobustnessWrong : ChangeSpec := { name := "fnExactRobustness", fn := fun _ => fun
  | [d1, d2] => { results := [.lit (.bool false)], args := [d1, d2] }
  | _ => none }
def FnExactRobustnessWrongFalsely : Prop := fnExactRobustnessRow.holds Tryz.pinned (OpenSpec.ofChange fnExactRobustnessWrong)

/-- 'laws.FnExactPushActivity': WHATEVER THE INPUT: true; the input reads as it did. -/
def fnExactPushActivitySpec : ChangeSpec := { name := "fnExactPushActivity", fn := fun _ => fun
  | [d1, d2, d3, d4] => { results := [.lit (.bool true)], args := [d1, d2, d3, d4] }
  | _ => none }
def fnExactPushActivityRow : OpenClaim := { program := "ytdjajoebpdnhnaagreat", sum := "bac68230f9ece2f802ab8889c47be45a5ad3b064c14a05d30e42e8e16c88e83c", func := "loop.example/g00806/laws.FnExactPushActivity", spec := "fnExactPushActivity", unfollowed := true, recurses := true, apart := false }
def FnExactPushActivitySaid : Prop := fnExactPushActivityRow.holds Tryz.pinned (OpenSpec.ofChange fnExactPushActivitySpec)

/-- ITS FALSE NEIGHBOUR: 'it returns false'. Refute it at one input. -/
def fnExactPushActivityWrong : ChangeSpec := { name := "fnExactPushActivity", fn := fun _ => fun
  | [d1, d2, d3, d4] => { results := [.lit (.bool false)], args := [d1, d2, d3, d4] }
  | _ => none }
def FnExactPushActivityWrongFalsely : Prop := fnExactPushActivityRow.holds Tryz.pinned (OpenSpec.ofChange fnExactPushActivityWrong)

/- THE SECOND FORM. 'bulk': how many values and letters a reading holds, each counted each time it is reached (what is shared counts as often as it is met; a slice's spare places count too). A statement '..UptoSaid' is the law's where the arguments, and the package variables that the reading takes, are together of bulk at most 1048576: NARROWER than '..Said'. Prove '..Said' where nothing that the law and all that it calls make is longer than what came in: it says more and counts as full. Else prove '..UptoSaid'. A law counts once. -/
mutual
def uptoBulk {H : Type} : DataW H → Nat
  | .lit (.string bytes) => bytes.length + 1
  | .lit _ => 1
  | .nil => 1
  | .ptr d => uptoBulk d + 1
  | .slice elems spare => uptoBulkAll elems + uptoBulkAll spare + 1
  | .agg parts => uptoBulkAll parts + 1
  | .iface _ d => uptoBulk d + 1
  | .map entries => uptoBulkEntries entries + 1
  | .held _ => 1
def uptoBulkAll {H : Type} : List (DataW H) → Nat
  | [] => 0
  | d :: r => uptoBulk d + uptoBulkAll r
def uptoBulkEntries {H : Type} : List (Lit × DataW H) → Nat
  | [] => 0
  | x :: r => uptoBulkEntry x + uptoBulkEntries r
def uptoBulkEntry {H : Type} : Lit × DataW H → Nat
  | (.string bytes, d) => bytes.length + uptoBulk d + 1
  | (_, d) => uptoBulk d + 1
 end
def uptoSmall : (H : Type) → List (DataW H) → Bool := fun _ ds => decide (uptoBulkAll ds ≤ 1048576)
def OpenSpec.upto (s : _root_.Go.ChangeSpec) : _root_.Go.OpenSpec := { _root_.Go.OpenSpec.ofChange s with cond := some uptoSmall }

/-- 'laws.FnExactDomainRow', WHERE WHAT IT READS IS OF BULK AT MOST 1048576: true; the input reads as it did. -/
def fnExactDomainRowUptoRow : OpenClaim := { program := "ytdjajoebpdnhnaagreat", sum := "bac68230f9ece2f802ab8889c47be45a5ad3b064c14a05d30e42e8e16c88e83c", func := "loop.example/g00806/laws.FnExactDomainRow", spec := "fnExactDomainRow", unfollowed := true, recurses := true, apart := false, narrowed := true }
def FnExactDomainRowUptoSaid : Prop := fnExactDomainRowUptoRow.holds Tryz.pinned (OpenSpec.upto fnExactDomainRowSpec)

/-- 'laws.FnExactDeadlineSlack', WHERE WHAT IT READS IS OF BULK AT MOST 1048576: true; the input reads as it did. -/
def fnExactDeadlineSlackUptoRow : OpenClaim := { program := "ytdjajoebpdnhnaagreat", sum := "bac68230f9ece2f802ab8889c47be45a5ad3b064c14a05d30e42e8e16c88e83c", func := "loop.example/g00806/laws.FnExactDeadlineSlack", spec := "fnExactDeadlineSlack", unfollowed := true, recurses := true, apart := false, narrowed := true }
def FnExactDeadlineSlackUptoSaid : Prop := fnExactDeadlineSlackUptoRow.holds Tryz.pinned (OpenSpec.upto fnExactDeadlineSlackSpec)

/-- 'laws.FnExactFreeFloat', WHERE WHAT IT READS IS OF BULK AT MOST 1048576: true; the input reads as it did. -/
def fnExactFreeFloatUptoRow : OpenClaim := { program := "ytdjajoebpdnhnaagreat", sum := "bac68230f9ece2f802ab8889c47be45a5ad3b064c14a05d30e42e8e16c88e83c", func := "loop.example/g00806/laws.FnExactFreeFloat", spec := "fnExactFreeFloat", unfollowed := true, recurses := true, apart := false, narrowed := true }
def FnExactFreeFloatUptoSaid : Prop := fnExactFreeFloatUptoRow.holds Tryz.pinned (OpenSpec.upto fnExactFreeFloatSpec)

/-- 'laws.FnExactTotalFloat', WHERE WHAT IT READS IS OF BULK AT MOST 1048576: true; the input reads as it did. -/
def fnExactTotalFloatUptoRow : OpenClaim := { program := "ytdjajoebpdnhnaagreat", sum := "bac68230f9ece2f802ab8889c47be45a5ad3b064c14a05d30e42e8e16c88e83c", func := "loop.example/g00806/laws.FnExactTotalFloat", spec := "fnExactTotalFloat", unfollowed := true, recurses := true, apart := false, narrowed := true }
def FnExactTotalFloatUptoSaid : Prop := fnExactTotalFloatUptoRow.holds Tryz.pinned (OpenSpec.upto fnExactTotalFloatSpec)

/-- 'laws.FnExactFreeFloats', WHERE WHAT IT READS IS OF BULK AT MOST 1048576: true; the input reads as it did. -/
def fnExactFreeFloatsUptoRow : OpenClaim := { program := "ytdjajoebpdnhnaagreat", sum := "bac68230f9ece2f802ab8889c47be45a5ad3b064c14a05d30e42e8e16c88e83c", func := "loop.example/g00806/laws.FnExactFreeFloats", spec := "fnExactFreeFloats", unfollowed := true, recurses := true, apart := false, narrowed := true }
def FnExactFreeFloatsUptoSaid : Prop := fnExactFreeFloatsUptoRow.holds Tryz.pinned (OpenSpec.upto fnExactFreeFloatsSpec)

/-- 'laws.FnExactRobustness', WHERE WHAT IT READS IS OF BULK AT MOST 1048576: true; the input reads as it did. -/
def fnExactRobustnessUptoRow : OpenClaim := { program := "ytdjajoebpdnhnaagreat", sum := "bac68230f9ece2f802ab8889c47be45a5ad3b064c14a05d30e42e8e16c88e83c", func := "loop.example/g00806/laws.FnExactRobustness", spec := "fnExactRobustness", unfollowed := true, recurses := true, apart := false, narrowed := true }
def FnExactRobustnessUptoSaid : Prop := fnExactRobustnessUptoRow.holds Tryz.pinned (OpenSpec.upto fnExactRobustnessSpec)

/-- 'laws.FnExactPushActivity', WHERE WHAT IT READS IS OF BULK AT MOST 1048576: true; the input reads as it did. -/
def fnExactPushActivityUptoRow : OpenClaim := { program := "ytdjajoebpdnhnaagreat", sum := "bac68230f9ece2f802ab8889c47be45a5ad3b064c14a05d30e42e8e16c88e83c", func := "loop.example/g00806/laws.FnExactPushActivity", spec := "fnExactPushActivity", unfollowed := true, recurses := true, apart := false, narrowed := true }
def FnExactPushActivityUptoSaid : Prop := fnExactPushActivityUptoRow.holds Tryz.pinned (OpenSpec.upto fnExactPushActivitySpec)

end Rows
end Go.Proofs.YtdjajoebpdnhnaaGreat
