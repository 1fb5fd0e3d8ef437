/-
  No cell of these rows narrows 'for every input' (looked for: loops, veiled, ifaces, maps, wideKeys, modest, calm, conditions, laid).
  DERIVED. THE GIVEN ROWS OF THIS SEAT. 7 by the template 'for every input the law returns true; each argument reads behind the call as it read before'; 0 by the template 'total and deterministic' (their statements: YtemeabdacejkpaaTotals.lean).
  GIVEN WITH THE SEED: the statements are not yours to turn. If you find one false, say at which input.
  Laid BY PROGRAM, IN A SANDBOX (cutbox-rows.mjs): the forced cells as the released guide's own fill.sh prints them over the translation 53955f3d54b3b529… (all of the seat's roots in one cut). By AI agents, Wed Nov 11 2026. No macro, syntax, notation, axiom, sorry.
-/
import Derived.Test.YtemeabdacejkpaaChecked
import GoSem.Claim
import GoSem.ClaimJoined
import GoSem.ClaimMapViews
import Derived.JoinedTies
import Derived.KernelRfl
namespace Go.Proofs.Ytemeabdacejkpaa
/- THE CELL 'sum', in the pinned program and in every row, IS THE sha256 OF THE DUMP (.gsa) THAT YtemeabdacejkpaaProg.lean LOADS. Nothing in Lean hashes anything: it is a label: what it is worth is what the hold of that sum in a sandbox is worth. -/
noncomputable def Try.pinned : Pinned := { name := "ytemeabdacejkpaa", sum := "53955f3d54b3b529a50f294ba6c23fa71389066c7354db7162176fe33beb5dce", checked := Try.checked }
namespace Rows
def none {H : Type} : Left H := { results := [], args := [] }

/-- 'laws.FnResources': WHATEVER THE INPUT: true; the input reads as it did. -/
def fnResourcesSpec : ChangeSpec := { name := "fnResources", fn := fun _ => fun
  | [d] => { results := [.lit (.bool true)], args := [d] }
  | _ => none }
def fnResourcesRow : OpenClaim := { program := "ytemeabdacejkpaa", sum := "53955f3d54b3b529a50f294ba6c23fa71389066c7354db7162176fe33beb5dce", func := "loop.example/g00806/laws.FnResources", spec := "fnResources", unfollowed := true, recurses := true, apart := false }
def FnResourcesSaid : Prop := fnResourcesRow.holds Try.pinned (OpenSpec.ofChange fnResourcesSpec)

/-- ITS FALSE NEIGHBOUR: 'it returns false'. Refute it at one input. -/
def fnResourcesWrong : ChangeSpec := { name := "fnResources", fn := fun _ => fun
  | [d] => { results := [.lit (.bool false)], args := [d] }
  | _ => none }
def FnResourcesWrongFalsely : Prop := fnResourcesRow.holds Try.pinned (OpenSpec.ofChange fnResourcesWrong)

/-- 'laws.FnExactResultEqual': WHATEVER THE INPUT: true; the input reads as it did. -/
def fnExactResultEqualSpec : ChangeSpec := { name := "fnExactResultEqual", fn := fun _ => fun
  | [d1, d2] => { results := [.lit (.bool true)], args := [d1, d2] }
  | _ => none }
def fnExactResultEqualRow : OpenClaim := { program := "ytemeabdacejkpaa", sum := "53955f3d54b3b529a50f294ba6c23fa71389066c7354db7162176fe33beb5dce", func := "loop.example/g00806/laws.FnExactResultEqual", spec := "fnExactResultEqual", apart := false }
def FnExactResultEqualSaid : Prop := fnExactResultEqualRow.holds Try.pinned (OpenSpec.ofChange fnExactResultEqualSpec)

/-- ITS FALSE NEIGHBOUR: 'it returns false'. Refute it at one input. -/
def fnExactResultEqualWrong : ChangeSpec := { name := "fnExactResultEqual", fn := fun _ => fun
  | [d1, d2] => { results := [.lit (.bool false)], args := [d1, d2] }
  | _ => none }
def FnExactResultEqualWrongFalsely : Prop := fnExactResultEqualRow.holds Try.pinned (OpenSpec.ofChange fnExactResultEqualWrong)

/-- 'laws.FnExactRestrict': WHATEVER THE INPUT: true; the input reads as it did. -/
def fnExactRestrictSpec : ChangeSpec := { name := "fnExactRestrict", fn := fun _ => fun
  | [d1, d2] => { results := [.lit (.bool true)], args := [d1, d2] }
  | _ => none }
def fnExactRestrictRow : OpenClaim := { program := "ytemeabdacejkpaa", sum := "53955f3d54b3b529a50f294ba6c23fa71389066c7354db7162176fe33beb5dce", func := "loop.example/g00806/laws.FnExactRestrict", spec := "fnExactRestrict", unfollowed := true, recurses := true, apart := false }
def FnExactRestrictSaid : Prop := fnExactRestrictRow.holds Try.pinned (OpenSpec.ofChange fnExactRestrictSpec)

/-- ITS FALSE NEIGHBOUR: 'it returns false'. Refute it at one input. -/
def fnExactRestrictWrong : ChangeSpec := { name := "fnExactRestrict", fn := fun _ => fun
  | [d1, d2] => { results := [.lit (.bool false)], args := [d1, d2] }
  | _ => none }
def FnExactRestrictWrongFalsely : Prop := fnExactRestrictRow.holds Try.pinned (OpenSpec.ofChange fnExactRestrictWrong)

/-- 'laws.FnSched': WHATEVER THE INPUT: true; the input reads as it did. -/
def fnSchedSpec : ChangeSpec := { name := "fnSched", fn := fun _ => fun
  | [d] => { results := [.lit (.bool true)], args := [d] }
  | _ => none }
def fnSchedRow : OpenClaim := { program := "ytemeabdacejkpaa", sum := "53955f3d54b3b529a50f294ba6c23fa71389066c7354db7162176fe33beb5dce", func := "loop.example/g00806/laws.FnSched", spec := "fnSched", unfollowed := true, recurses := true, apart := false }
def FnSchedSaid : Prop := fnSchedRow.holds Try.pinned (OpenSpec.ofChange fnSchedSpec)

/-- ITS FALSE NEIGHBOUR: 'it returns false'. Refute it at one input. -/
def fnSchedWrong : ChangeSpec := { name := "fnSched", fn := fun _ => fun
  | [d] => { results := [.lit (.bool false)], args := [d] }
  | _ => none }
def FnSchedWrongFalsely : Prop := fnSchedRow.holds Try.pinned (OpenSpec.ofChange fnSchedWrong)

/-- 'laws.FnExactNewConsole': WHATEVER THE INPUT: true; the input reads as it did. -/
def fnExactNewConsoleSpec : ChangeSpec := { name := "fnExactNewConsole", fn := fun _ => fun
  | [] => { results := [.lit (.bool true)], args := [] }
  | _ => none }
def fnExactNewConsoleRow : OpenClaim := { program := "ytemeabdacejkpaa", sum := "53955f3d54b3b529a50f294ba6c23fa71389066c7354db7162176fe33beb5dce", func := "loop.example/g00806/laws.FnExactNewConsole", spec := "fnExactNewConsole", apart := false }
def FnExactNewConsoleSaid : Prop := fnExactNewConsoleRow.holds Try.pinned (OpenSpec.ofChange fnExactNewConsoleSpec)

/-- ITS FALSE NEIGHBOUR: 'it returns false'. Refute it at one input. -/
def fnExactNewConsoleWrong : ChangeSpec := { name := "fnExactNewConsole", fn := fun _ => fun
  | [] => { results := [.lit (.bool false)], args := [] }
  | _ => none }
def FnExactNewConsoleWrongFalsely : Prop := fnExactNewConsoleRow.holds Try.pinned (OpenSpec.ofChange fnExactNewConsoleWrong)

/-- 'laws.FnExactDelayOk': WHATEVER THE INPUT: true; the input reads as it did. -/
def fnExactDelayOkSpec : ChangeSpec := { name := "fnExactDelayOk", fn := fun _ => fun
  | [d1, d2] => { results := [.lit (.bool true)], args := [d1, d2] }
  | _ => none }
def fnExactDelayOkRow : OpenClaim := { program := "ytemeabdacejkpaa", sum := "53955f3d54b3b529a50f294ba6c23fa71389066c7354db7162176fe33beb5dce", func := "loop.example/g00806/laws.FnExactDelayOk", spec := "fnExactDelayOk", unfollowed := true, recurses := true, apart := false }
def FnExactDelayOkSaid : Prop := fnExactDelayOkRow.holds Try.pinned (OpenSpec.ofChange fnExactDelayOkSpec)

/-- ITS FALSE NEIGHBOUR: 'it returns false'. Refute it at one input. -/
def fnExactDelayOkWrong : ChangeSpec := { name := "fnExactDelayOk", fn := fun _ => fun
  | [d1, d2] => { results := [.lit (.bool false)], args := [d1, d2] }
  | _ => none }
def FnExactDelayOkWrongFalsely : Prop := fnExactDelayOkRow.holds Try.pinned (OpenSpec.ofChange fnExactDelayOkWrong)

/-- 'laws.FnExactActivityRow': WHATEVER THE INPUT: true; the input reads as it did. -/
def fnExactActivityRowSpec : ChangeSpec := { name := "fnExactActivityRow", fn := fun _ => fun
  | [d1, d2, d3] => { results := [.lit (.bool true)], args := [d1, d2, d3] }
  | _ => none }
def fnExactActivityRowRow : OpenClaim := { program := "ytemeabdacejkpaa", sum := "53955f3d54b3b529a50f294ba6c23fa71389066c7354db7162176fe33beb5dce", func := "loop.example/g00806/laws.FnExactActivityRow", spec := "fnExactActivityRow", unfollowed := true, recurses := true, apart := false }
def FnExactActivityRowSaid : Prop := fnExactActivityRowRow.holds Try.pinned (OpenSpec.ofChange fnExactActivityRowSpec)

/-- ITS FALSE NEIGHBOUR: 'it returns false'. Refute it at one input. -/
def fnExactActivityRowWrong : ChangeSpec := { name := "fnExactActivityRow", fn := fun _ => fun
  | [d1, d2, d3] => { results := [.lit (.bool false)], args := [d1, d2, d3] }
  | _ => none }
def FnExactActivityRowWrongFalsely : Prop := fnExactActivityRowRow.holds Try.pinned (OpenSpec.ofChange fnExactActivityRowWrong)

/- THE SECOND FORM. 'bulk': how many values and letters a reading holds, each counted each time it is reached (what is shared counts as often as it is met; a slice's spare places count too). A statement '..UptoSaid' is the law's where the arguments, and the package variables that the reading takes, are together of bulk at most 1048576: NARROWER than '..Said'. Prove '..Said' where nothing that the law and all that it calls make is longer than what came in: it says more and counts as full. Else prove '..UptoSaid'. A law counts once. -/
mutual
def uptoBulk {H : Type} : DataW H → Nat
  | .lit (.string bytes) => bytes.length + 1
  | .lit _ => 1
  | .nil => 1
  | .ptr d => uptoBulk d + 1
  | .slice elems spare => uptoBulkAll elems + uptoBulkAll spare + 1
  | .agg parts => uptoBulkAll parts + 1
  | .iface _ d => uptoBulk d + 1
  | .map entries => uptoBulkEntries entries + 1
  | .held _ => 1
def uptoBulkAll {H : Type} : List (DataW H) → Nat
  | [] => 0
  | d :: r => uptoBulk d + uptoBulkAll r
def uptoBulkEntries {H : Type} : List (Lit × DataW H) → Nat
  | [] => 0
  | x :: r => uptoBulkEntry x + uptoBulkEntries r
def uptoBulkEntry {H : Type} : Lit × DataW H → Nat
  | (.string bytes, d) => bytes.length + uptoBulk d + 1
  | (_, d) => uptoBulk d + 1
 end
def uptoSmall : (H : Type) → List (DataW H) → Bool := fun _ ds => decide (uptoBulkAll ds ≤ 1048576)
def OpenSpec.upto (s : _root_.Go.ChangeSpec) : _root_.Go.OpenSpec := { _root_.Go.OpenSpec.ofChange s with cond := some uptoSmall }

/-- 'laws.FnResources', WHERE WHAT IT READS IS OF BULK AT MOST 1048576: true; the input reads as it did. -/
def fnResourcesUptoRow : OpenClaim := { program := "ytemeabdacejkpaa", sum := "53955f3d54b3b529a50f294ba6c23fa71389066c7354db7162176fe33beb5dce", func := "loop.example/g00806/laws.FnResources", spec := "fnResources", unfollowed := true, recurses := true, apart := false, narrowed := true }
def FnResourcesUptoSaid : Prop := fnResourcesUptoRow.holds Try.pinned (OpenSpec.upto fnResourcesSpec)

/-- 'laws.FnExactResultEqual', WHERE WHAT IT READS IS OF BULK AT MOST 1048576: true; the input reads as it did. -/
def fnExactResultEqualUptoRow : OpenClaim := { program := "ytemeabdacejkpaa", sum := "53955f3d54b3b529a50f294ba6c23fa71389066c7354db7162176fe33beb5dce", func := "loop.example/g00806/laws.FnExactResultEqual", spec := "fnExactResultEqual", apart := false, narrowed := true }
def FnExactResultEqualUptoSaid : Prop := fnExactResultEqualUptoRow.holds Try.pinned (OpenSpec.upto fnExactResultEqualSpec)

/-- 'laws.FnExactRestrict', WHERE WHAT IT READS IS OF BULK AT MOST 1048576: true; the input reads as it did. -/
def fnExactRestrictUptoRow : OpenClaim := { program := "ytemeabdacejkpaa", sum := "53955f3d54b3b529a50f294ba6c23fa71389066c7354db7162176fe33beb5dce", func := "loop.example/g00806/laws.FnExactRestrict", spec := "fnExactRestrict", unfollowed := true, recurses := true, apart := false, narrowed := true }
def FnExactRestrictUptoSaid : Prop := fnExactRestrictUptoRow.holds Try.pinned (OpenSpec.upto fnExactRestrictSpec)

/-- 'laws.FnSched', WHERE WHAT IT READS IS OF BULK AT MOST 1048576: true; the input reads as it did. -/
def fnSchedUptoRow : OpenClaim := { program := "ytemeabdacejkpaa", sum := "53955f3d54b3b529a50f294ba6c23fa71389066c7354db7162176fe33beb5dce", func := "loop.example/g00806/laws.FnSched", spec := "fnSched", unfollowed := true, recurses := true, apart := false, narrowed := true }
def FnSchedUptoSaid : Prop := fnSchedUptoRow.holds Try.pinned (OpenSpec.upto fnSchedSpec)

/-- 'laws.FnExactNewConsole', WHERE WHAT IT READS IS OF BULK AT MOST 1048576: true; the input reads as it did. -/
def fnExactNewConsoleUptoRow : OpenClaim := { program := "ytemeabdacejkpaa", sum := "53955f3d54b3b529a50f294ba6c23fa71389066c7354db7162176fe33beb5dce", func := "loop.example/g00806/laws.FnExactNewConsole", spec := "fnExactNewConsole", apart := false, narrowed := true }
def FnExactNewConsoleUptoSaid : Prop := fnExactNewConsoleUptoRow.holds Try.pinned (OpenSpec.upto fnExactNewConsoleSpec)

/-- 'laws.FnExactDelayOk', WHERE WHAT IT READS IS OF BULK AT MOST 1048576: true; the input reads as it did. -/
def fnExactDelayOkUptoRow : OpenClaim := { program := "ytemeabdacejkpaa", sum := "53955f3d54b3b529a50f294ba6c23fa71389066c7354db7162176fe33beb5dce", func := "loop.example/g00806/laws.FnExactDelayOk", spec := "fnExactDelayOk", unfollowed := true, recurses := true, apart := false, narrowed := true }
def FnExactDelayOkUptoSaid : Prop := fnExactDelayOkUptoRow.holds Try.pinned (OpenSpec.upto fnExactDelayOkSpec)

/-- 'laws.FnExactActivityRow', WHERE WHAT IT READS IS OF BULK AT MOST 1048576: true; the input reads as it did. -/
def fnExactActivityRowUptoRow : OpenClaim := { program := "ytemeabdacejkpaa", sum := "53955f3d54b3b529a50f294ba6c23fa71389066c7354db7162176fe33beb5dce", func := "loop.example/g00806/laws.FnExactActivityRow", spec := "fnExactActivityRow", unfollowed := true, recurses := true, apart := false, narrowed := true }
def FnExactActivityRowUptoSaid : Prop := fnExactActivityRowUptoRow.holds Try.pinned (OpenSpec.upto fnExactActivityRowSpec)

end Rows
end Go.Proofs.Ytemeabdacejkpaa
