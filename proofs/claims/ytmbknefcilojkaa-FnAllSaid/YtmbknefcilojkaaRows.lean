/-
  No cell of these rows narrows 'for every input' (looked for: loops, veiled, ifaces, maps, wideKeys, modest, calm, conditions, laid).
  DERIVED. THE GIVEN ROWS OF THIS SEAT. 5 by the template 'for every input the law returns true; each argument reads behind the call as it read before'; 0 by the template 'total and deterministic' (their statements: YtmbknefcilojkaaTotals.lean).
  GIVEN WITH THE SEED: the statements are not yours to turn. If you find one false, say at which input.
  Laid BY PROGRAM, IN A SANDBOX (cutbox-rows.mjs): the forced cells as the released guide's own fill.sh prints them over the translation dba84ef85ac8b9a4… (all of the seat's roots in one cut). By AI agents, Wed Nov 11 2026. No macro, syntax, notation, axiom, sorry.
-/
import Derived.Test.YtmbknefcilojkaaChecked
import GoSem.Claim
import GoSem.ClaimJoined
import GoSem.ClaimMapViews
import Derived.JoinedTies
import Derived.KernelRfl
namespace Go.Proofs.Ytmbknefcilojkaa
/- THE CELL 'sum', in the pinned program and in every row, IS THE sha256 OF THE DUMP (.gsa) THAT YtmbknefcilojkaaProg.lean LOADS. Nothing in Lean hashes anything: it is a label: what it is worth is what the hold of that sum in a sandbox is worth. -/
noncomputable def Try.pinned : Pinned := { name := "ytmbknefcilojkaa", sum := "dba84ef85ac8b9a415918f7587f76a32c89616a00f9e6715215977a432bf6413", checked := Try.checked }
namespace Rows
def none {H : Type} : Left H := { results := [], args := [] }

/-- 'laws.FnResources': WHATEVER THE INPUT: true; the input reads as it did. -/
def fnResourcesSpec : ChangeSpec := { name := "fnResources", fn := fun _ => fun
  | [d] => { results := [.lit (.bool true)], args := [d] }
  | _ => none }
def fnResourcesRow : OpenClaim := { program := "ytmbknefcilojkaa", sum := "dba84ef85ac8b9a415918f7587f76a32c89616a00f9e6715215977a432bf6413", func := "loop.example/g00806/laws.FnResources", spec := "fnResources", unfollowed := true, recurses := true, apart := false }
def FnResourcesSaid : Prop := fnResourcesRow.holds Try.pinned (OpenSpec.ofChange fnResourcesSpec)

/-- ITS FALSE NEIGHBOUR: 'it returns false'. Refute it at one input. -/
def fnResourcesWrong : ChangeSpec := { name := "fnResources", fn := fun _ => fun
  | [d] => { results := [.lit (.bool false)], args := [d] }
  | _ => none }
def FnResourcesWrongFalsely : Prop := fnResourcesRow.holds Try.pinned (OpenSpec.ofChange fnResourcesWrong)

/-- 'laws.FnSched': WHATEVER THE INPUT: true; the input reads as it did. -/
def fnSchedSpec : ChangeSpec := { name := "fnSched", fn := fun _ => fun
  | [d] => { results := [.lit (.bool true)], args := [d] }
  | _ => none }
def fnSchedRow : OpenClaim := { program := "ytmbknefcilojkaa", sum := "dba84ef85ac8b9a415918f7587f76a32c89616a00f9e6715215977a432bf6413", func := "loop.example/g00806/laws.FnSched", spec := "fnSched", unfollowed := true, recurses := true, apart := false }
def FnSchedSaid : Prop := fnSchedRow.holds Try.pinned (OpenSpec.ofChange fnSchedSpec)

/-- ITS FALSE NEIGHBOUR: 'it returns false'. Refute it at one input. -/
def fnSchedWrong : ChangeSpec := { name := "fnSched", fn := fun _ => fun
  | [d] => { results := [.lit (.bool false)], args := [d] }
  | _ => none }
def FnSchedWrongFalsely : Prop := fnSchedRow.holds Try.pinned (OpenSpec.ofChange fnSchedWrong)

/-- 'laws.FnBoxes': WHATEVER THE INPUT: true; the input reads as it did. -/
def fnBoxesSpec : ChangeSpec := { name := "fnBoxes", fn := fun _ => fun
  | [d] => { results := [.lit (.bool true)], args := [d] }
  | _ => none }
def fnBoxesRow : OpenClaim := { program := "ytmbknefcilojkaa", sum := "dba84ef85ac8b9a415918f7587f76a32c89616a00f9e6715215977a432bf6413", func := "loop.example/g00806/laws.FnBoxes", spec := "fnBoxes", unfollowed := true, recurses := true, apart := false }
def FnBoxesSaid : Prop := fnBoxesRow.holds Try.pinned (OpenSpec.ofChange fnBoxesSpec)

/-- ITS FALSE NEIGHBOUR: 'it returns false'. Refute it at one input. -/
def fnBoxesWrong : ChangeSpec := { name := "fnBoxes", fn := fun _ => fun
  | [d] => { results := [.lit (.bool false)], args := [d] }
  | _ => none }
def FnBoxesWrongFalsely : Prop := fnBoxesRow.holds Try.pinned (OpenSpec.ofChange fnBoxesWrong)

/-- 'laws.FnPicks': WHATEVER THE INPUT: true; the input reads as it did. -/
def fnPicksSpec : ChangeSpec := { name := "fnPicks", fn := fun _ => fun
  | [d] => { results := [.lit (.bool true)], args := [d] }
  | _ => none }
def fnPicksRow : OpenClaim := { program := "ytmbknefcilojkaa", sum := "dba84ef85ac8b9a415918f7587f76a32c89616a00f9e6715215977a432bf6413", func := "loop.example/g00806/laws.FnPicks", spec := "fnPicks", unfollowed := true, recurses := true, apart := false }
def FnPicksSaid : Prop := fnPicksRow.holds Try.pinned (OpenSpec.ofChange fnPicksSpec)

/-- ITS FALSE NEIGHBOUR: 'it returns false'. Refute it at one input. -/
def fnPicksWrong : ChangeSpec := { name := "fnPicks", fn := fun _ => fun
  | [d] => { results := [.lit (.bool false)], args := [d] }
  | _ => none }
def FnPicksWrongFalsely : Prop := fnPicksRow.holds Try.pinned (OpenSpec.ofChange fnPicksWrong)

/-- 'laws.FnAll': WHATEVER THE INPUT: true; the input reads as it did. -/
def fnAllSpec : ChangeSpec := { name := "fnAll", fn := fun _ => fun
  | [d] => { results := [.lit (.bool true)], args := [d] }
  | _ => none }
def fnAllRow : OpenClaim := { program := "ytmbknefcilojkaa", sum := "dba84ef85ac8b9a415918f7587f76a32c89616a00f9e6715215977a432bf6413", func := "loop.example/g00806/laws.FnAll", spec := "fnAll", unfollowed := true, recurses := true, apart := false }
def FnAllSaid : Prop := fnAllRow.holds Try.pinned (OpenSpec.ofChange fnAllSpec)

/-- ITS FALSE NEIGHBOUR: 'it returns false'. Refute it at one input. -/
def fnAllWrong : ChangeSpec := { name := "fnAll", fn := fun _ => fun
  | [d] => { results := [.lit (.bool false)], args := [d] }
  | _ => none }
def FnAllWrongFalsely : Prop := fnAllRow.holds Try.pinned (OpenSpec.ofChange fnAllWrong)

/- THE SECOND FORM. 'bulk': how many values and letters a reading holds, each counted each time it is reached (what is shared counts as often as it is met; a slice's spare places count too). A statement '..UptoSaid' is the law's where the arguments, and the package variables that the reading takes, are together of bulk at most 1048576: NARROWER than '..Said'. Prove '..Said' where nothing that the law and all that it calls make is longer than what came in: it says more and counts as full. Else prove '..UptoSaid'. A law counts once. -/
mutual
def uptoBulk {H : Type} : DataW H → Nat
  | .lit (.string bytes) => bytes.length + 1
  | .lit _ => 1
  | .nil => 1
  | .ptr d => uptoBulk d + 1
  | .slice elems spare => uptoBulkAll elems + uptoBulkAll spare + 1
  | .agg parts => uptoBulkAll parts + 1
  | .iface _ d => uptoBulk d + 1
  | .map entries => uptoBulkEntries entries + 1
  | .held _ => 1
def uptoBulkAll {H : Type} : List (DataW H) → Nat
  | [] => 0
  | d :: r => uptoBulk d + uptoBulkAll r
def uptoBulkEntries {H : Type} : List (Lit × DataW H) → Nat
  | [] => 0
  | x :: r => uptoBulkEntry x + uptoBulkEntries r
def uptoBulkEntry {H : Type} : Lit × DataW H → Nat
  | (.string bytes, d) => bytes.length + uptoBulk d + 1
  | (_, d) => uptoBulk d + 1
 end
def uptoSmall : (H : Type) → List (DataW H) → Bool := fun _ ds => decide (uptoBulkAll ds ≤ 1048576)
def OpenSpec.upto (s : _root_.Go.ChangeSpec) : _root_.Go.OpenSpec := { _root_.Go.OpenSpec.ofChange s with cond := some uptoSmall }

/-- 'laws.FnResources', WHERE WHAT IT READS IS OF BULK AT MOST 1048576: true; the input reads as it did. -/
def fnResourcesUptoRow : OpenClaim := { program := "ytmbknefcilojkaa", sum := "dba84ef85ac8b9a415918f7587f76a32c89616a00f9e6715215977a432bf6413", func := "loop.example/g00806/laws.FnResources", spec := "fnResources", unfollowed := true, recurses := true, apart := false, narrowed := true }
def FnResourcesUptoSaid : Prop := fnResourcesUptoRow.holds Try.pinned (OpenSpec.upto fnResourcesSpec)

/-- 'laws.FnSched', WHERE WHAT IT READS IS OF BULK AT MOST 1048576: true; the input reads as it did. -/
def fnSchedUptoRow : OpenClaim := { program := "ytmbknefcilojkaa", sum := "dba84ef85ac8b9a415918f7587f76a32c89616a00f9e6715215977a432bf6413", func := "loop.example/g00806/laws.FnSched", spec := "fnSched", unfollowed := true, recurses := true, apart := false, narrowed := true }
def FnSchedUptoSaid : Prop := fnSchedUptoRow.holds Try.pinned (OpenSpec.upto fnSchedSpec)

/-- 'laws.FnBoxes', WHERE WHAT IT READS IS OF BULK AT MOST 1048576: true; the input reads as it did. -/
def fnBoxesUptoRow : OpenClaim := { program := "ytmbknefcilojkaa", sum := "dba84ef85ac8b9a415918f7587f76a32c89616a00f9e6715215977a432bf6413", func := "loop.example/g00806/laws.FnBoxes", spec := "fnBoxes", unfollowed := true, recurses := true, apart := false, narrowed := true }
def FnBoxesUptoSaid : Prop := fnBoxesUptoRow.holds Try.pinned (OpenSpec.upto fnBoxesSpec)

/-- 'laws.FnPicks', WHERE WHAT IT READS IS OF BULK AT MOST 1048576: true; the input reads as it did. -/
def fnPicksUptoRow : OpenClaim := { program := "ytmbknefcilojkaa", sum := "dba84ef85ac8b9a415918f7587f76a32c89616a00f9e6715215977a432bf6413", func := "loop.example/g00806/laws.FnPicks", spec := "fnPicks", unfollowed := true, recurses := true, apart := false, narrowed := true }
def FnPicksUptoSaid : Prop := fnPicksUptoRow.holds Try.pinned (OpenSpec.upto fnPicksSpec)

/-- 'laws.FnAll', WHERE WHAT IT READS IS OF BULK AT MOST 1048576: true; the input reads as it did. -/
def fnAllUptoRow : OpenClaim := { program := "ytmbknefcilojkaa", sum := "dba84ef85ac8b9a415918f7587f76a32c89616a00f9e6715215977a432bf6413", func := "loop.example/g00806/laws.FnAll", spec := "fnAll", unfollowed := true, recurses := true, apart := false, narrowed := true }
def FnAllUptoSaid : Prop := fnAllUptoRow.holds Try.pinned (OpenSpec.upto fnAllSpec)

end Rows
end Go.Proofs.Ytmbknefcilojkaa
