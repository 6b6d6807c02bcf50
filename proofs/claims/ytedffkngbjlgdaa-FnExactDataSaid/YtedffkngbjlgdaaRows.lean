/-
  No cell of these rows narrows 'for every input' (looked for: loops, veiled, ifaces, maps, wideKeys, modest, calm, conditions, laid).
  DERIVED. THE GIVEN ROWS OF THIS SEAT. 3 by the template 'for every input the law returns true; each argument reads behind the call as it read before'; 0 by the template 'total and deterministic' (their statements: YtedffkngbjlgdaaTotals.lean).
  GIVEN WITH THE SEED: the statements are not yours to turn. If you find one false, say at which input.
  Laid BY PROGRAM, IN A SANDBOX (cutbox-rows.mjs): the forced cells as the released guide's own fill.sh prints them over the translation 457bdc0c05aafe3c… (all of the seat's roots in one cut). By AI agents, Wed Nov 11 2026. No macro, syntax, notation, axiom, sorry.
-/
import Derived.Test.YtedffkngbjlgdaaChecked
import GoSem.Claim
import GoSem.ClaimJoined
import GoSem.ClaimMapViews
import Derived.JoinedTies
import Derived.KernelRfl
namespace Go.Proofs.Ytedffkngbjlgdaa
/- THE CELL 'sum', in the pinned program and in every row, IS THE sha256 OF THE DUMP (.gsa) THAT YtedffkngbjlgdaaProg.lean LOADS. Nothing in Lean hashes anything: it is a label: what it is worth is what the hold of that sum in a sandbox is worth. -/
noncomputable def Try.pinned : Pinned := { name := "ytedffkngbjlgdaa", sum := "457bdc0c05aafe3c06d2148b8e5b2d8adf0a7bbfee4a62d7217c815b94fa950a", checked := Try.checked }
namespace Rows
def none {H : Type} : Left H := { results := [], args := [] }

/-- 'laws.FnExactTreePut': WHATEVER THE INPUT: true; the input reads as it did. -/
def fnExactTreePutSpec : ChangeSpec := { name := "fnExactTreePut", fn := fun _ => fun
  | [d1, d2, d3] => { results := [.lit (.bool true)], args := [d1, d2, d3] }
  | _ => none }
def fnExactTreePutRow : OpenClaim := { program := "ytedffkngbjlgdaa", sum := "457bdc0c05aafe3c06d2148b8e5b2d8adf0a7bbfee4a62d7217c815b94fa950a", func := "loop.example/g00392/laws.FnExactTreePut", spec := "fnExactTreePut", inPlace := ["slices.overlaps[*loop.example/g00392/impl.twig]", "slices.overlaps[loop.example/g00392/impl.Pair]"], recurses := true, apart := false }
def FnExactTreePutSaid : Prop := fnExactTreePutRow.holds Try.pinned (OpenSpec.ofChange fnExactTreePutSpec)

/-- ITS FALSE NEIGHBOUR: 'it returns false'. Refute it at one input. -/
def fnExactTreePutWrong : ChangeSpec := { name := "fnExactTreePut", fn := fun _ => fun
  | [d1, d2, d3] => { results := [.lit (.bool false)], args := [d1, d2, d3] }
  | _ => none }
def FnExactTreePutWrongFalsely : Prop := fnExactTreePutRow.holds Try.pinned (OpenSpec.ofChange fnExactTreePutWrong)

/-- 'laws.FnExactData': WHATEVER THE INPUT: true; the input reads as it did. -/
def fnExactDataSpec : ChangeSpec := { name := "fnExactData", fn := fun _ => fun
  | [d1, d2] => { results := [.lit (.bool true)], args := [d1, d2] }
  | _ => none }
def fnExactDataRow : OpenClaim := { program := "ytedffkngbjlgdaa", sum := "457bdc0c05aafe3c06d2148b8e5b2d8adf0a7bbfee4a62d7217c815b94fa950a", func := "loop.example/g00392/laws.FnExactData", spec := "fnExactData", inPlace := ["slices.overlaps[loop.example/g00392/impl.Pair]"], unfollowed := true, recurses := true, apart := false }
def FnExactDataSaid : Prop := fnExactDataRow.holds Try.pinned (OpenSpec.ofChange fnExactDataSpec)

/-- ITS FALSE NEIGHBOUR: 'it returns false'. Refute it at one input. -/
def fnExactDataWrong : ChangeSpec := { name := "fnExactData", fn := fun _ => fun
  | [d1, d2] => { results := [.lit (.bool false)], args := [d1, d2] }
  | _ => none }
def FnExactDataWrongFalsely : Prop := fnExactDataRow.holds Try.pinned (OpenSpec.ofChange fnExactDataWrong)

/-- 'laws.FnExactTreeEdit': WHATEVER THE INPUT: true; the input reads as it did. -/
def fnExactTreeEditSpec : ChangeSpec := { name := "fnExactTreeEdit", fn := fun _ => fun
  | [d1, d2] => { results := [.lit (.bool true)], args := [d1, d2] }
  | _ => none }
def fnExactTreeEditRow : OpenClaim := { program := "ytedffkngbjlgdaa", sum := "457bdc0c05aafe3c06d2148b8e5b2d8adf0a7bbfee4a62d7217c815b94fa950a", func := "loop.example/g00392/laws.FnExactTreeEdit", spec := "fnExactTreeEdit", inPlace := ["slices.overlaps[*loop.example/g00392/impl.twig]", "slices.overlaps[loop.example/g00392/impl.Pair]"], unfollowed := true, recurses := true, apart := false }
def FnExactTreeEditSaid : Prop := fnExactTreeEditRow.holds Try.pinned (OpenSpec.ofChange fnExactTreeEditSpec)

/-- ITS FALSE NEIGHBOUR: 'it returns false'. Refute it at one input. -/
def fnExactTreeEditWrong : ChangeSpec := { name := "fnExactTreeEdit", fn := fun _ => fun
  | [d1, d2] => { results := [.lit (.bool false)], args := [d1, d2] }
  | _ => none }
def FnExactTreeEditWrongFalsely : Prop := fnExactTreeEditRow.holds Try.pinned (OpenSpec.ofChange fnExactTreeEditWrong)

/- THE SECOND FORM. 'bulk': how many values and letters a reading holds, each counted each time it is reached (what is shared counts as often as it is met; a slice's spare places count too). A statement '..UptoSaid' is the law's where the arguments, and the package variables that the reading takes, are together of bulk at most 1048576: NARROWER than '..Said'. Prove '..Said' where nothing that the law and all that it calls make is longer than what came in: it says more and counts as full. Else prove '..UptoSaid'. A law counts once. -/
mutual
def uptoBulk {H : Type} : DataW H → Nat
  | .lit (.string bytes) => bytes.length + 1
  | .lit _ => 1
  | .nil => 1
  | .ptr d => uptoBulk d + 1
  | .slice elems spare => uptoBulkAll elems + uptoBulkAll spare + 1
  | .agg parts => uptoBulkAll parts + 1
  | .iface _ d => uptoBulk d + 1
  | .map entries => uptoBulkEntries entries + 1
  | .held _ => 1
def uptoBulkAll {H : Type} : List (DataW H) → Nat
  | [] => 0
  | d :: r => uptoBulk d + uptoBulkAll r
def uptoBulkEntries {H : Type} : List (Lit × DataW H) → Nat
  | [] => 0
  | x :: r => uptoBulkEntry x + uptoBulkEntries r
def uptoBulkEntry {H : Type} : Lit × DataW H → Nat
  | (.string bytes, d) => bytes.length + uptoBulk d + 1
  | (_, d) => uptoBulk d + 1
 end
def uptoSmall : (H : Type) → List (DataW H) → Bool := fun _ ds => decide (uptoBulkAll ds ≤ 1048576)
def OpenSpec.upto (s : _root_.Go.ChangeSpec) : _root_.Go.OpenSpec := { _root_.Go.OpenSpec.ofChange s with cond := some uptoSmall }

/-- 'laws.FnExactTreePut', WHERE WHAT IT READS IS OF BULK AT MOST 1048576: true; the input reads as it did. -/
def fnExactTreePutUptoRow : OpenClaim := { program := "ytedffkngbjlgdaa", sum := "457bdc0c05aafe3c06d2148b8e5b2d8adf0a7bbfee4a62d7217c815b94fa950a", func := "loop.example/g00392/laws.FnExactTreePut", spec := "fnExactTreePut", inPlace := ["slices.overlaps[*loop.example/g00392/impl.twig]", "slices.overlaps[loop.example/g00392/impl.Pair]"], recurses := true, apart := false, narrowed := true }
def FnExactTreePutUptoSaid : Prop := fnExactTreePutUptoRow.holds Try.pinned (OpenSpec.upto fnExactTreePutSpec)

/-- 'laws.FnExactData', WHERE WHAT IT READS IS OF BULK AT MOST 1048576: true; the input reads as it did. -/
def fnExactDataUptoRow : OpenClaim := { program := "ytedffkngbjlgdaa", sum := "457bdc0c05aafe3c06d2148b8e5b2d8adf0a7bbfee4a62d7217c815b94fa950a", func := "loop.example/g00392/laws.FnExactData", spec := "fnExactData", inPlace := ["slices.overlaps[loop.example/g00392/impl.Pair]"], unfollowed := true, recurses := true, apart := false, narrowed := true }
def FnExactDataUptoSaid : Prop := fnExactDataUptoRow.holds Try.pinned (OpenSpec.upto fnExactDataSpec)

/-- 'laws.FnExactTreeEdit', WHERE WHAT IT READS IS OF BULK AT MOST 1048576: true; the input reads as it did. -/
def fnExactTreeEditUptoRow : OpenClaim := { program := "ytedffkngbjlgdaa", sum := "457bdc0c05aafe3c06d2148b8e5b2d8adf0a7bbfee4a62d7217c815b94fa950a", func := "loop.example/g00392/laws.FnExactTreeEdit", spec := "fnExactTreeEdit", inPlace := ["slices.overlaps[*loop.example/g00392/impl.twig]", "slices.overlaps[loop.example/g00392/impl.Pair]"], unfollowed := true, recurses := true, apart := false, narrowed := true }
def FnExactTreeEditUptoSaid : Prop := fnExactTreeEditUptoRow.holds Try.pinned (OpenSpec.upto fnExactTreeEditSpec)

end Rows
end Go.Proofs.Ytedffkngbjlgdaa
