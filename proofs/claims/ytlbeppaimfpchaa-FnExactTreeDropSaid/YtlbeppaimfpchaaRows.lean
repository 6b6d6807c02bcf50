/-
  No cell of these rows narrows 'for every input' (looked for: loops, veiled, ifaces, maps, wideKeys, modest, calm, conditions, laid).
  DERIVED. THE GIVEN ROWS OF THIS SEAT. 12 by the template 'for every input the law returns true; each argument reads behind the call as it read before'; 0 by the template 'total and deterministic' (their statements: YtlbeppaimfpchaaTotals.lean).
  GIVEN WITH THE SEED: the statements are not yours to turn. If you find one false, say at which input.
  Laid BY PROGRAM, IN A SANDBOX (cutbox-rows.mjs): the forced cells as the released guide's own fill.sh prints them over the translation 7d2a5f201e978acb… (all of the seat's roots in one cut). By AI agents, Wed Nov 11 2026. No macro, syntax, notation, axiom, sorry.
-/
import Derived.Test.YtlbeppaimfpchaaChecked
import GoSem.Claim
import GoSem.ClaimJoined
import GoSem.ClaimMapViews
import Derived.JoinedTies
import Derived.KernelRfl
namespace Go.Proofs.Ytlbeppaimfpchaa
/- THE CELL 'sum', in the pinned program and in every row, IS THE sha256 OF THE DUMP (.gsa) THAT YtlbeppaimfpchaaProg.lean LOADS. Nothing in Lean hashes anything: it is a label: what it is worth is what the hold of that sum in a sandbox is worth. -/
noncomputable def Try.pinned : Pinned := { name := "ytlbeppaimfpchaa", sum := "7d2a5f201e978acbdabd3b1fed3c3adad5ec19522069a1b4c2d0263d94948f1b", checked := Try.checked }
namespace Rows
def none {H : Type} : Left H := { results := [], args := [] }

/-- 'laws.FnExactPrepEdits': WHATEVER THE INPUT: true; the input reads as it did. -/
def fnExactPrepEditsSpec : ChangeSpec := { name := "fnExactPrepEdits", fn := fun _ => fun
  | [d] => { results := [.lit (.bool true)], args := [d] }
  | _ => none }
def fnExactPrepEditsRow : OpenClaim := { program := "ytlbeppaimfpchaa", sum := "7d2a5f201e978acbdabd3b1fed3c3adad5ec19522069a1b4c2d0263d94948f1b", func := "loop.example/g00392/laws.FnExactPrepEdits", spec := "fnExactPrepEdits", unfollowed := true, recurses := true, apart := false }
def FnExactPrepEditsSaid : Prop := fnExactPrepEditsRow.holds Try.pinned (OpenSpec.ofChange fnExactPrepEditsSpec)

/-- ITS FALSE NEIGHBOUR: 'it returns false'. Refute it at one input. -/
def fnExactPrepEditsWrong : ChangeSpec := { name := "fnExactPrepEdits", fn := fun _ => fun
  | [d] => { results := [.lit (.bool false)], args := [d] }
  | _ => none }
def FnExactPrepEditsWrongFalsely : Prop := fnExactPrepEditsRow.holds Try.pinned (OpenSpec.ofChange fnExactPrepEditsWrong)

/-- 'laws.FnExactMsgBytes': WHATEVER THE INPUT: true; the input reads as it did. -/
def fnExactMsgBytesSpec : ChangeSpec := { name := "fnExactMsgBytes", fn := fun _ => fun
  | [d] => { results := [.lit (.bool true)], args := [d] }
  | _ => none }
def fnExactMsgBytesRow : OpenClaim := { program := "ytlbeppaimfpchaa", sum := "7d2a5f201e978acbdabd3b1fed3c3adad5ec19522069a1b4c2d0263d94948f1b", func := "loop.example/g00392/laws.FnExactMsgBytes", spec := "fnExactMsgBytes", unfollowed := true, recurses := true, apart := false }
def FnExactMsgBytesSaid : Prop := fnExactMsgBytesRow.holds Try.pinned (OpenSpec.ofChange fnExactMsgBytesSpec)

/-- ITS FALSE NEIGHBOUR: 'it returns false'. Refute it at one input. -/
def fnExactMsgBytesWrong : ChangeSpec := { name := "fnExactMsgBytes", fn := fun _ => fun
  | [d] => { results := [.lit (.bool false)], args := [d] }
  | _ => none }
def FnExactMsgBytesWrongFalsely : Prop := fnExactMsgBytesRow.holds Try.pinned (OpenSpec.ofChange fnExactMsgBytesWrong)

/-- 'laws.FnExactMsgRead': WHATEVER THE INPUT: true; the input reads as it did. -/
def fnExactMsgReadSpec : ChangeSpec := { name := "fnExactMsgRead", fn := fun _ => fun
  | [d] => { results := [.lit (.bool true)], args := [d] }
  | _ => none }
def fnExactMsgReadRow : OpenClaim := { program := "ytlbeppaimfpchaa", sum := "7d2a5f201e978acbdabd3b1fed3c3adad5ec19522069a1b4c2d0263d94948f1b", func := "loop.example/g00392/laws.FnExactMsgRead", spec := "fnExactMsgRead", unfollowed := true, recurses := true, apart := false }
def FnExactMsgReadSaid : Prop := fnExactMsgReadRow.holds Try.pinned (OpenSpec.ofChange fnExactMsgReadSpec)

/-- ITS FALSE NEIGHBOUR: 'it returns false'. Refute it at one input. -/
def fnExactMsgReadWrong : ChangeSpec := { name := "fnExactMsgRead", fn := fun _ => fun
  | [d] => { results := [.lit (.bool false)], args := [d] }
  | _ => none }
def FnExactMsgReadWrongFalsely : Prop := fnExactMsgReadRow.holds Try.pinned (OpenSpec.ofChange fnExactMsgReadWrong)

/-- 'laws.FnMsg': WHATEVER THE INPUT: true; the input reads as it did. -/
def fnMsgSpec : ChangeSpec := { name := "fnMsg", fn := fun _ => fun
  | [d] => { results := [.lit (.bool true)], args := [d] }
  | _ => none }
def fnMsgRow : OpenClaim := { program := "ytlbeppaimfpchaa", sum := "7d2a5f201e978acbdabd3b1fed3c3adad5ec19522069a1b4c2d0263d94948f1b", func := "loop.example/g00392/laws.FnMsg", spec := "fnMsg", unfollowed := true, recurses := true, apart := false }
def FnMsgSaid : Prop := fnMsgRow.holds Try.pinned (OpenSpec.ofChange fnMsgSpec)

/-- ITS FALSE NEIGHBOUR: 'it returns false'. Refute it at one input. -/
def fnMsgWrong : ChangeSpec := { name := "fnMsg", fn := fun _ => fun
  | [d] => { results := [.lit (.bool false)], args := [d] }
  | _ => none }
def FnMsgWrongFalsely : Prop := fnMsgRow.holds Try.pinned (OpenSpec.ofChange fnMsgWrong)

/-- 'laws.FnExactTreeScan': WHATEVER THE INPUT: true; the input reads as it did. -/
def fnExactTreeScanSpec : ChangeSpec := { name := "fnExactTreeScan", fn := fun _ => fun
  | [d1, d2, d3, d4] => { results := [.lit (.bool true)], args := [d1, d2, d3, d4] }
  | _ => none }
def fnExactTreeScanRow : OpenClaim := { program := "ytlbeppaimfpchaa", sum := "7d2a5f201e978acbdabd3b1fed3c3adad5ec19522069a1b4c2d0263d94948f1b", func := "loop.example/g00392/laws.FnExactTreeScan", spec := "fnExactTreeScan", recurses := true, apart := false }
def FnExactTreeScanSaid : Prop := fnExactTreeScanRow.holds Try.pinned (OpenSpec.ofChange fnExactTreeScanSpec)

/-- ITS FALSE NEIGHBOUR: 'it returns false'. Refute it at one input. -/
def fnExactTreeScanWrong : ChangeSpec := { name := "fnExactTreeScan", fn := fun _ => fun
  | [d1, d2, d3, d4] => { results := [.lit (.bool false)], args := [d1, d2, d3, d4] }
  | _ => none }
def FnExactTreeScanWrongFalsely : Prop := fnExactTreeScanRow.holds Try.pinned (OpenSpec.ofChange fnExactTreeScanWrong)

/-- 'laws.FnScan': WHATEVER THE INPUT: true; the input reads as it did. -/
def fnScanSpec : ChangeSpec := { name := "fnScan", fn := fun _ => fun
  | [d] => { results := [.lit (.bool true)], args := [d] }
  | _ => none }
def fnScanRow : OpenClaim := { program := "ytlbeppaimfpchaa", sum := "7d2a5f201e978acbdabd3b1fed3c3adad5ec19522069a1b4c2d0263d94948f1b", func := "loop.example/g00392/laws.FnScan", spec := "fnScan", recurses := true, apart := false }
def FnScanSaid : Prop := fnScanRow.holds Try.pinned (OpenSpec.ofChange fnScanSpec)

/-- ITS FALSE NEIGHBOUR: 'it returns false'. Refute it at one input. -/
def fnScanWrong : ChangeSpec := { name := "fnScan", fn := fun _ => fun
  | [d] => { results := [.lit (.bool false)], args := [d] }
  | _ => none }
def FnScanWrongFalsely : Prop := fnScanRow.holds Try.pinned (OpenSpec.ofChange fnScanWrong)

/-- 'laws.FnEmpty': WHATEVER THE INPUT: true; the input reads as it did. -/
def fnEmptySpec : ChangeSpec := { name := "fnEmpty", fn := fun _ => fun
  | [d] => { results := [.lit (.bool true)], args := [d] }
  | _ => none }
def fnEmptyRow : OpenClaim := { program := "ytlbeppaimfpchaa", sum := "7d2a5f201e978acbdabd3b1fed3c3adad5ec19522069a1b4c2d0263d94948f1b", func := "loop.example/g00392/laws.FnEmpty", spec := "fnEmpty", unfollowed := true, recurses := true, apart := false }
def FnEmptySaid : Prop := fnEmptyRow.holds Try.pinned (OpenSpec.ofChange fnEmptySpec)

/-- ITS FALSE NEIGHBOUR: 'it returns false'. Refute it at one input. -/
def fnEmptyWrong : ChangeSpec := { name := "fnEmpty", fn := fun _ => fun
  | [d] => { results := [.lit (.bool false)], args := [d] }
  | _ => none }
def FnEmptyWrongFalsely : Prop := fnEmptyRow.holds Try.pinned (OpenSpec.ofChange fnEmptyWrong)

/-- 'laws.FnOf': WHATEVER THE INPUT: true; the input reads as it did. -/
def fnOfSpec : ChangeSpec := { name := "fnOf", fn := fun _ => fun
  | [d] => { results := [.lit (.bool true)], args := [d] }
  | _ => none }
def fnOfRow : OpenClaim := { program := "ytlbeppaimfpchaa", sum := "7d2a5f201e978acbdabd3b1fed3c3adad5ec19522069a1b4c2d0263d94948f1b", func := "loop.example/g00392/laws.FnOf", spec := "fnOf", inPlace := ["slices.overlaps[*loop.example/g00392/impl.twig]", "slices.overlaps[loop.example/g00392/impl.Pair]"], recurses := true, apart := false }
def FnOfSaid : Prop := fnOfRow.holds Try.pinned (OpenSpec.ofChange fnOfSpec)

/-- ITS FALSE NEIGHBOUR: 'it returns false'. Refute it at one input. -/
def fnOfWrong : ChangeSpec := { name := "fnOf", fn := fun _ => fun
  | [d] => { results := [.lit (.bool false)], args := [d] }
  | _ => none }
def FnOfWrongFalsely : Prop := fnOfRow.holds Try.pinned (OpenSpec.ofChange fnOfWrong)

/-- 'laws.FnDrop': WHATEVER THE INPUT: true; the input reads as it did. -/
def fnDropSpec : ChangeSpec := { name := "fnDrop", fn := fun _ => fun
  | [d] => { results := [.lit (.bool true)], args := [d] }
  | _ => none }
def fnDropRow : OpenClaim := { program := "ytlbeppaimfpchaa", sum := "7d2a5f201e978acbdabd3b1fed3c3adad5ec19522069a1b4c2d0263d94948f1b", func := "loop.example/g00392/laws.FnDrop", spec := "fnDrop", unfollowed := true, recurses := true, apart := false }
def FnDropSaid : Prop := fnDropRow.holds Try.pinned (OpenSpec.ofChange fnDropSpec)

/-- ITS FALSE NEIGHBOUR: 'it returns false'. Refute it at one input. -/
def fnDropWrong : ChangeSpec := { name := "fnDrop", fn := fun _ => fun
  | [d] => { results := [.lit (.bool false)], args := [d] }
  | _ => none }
def FnDropWrongFalsely : Prop := fnDropRow.holds Try.pinned (OpenSpec.ofChange fnDropWrong)

/-- 'laws.FnExactTreeOf': WHATEVER THE INPUT: true; the input reads as it did. -/
def fnExactTreeOfSpec : ChangeSpec := { name := "fnExactTreeOf", fn := fun _ => fun
  | [d] => { results := [.lit (.bool true)], args := [d] }
  | _ => none }
def fnExactTreeOfRow : OpenClaim := { program := "ytlbeppaimfpchaa", sum := "7d2a5f201e978acbdabd3b1fed3c3adad5ec19522069a1b4c2d0263d94948f1b", func := "loop.example/g00392/laws.FnExactTreeOf", spec := "fnExactTreeOf", inPlace := ["slices.overlaps[*loop.example/g00392/impl.twig]", "slices.overlaps[loop.example/g00392/impl.Pair]"], recurses := true, apart := false }
def FnExactTreeOfSaid : Prop := fnExactTreeOfRow.holds Try.pinned (OpenSpec.ofChange fnExactTreeOfSpec)

/-- ITS FALSE NEIGHBOUR: 'it returns false'. Refute it at one input. -/
def fnExactTreeOfWrong : ChangeSpec := { name := "fnExactTreeOf", fn := fun _ => fun
  | [d] => { results := [.lit (.bool false)], args := [d] }
  | _ => none }
def FnExactTreeOfWrongFalsely : Prop := fnExactTreeOfRow.holds Try.pinned (OpenSpec.ofChange fnExactTreeOfWrong)

/-- 'laws.FnExactTreeDrop': WHATEVER THE INPUT: true; the input reads as it did. -/
def fnExactTreeDropSpec : ChangeSpec := { name := "fnExactTreeDrop", fn := fun _ => fun
  | [d1, d2] => { results := [.lit (.bool true)], args := [d1, d2] }
  | _ => none }
def fnExactTreeDropRow : OpenClaim := { program := "ytlbeppaimfpchaa", sum := "7d2a5f201e978acbdabd3b1fed3c3adad5ec19522069a1b4c2d0263d94948f1b", func := "loop.example/g00392/laws.FnExactTreeDrop", spec := "fnExactTreeDrop", unfollowed := true, recurses := true, apart := false }
def FnExactTreeDropSaid : Prop := fnExactTreeDropRow.holds Try.pinned (OpenSpec.ofChange fnExactTreeDropSpec)

/-- ITS FALSE NEIGHBOUR: 'it returns false'. Refute it at one input. -/
def fnExactTreeDropWrong : ChangeSpec := { name := "fnExactTreeDrop", fn := fun _ => fun
  | [d1, d2] => { results := [.lit (.bool false)], args := [d1, d2] }
  | _ => none }
def FnExactTreeDropWrongFalsely : Prop := fnExactTreeDropRow.holds Try.pinned (OpenSpec.ofChange fnExactTreeDropWrong)

/-- 'laws.FnTree': WHATEVER THE INPUT: true; the input reads as it did. -/
def fnTreeSpec : ChangeSpec := { name := "fnTree", fn := fun _ => fun
  | [d] => { results := [.lit (.bool true)], args := [d] }
  | _ => none }
def fnTreeRow : OpenClaim := { program := "ytlbeppaimfpchaa", sum := "7d2a5f201e978acbdabd3b1fed3c3adad5ec19522069a1b4c2d0263d94948f1b", func := "loop.example/g00392/laws.FnTree", spec := "fnTree", inPlace := ["slices.overlaps[*loop.example/g00392/impl.twig]", "slices.overlaps[loop.example/g00392/impl.Pair]"], recurses := true, apart := false }
def FnTreeSaid : Prop := fnTreeRow.holds Try.pinned (OpenSpec.ofChange fnTreeSpec)

/-- ITS FALSE NEIGHBOUR: 'it returns false'. Refute it at one input. -/
def fnTreeWrong : ChangeSpec := { name := "fnTree", fn := fun _ => fun
  | [d] => { results := [.lit (.bool false)], args := [d] }
  | _ => none }
def FnTreeWrongFalsely : Prop := fnTreeRow.holds Try.pinned (OpenSpec.ofChange fnTreeWrong)

/- THE SECOND FORM. 'bulk': how many values and letters a reading holds, each counted each time it is reached (what is shared counts as often as it is met; a slice's spare places count too). A statement '..UptoSaid' is the law's where the arguments, and the package variables that the reading takes, are together of bulk at most 1048576: NARROWER than '..Said'. Prove '..Said' where nothing that the law and all that it calls make is longer than what came in: it says more and counts as full. Else prove '..UptoSaid'. A law counts once. -/
mutual
def uptoBulk {H : Type} : DataW H → Nat
  | .lit (.string bytes) => bytes.length + 1
  | .lit _ => 1
  | .nil => 1
  | .ptr d => uptoBulk d + 1
  | .slice elems spare => uptoBulkAll elems + uptoBulkAll spare + 1
  | .agg parts => uptoBulkAll parts + 1
  | .iface _ d => uptoBulk d + 1
  | .map entries => uptoBulkEntries entries + 1
  | .held _ => 1
def uptoBulkAll {H : Type} : List (DataW H) → Nat
  | [] => 0
  | d :: r => uptoBulk d + uptoBulkAll r
def uptoBulkEntries {H : Type} : List (Lit × DataW H) → Nat
  | [] => 0
  | x :: r => uptoBulkEntry x + uptoBulkEntries r
def uptoBulkEntry {H : Type} : Lit × DataW H → Nat
  | (.string bytes, d) => bytes.length + uptoBulk d + 1
  | (_, d) => uptoBulk d + 1
 end
def uptoSmall : (H : Type) → List (DataW H) → Bool := fun _ ds => decide (uptoBulkAll ds ≤ 1048576)
def OpenSpec.upto (s : _root_.Go.ChangeSpec) : _root_.Go.OpenSpec := { _root_.Go.OpenSpec.ofChange s with cond := some uptoSmall }

/-- 'laws.FnExactPrepEdits', WHERE WHAT IT READS IS OF BULK AT MOST 1048576: true; the input reads as it did. -/
def fnExactPrepEditsUptoRow : OpenClaim := { program := "ytlbeppaimfpchaa", sum := "7d2a5f201e978acbdabd3b1fed3c3adad5ec19522069a1b4c2d0263d94948f1b", func := "loop.example/g00392/laws.FnExactPrepEdits", spec := "fnExactPrepEdits", unfollowed := true, recurses := true, apart := false, narrowed := true }
def FnExactPrepEditsUptoSaid : Prop := fnExactPrepEditsUptoRow.holds Try.pinned (OpenSpec.upto fnExactPrepEditsSpec)

/-- 'laws.FnExactMsgBytes', WHERE WHAT IT READS IS OF BULK AT MOST 1048576: true; the input reads as it did. -/
def fnExactMsgBytesUptoRow : OpenClaim := { program := "ytlbeppaimfpchaa", sum := "7d2a5f201e978acbdabd3b1fed3c3adad5ec19522069a1b4c2d0263d94948f1b", func := "loop.example/g00392/laws.FnExactMsgBytes", spec := "fnExactMsgBytes", unfollowed := true, recurses := true, apart := false, narrowed := true }
def FnExactMsgBytesUptoSaid : Prop := fnExactMsgBytesUptoRow.holds Try.pinned (OpenSpec.upto fnExactMsgBytesSpec)

/-- 'laws.FnExactMsgRead', WHERE WHAT IT READS IS OF BULK AT MOST 1048576: true; the input reads as it did. -/
def fnExactMsgReadUptoRow : OpenClaim := { program := "ytlbeppaimfpchaa", sum := "7d2a5f201e978acbdabd3b1fed3c3adad5ec19522069a1b4c2d0263d94948f1b", func := "loop.example/g00392/laws.FnExactMsgRead", spec := "fnExactMsgRead", unfollowed := true, recurses := true, apart := false, narrowed := true }
def FnExactMsgReadUptoSaid : Prop := fnExactMsgReadUptoRow.holds Try.pinned (OpenSpec.upto fnExactMsgReadSpec)

/-- 'laws.FnMsg', WHERE WHAT IT READS IS OF BULK AT MOST 1048576: true; the input reads as it did. -/
def fnMsgUptoRow : OpenClaim := { program := "ytlbeppaimfpchaa", sum := "7d2a5f201e978acbdabd3b1fed3c3adad5ec19522069a1b4c2d0263d94948f1b", func := "loop.example/g00392/laws.FnMsg", spec := "fnMsg", unfollowed := true, recurses := true, apart := false, narrowed := true }
def FnMsgUptoSaid : Prop := fnMsgUptoRow.holds Try.pinned (OpenSpec.upto fnMsgSpec)

/-- 'laws.FnExactTreeScan', WHERE WHAT IT READS IS OF BULK AT MOST 1048576: true; the input reads as it did. -/
def fnExactTreeScanUptoRow : OpenClaim := { program := "ytlbeppaimfpchaa", sum := "7d2a5f201e978acbdabd3b1fed3c3adad5ec19522069a1b4c2d0263d94948f1b", func := "loop.example/g00392/laws.FnExactTreeScan", spec := "fnExactTreeScan", recurses := true, apart := false, narrowed := true }
def FnExactTreeScanUptoSaid : Prop := fnExactTreeScanUptoRow.holds Try.pinned (OpenSpec.upto fnExactTreeScanSpec)

/-- 'laws.FnScan', WHERE WHAT IT READS IS OF BULK AT MOST 1048576: true; the input reads as it did. -/
def fnScanUptoRow : OpenClaim := { program := "ytlbeppaimfpchaa", sum := "7d2a5f201e978acbdabd3b1fed3c3adad5ec19522069a1b4c2d0263d94948f1b", func := "loop.example/g00392/laws.FnScan", spec := "fnScan", recurses := true, apart := false, narrowed := true }
def FnScanUptoSaid : Prop := fnScanUptoRow.holds Try.pinned (OpenSpec.upto fnScanSpec)

/-- 'laws.FnEmpty', WHERE WHAT IT READS IS OF BULK AT MOST 1048576: true; the input reads as it did. -/
def fnEmptyUptoRow : OpenClaim := { program := "ytlbeppaimfpchaa", sum := "7d2a5f201e978acbdabd3b1fed3c3adad5ec19522069a1b4c2d0263d94948f1b", func := "loop.example/g00392/laws.FnEmpty", spec := "fnEmpty", unfollowed := true, recurses := true, apart := false, narrowed := true }
def FnEmptyUptoSaid : Prop := fnEmptyUptoRow.holds Try.pinned (OpenSpec.upto fnEmptySpec)

/-- 'laws.FnOf', WHERE WHAT IT READS IS OF BULK AT MOST 1048576: true; the input reads as it did. -/
def fnOfUptoRow : OpenClaim := { program := "ytlbeppaimfpchaa", sum := "7d2a5f201e978acbdabd3b1fed3c3adad5ec19522069a1b4c2d0263d94948f1b", func := "loop.example/g00392/laws.FnOf", spec := "fnOf", inPlace := ["slices.overlaps[*loop.example/g00392/impl.twig]", "slices.overlaps[loop.example/g00392/impl.Pair]"], recurses := true, apart := false, narrowed := true }
def FnOfUptoSaid : Prop := fnOfUptoRow.holds Try.pinned (OpenSpec.upto fnOfSpec)

/-- 'laws.FnDrop', WHERE WHAT IT READS IS OF BULK AT MOST 1048576: true; the input reads as it did. -/
def fnDropUptoRow : OpenClaim := { program := "ytlbeppaimfpchaa", sum := "7d2a5f201e978acbdabd3b1fed3c3adad5ec19522069a1b4c2d0263d94948f1b", func := "loop.example/g00392/laws.FnDrop", spec := "fnDrop", unfollowed := true, recurses := true, apart := false, narrowed := true }
def FnDropUptoSaid : Prop := fnDropUptoRow.holds Try.pinned (OpenSpec.upto fnDropSpec)

/-- 'laws.FnExactTreeOf', WHERE WHAT IT READS IS OF BULK AT MOST 1048576: true; the input reads as it did. -/
def fnExactTreeOfUptoRow : OpenClaim := { program := "ytlbeppaimfpchaa", sum := "7d2a5f201e978acbdabd3b1fed3c3adad5ec19522069a1b4c2d0263d94948f1b", func := "loop.example/g00392/laws.FnExactTreeOf", spec := "fnExactTreeOf", inPlace := ["slices.overlaps[*loop.example/g00392/impl.twig]", "slices.overlaps[loop.example/g00392/impl.Pair]"], recurses := true, apart := false, narrowed := true }
def FnExactTreeOfUptoSaid : Prop := fnExactTreeOfUptoRow.holds Try.pinned (OpenSpec.upto fnExactTreeOfSpec)

/-- 'laws.FnExactTreeDrop', WHERE WHAT IT READS IS OF BULK AT MOST 1048576: true; the input reads as it did. -/
def fnExactTreeDropUptoRow : OpenClaim := { program := "ytlbeppaimfpchaa", sum := "7d2a5f201e978acbdabd3b1fed3c3adad5ec19522069a1b4c2d0263d94948f1b", func := "loop.example/g00392/laws.FnExactTreeDrop", spec := "fnExactTreeDrop", unfollowed := true, recurses := true, apart := false, narrowed := true }
def FnExactTreeDropUptoSaid : Prop := fnExactTreeDropUptoRow.holds Try.pinned (OpenSpec.upto fnExactTreeDropSpec)

/-- 'laws.FnTree', WHERE WHAT IT READS IS OF BULK AT MOST 1048576: true; the input reads as it did. -/
def fnTreeUptoRow : OpenClaim := { program := "ytlbeppaimfpchaa", sum := "7d2a5f201e978acbdabd3b1fed3c3adad5ec19522069a1b4c2d0263d94948f1b", func := "loop.example/g00392/laws.FnTree", spec := "fnTree", inPlace := ["slices.overlaps[*loop.example/g00392/impl.twig]", "slices.overlaps[loop.example/g00392/impl.Pair]"], recurses := true, apart := false, narrowed := true }
def FnTreeUptoSaid : Prop := fnTreeUptoRow.holds Try.pinned (OpenSpec.upto fnTreeSpec)

end Rows
end Go.Proofs.Ytlbeppaimfpchaa
