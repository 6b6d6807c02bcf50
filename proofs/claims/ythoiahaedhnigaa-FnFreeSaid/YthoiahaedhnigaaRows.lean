/-
  No cell of these rows narrows 'for every input' (looked for: loops, veiled, ifaces, maps, wideKeys, modest, calm, conditions, laid).
  DERIVED. THE GIVEN ROWS OF THIS SEAT. 10 by the template 'for every input the law returns true; each argument reads behind the call as it read before'; 0 by the template 'total and deterministic' (their statements: YthoiahaedhnigaaTotals.lean).
  GIVEN WITH THE SEED: the statements are not yours to turn. If you find one false, say at which input.
  Laid BY PROGRAM, IN A SANDBOX (cutbox-rows.mjs): the forced cells as the released guide's own fill.sh prints them over the translation 41409db083b6c386… (all of the seat's roots in one cut). By AI agents, Wed Nov 11 2026. No macro, syntax, notation, axiom, sorry.
-/
import Derived.Test.YthoiahaedhnigaaChecked
import GoSem.Claim
import GoSem.ClaimJoined
import GoSem.ClaimMapViews
import Derived.JoinedTies
import Derived.KernelRfl
namespace Go.Proofs.Ythoiahaedhnigaa
/- THE CELL 'sum', in the pinned program and in every row, IS THE sha256 OF THE DUMP (.gsa) THAT YthoiahaedhnigaaProg.lean LOADS. Nothing in Lean hashes anything: it is a label: what it is worth is what the hold of that sum in a sandbox is worth. -/
noncomputable def Try.pinned : Pinned := { name := "ythoiahaedhnigaa", sum := "41409db083b6c38626f35f8246ad55ff212964bb1ede0332648560cc65d9b5d6", checked := Try.checked }
namespace Rows
def none {H : Type} : Left H := { results := [], args := [] }

/-- 'laws.FnBoth': WHATEVER THE INPUT: true; the input reads as it did. -/
def fnBothSpec : ChangeSpec := { name := "fnBoth", fn := fun _ => fun
  | [d] => { results := [.lit (.bool true)], args := [d] }
  | _ => none }
def fnBothRow : OpenClaim := { program := "ythoiahaedhnigaa", sum := "41409db083b6c38626f35f8246ad55ff212964bb1ede0332648560cc65d9b5d6", func := "loop.example/g00392/laws.FnBoth", spec := "fnBoth", recurses := true, apart := false }
def FnBothSaid : Prop := fnBothRow.holds Try.pinned (OpenSpec.ofChange fnBothSpec)

/-- ITS FALSE NEIGHBOUR: 'it returns false'. Refute it at one input. -/
def fnBothWrong : ChangeSpec := { name := "fnBoth", fn := fun _ => fun
  | [d] => { results := [.lit (.bool false)], args := [d] }
  | _ => none }
def FnBothWrongFalsely : Prop := fnBothRow.holds Try.pinned (OpenSpec.ofChange fnBothWrong)

/-- 'laws.FnExactPrepOk': WHATEVER THE INPUT: true; the input reads as it did. -/
def fnExactPrepOkSpec : ChangeSpec := { name := "fnExactPrepOk", fn := fun _ => fun
  | [d] => { results := [.lit (.bool true)], args := [d] }
  | _ => none }
def fnExactPrepOkRow : OpenClaim := { program := "ythoiahaedhnigaa", sum := "41409db083b6c38626f35f8246ad55ff212964bb1ede0332648560cc65d9b5d6", func := "loop.example/g00392/laws.FnExactPrepOk", spec := "fnExactPrepOk", unfollowed := true, recurses := true, apart := false }
def FnExactPrepOkSaid : Prop := fnExactPrepOkRow.holds Try.pinned (OpenSpec.ofChange fnExactPrepOkSpec)

/-- ITS FALSE NEIGHBOUR: 'it returns false'. Refute it at one input. -/
def fnExactPrepOkWrong : ChangeSpec := { name := "fnExactPrepOk", fn := fun _ => fun
  | [d] => { results := [.lit (.bool false)], args := [d] }
  | _ => none }
def FnExactPrepOkWrongFalsely : Prop := fnExactPrepOkRow.holds Try.pinned (OpenSpec.ofChange fnExactPrepOkWrong)

/-- 'laws.FnExactTextRec': WHATEVER THE INPUT: true; the input reads as it did. -/
def fnExactTextRecSpec : ChangeSpec := { name := "fnExactTextRec", fn := fun _ => fun
  | [d] => { results := [.lit (.bool true)], args := [d] }
  | _ => none }
def fnExactTextRecRow : OpenClaim := { program := "ythoiahaedhnigaa", sum := "41409db083b6c38626f35f8246ad55ff212964bb1ede0332648560cc65d9b5d6", func := "loop.example/g00392/laws.FnExactTextRec", spec := "fnExactTextRec", apart := false }
def FnExactTextRecSaid : Prop := fnExactTextRecRow.holds Try.pinned (OpenSpec.ofChange fnExactTextRecSpec)

/-- ITS FALSE NEIGHBOUR: 'it returns false'. Refute it at one input. -/
def fnExactTextRecWrong : ChangeSpec := { name := "fnExactTextRec", fn := fun _ => fun
  | [d] => { results := [.lit (.bool false)], args := [d] }
  | _ => none }
def FnExactTextRecWrongFalsely : Prop := fnExactTextRecRow.holds Try.pinned (OpenSpec.ofChange fnExactTextRecWrong)

/-- 'laws.FnExactLocksOk': WHATEVER THE INPUT: true; the input reads as it did. -/
def fnExactLocksOkSpec : ChangeSpec := { name := "fnExactLocksOk", fn := fun _ => fun
  | [d] => { results := [.lit (.bool true)], args := [d] }
  | _ => none }
def fnExactLocksOkRow : OpenClaim := { program := "ythoiahaedhnigaa", sum := "41409db083b6c38626f35f8246ad55ff212964bb1ede0332648560cc65d9b5d6", func := "loop.example/g00392/laws.FnExactLocksOk", spec := "fnExactLocksOk", unfollowed := true, recurses := true, apart := false }
def FnExactLocksOkSaid : Prop := fnExactLocksOkRow.holds Try.pinned (OpenSpec.ofChange fnExactLocksOkSpec)

/-- ITS FALSE NEIGHBOUR: 'it returns false'. Refute it at one input. -/
def fnExactLocksOkWrong : ChangeSpec := { name := "fnExactLocksOk", fn := fun _ => fun
  | [d] => { results := [.lit (.bool false)], args := [d] }
  | _ => none }
def FnExactLocksOkWrongFalsely : Prop := fnExactLocksOkRow.holds Try.pinned (OpenSpec.ofChange fnExactLocksOkWrong)

/-- 'laws.FnRoute': WHATEVER THE INPUT: true; the input reads as it did. -/
def fnRouteSpec : ChangeSpec := { name := "fnRoute", fn := fun _ => fun
  | [d] => { results := [.lit (.bool true)], args := [d] }
  | _ => none }
def fnRouteRow : OpenClaim := { program := "ythoiahaedhnigaa", sum := "41409db083b6c38626f35f8246ad55ff212964bb1ede0332648560cc65d9b5d6", func := "loop.example/g00392/laws.FnRoute", spec := "fnRoute", recurses := true, apart := false }
def FnRouteSaid : Prop := fnRouteRow.holds Try.pinned (OpenSpec.ofChange fnRouteSpec)

/-- ITS FALSE NEIGHBOUR: 'it returns false'. Refute it at one input. -/
def fnRouteWrong : ChangeSpec := { name := "fnRoute", fn := fun _ => fun
  | [d] => { results := [.lit (.bool false)], args := [d] }
  | _ => none }
def FnRouteWrongFalsely : Prop := fnRouteRow.holds Try.pinned (OpenSpec.ofChange fnRouteWrong)

/-- 'laws.FnExactLockHas': WHATEVER THE INPUT: true; the input reads as it did. -/
def fnExactLockHasSpec : ChangeSpec := { name := "fnExactLockHas", fn := fun _ => fun
  | [d1, d2, d3, d4] => { results := [.lit (.bool true)], args := [d1, d2, d3, d4] }
  | _ => none }
def fnExactLockHasRow : OpenClaim := { program := "ythoiahaedhnigaa", sum := "41409db083b6c38626f35f8246ad55ff212964bb1ede0332648560cc65d9b5d6", func := "loop.example/g00392/laws.FnExactLockHas", spec := "fnExactLockHas", unfollowed := true, recurses := true, apart := false }
def FnExactLockHasSaid : Prop := fnExactLockHasRow.holds Try.pinned (OpenSpec.ofChange fnExactLockHasSpec)

/-- ITS FALSE NEIGHBOUR: 'it returns false'. Refute it at one input. -/
def fnExactLockHasWrong : ChangeSpec := { name := "fnExactLockHas", fn := fun _ => fun
  | [d1, d2, d3, d4] => { results := [.lit (.bool false)], args := [d1, d2, d3, d4] }
  | _ => none }
def FnExactLockHasWrongFalsely : Prop := fnExactLockHasRow.holds Try.pinned (OpenSpec.ofChange fnExactLockHasWrong)

/-- 'laws.FnRec': WHATEVER THE INPUT: true; the input reads as it did. -/
def fnRecSpec : ChangeSpec := { name := "fnRec", fn := fun _ => fun
  | [d] => { results := [.lit (.bool true)], args := [d] }
  | _ => none }
def fnRecRow : OpenClaim := { program := "ythoiahaedhnigaa", sum := "41409db083b6c38626f35f8246ad55ff212964bb1ede0332648560cc65d9b5d6", func := "loop.example/g00392/laws.FnRec", spec := "fnRec", recurses := true, apart := false }
def FnRecSaid : Prop := fnRecRow.holds Try.pinned (OpenSpec.ofChange fnRecSpec)

/-- ITS FALSE NEIGHBOUR: 'it returns false'. Refute it at one input. -/
def fnRecWrong : ChangeSpec := { name := "fnRec", fn := fun _ => fun
  | [d] => { results := [.lit (.bool false)], args := [d] }
  | _ => none }
def FnRecWrongFalsely : Prop := fnRecRow.holds Try.pinned (OpenSpec.ofChange fnRecWrong)

/-- 'laws.FnExactMsgOk': WHATEVER THE INPUT: true; the input reads as it did. -/
def fnExactMsgOkSpec : ChangeSpec := { name := "fnExactMsgOk", fn := fun _ => fun
  | [d] => { results := [.lit (.bool true)], args := [d] }
  | _ => none }
def fnExactMsgOkRow : OpenClaim := { program := "ythoiahaedhnigaa", sum := "41409db083b6c38626f35f8246ad55ff212964bb1ede0332648560cc65d9b5d6", func := "loop.example/g00392/laws.FnExactMsgOk", spec := "fnExactMsgOk", unfollowed := true, recurses := true, apart := false }
def FnExactMsgOkSaid : Prop := fnExactMsgOkRow.holds Try.pinned (OpenSpec.ofChange fnExactMsgOkSpec)

/-- ITS FALSE NEIGHBOUR: 'it returns false'. Refute it at one input. -/
def fnExactMsgOkWrong : ChangeSpec := { name := "fnExactMsgOk", fn := fun _ => fun
  | [d] => { results := [.lit (.bool false)], args := [d] }
  | _ => none }
def FnExactMsgOkWrongFalsely : Prop := fnExactMsgOkRow.holds Try.pinned (OpenSpec.ofChange fnExactMsgOkWrong)

/-- 'laws.FnExactLockFree': WHATEVER THE INPUT: true; the input reads as it did. -/
def fnExactLockFreeSpec : ChangeSpec := { name := "fnExactLockFree", fn := fun _ => fun
  | [d1, d2] => { results := [.lit (.bool true)], args := [d1, d2] }
  | _ => none }
def fnExactLockFreeRow : OpenClaim := { program := "ythoiahaedhnigaa", sum := "41409db083b6c38626f35f8246ad55ff212964bb1ede0332648560cc65d9b5d6", func := "loop.example/g00392/laws.FnExactLockFree", spec := "fnExactLockFree", unfollowed := true, recurses := true, apart := false }
def FnExactLockFreeSaid : Prop := fnExactLockFreeRow.holds Try.pinned (OpenSpec.ofChange fnExactLockFreeSpec)

/-- ITS FALSE NEIGHBOUR: 'it returns false'. Refute it at one input. -/
def fnExactLockFreeWrong : ChangeSpec := { name := "fnExactLockFree", fn := fun _ => fun
  | [d1, d2] => { results := [.lit (.bool false)], args := [d1, d2] }
  | _ => none }
def FnExactLockFreeWrongFalsely : Prop := fnExactLockFreeRow.holds Try.pinned (OpenSpec.ofChange fnExactLockFreeWrong)

/-- 'laws.FnFree': WHATEVER THE INPUT: true; the input reads as it did. -/
def fnFreeSpec : ChangeSpec := { name := "fnFree", fn := fun _ => fun
  | [d] => { results := [.lit (.bool true)], args := [d] }
  | _ => none }
def fnFreeRow : OpenClaim := { program := "ythoiahaedhnigaa", sum := "41409db083b6c38626f35f8246ad55ff212964bb1ede0332648560cc65d9b5d6", func := "loop.example/g00392/laws.FnFree", spec := "fnFree", unfollowed := true, recurses := true, apart := false }
def FnFreeSaid : Prop := fnFreeRow.holds Try.pinned (OpenSpec.ofChange fnFreeSpec)

/-- ITS FALSE NEIGHBOUR: 'it returns false'. Refute it at one input. -/
def fnFreeWrong : ChangeSpec := { name := "fnFree", fn := fun _ => fun
  | [d] => { results := [.lit (.bool false)], args := [d] }
  | _ => none }
def FnFreeWrongFalsely : Prop := fnFreeRow.holds Try.pinned (OpenSpec.ofChange fnFreeWrong)

/- THE SECOND FORM. 'bulk': how many values and letters a reading holds, each counted each time it is reached (what is shared counts as often as it is met; a slice's spare places count too). A statement '..UptoSaid' is the law's where the arguments, and the package variables that the reading takes, are together of bulk at most 1048576: NARROWER than '..Said'. Prove '..Said' where nothing that the law and all that it calls make is longer than what came in: it says more and counts as full. Else prove '..UptoSaid'. A law counts once. -/
mutual
def uptoBulk {H : Type} : DataW H → Nat
  | .lit (.string bytes) => bytes.length + 1
  | .lit _ => 1
  | .nil => 1
  | .ptr d => uptoBulk d + 1
  | .slice elems spare => uptoBulkAll elems + uptoBulkAll spare + 1
  | .agg parts => uptoBulkAll parts + 1
  | .iface _ d => uptoBulk d + 1
  | .map entries => uptoBulkEntries entries + 1
  | .held _ => 1
def uptoBulkAll {H : Type} : List (DataW H) → Nat
  | [] => 0
  | d :: r => uptoBulk d + uptoBulkAll r
def uptoBulkEntries {H : Type} : List (Lit × DataW H) → Nat
  | [] => 0
  | x :: r => uptoBulkEntry x + uptoBulkEntries r
def uptoBulkEntry {H : Type} : Lit × DataW H → Nat
  | (.string bytes, d) => bytes.length + uptoBulk d + 1
  | (_, d) => uptoBulk d + 1
 end
def uptoSmall : (H : Type) → List (DataW H) → Bool := fun _ ds => decide (uptoBulkAll ds ≤ 1048576)
def OpenSpec.upto (s : _root_.Go.ChangeSpec) : _root_.Go.OpenSpec := { _root_.Go.OpenSpec.ofChange s with cond := some uptoSmall }

/-- 'laws.FnBoth', WHERE WHAT IT READS IS OF BULK AT MOST 1048576: true; the input reads as it did. -/
def fnBothUptoRow : OpenClaim := { program := "ythoiahaedhnigaa", sum := "41409db083b6c38626f35f8246ad55ff212964bb1ede0332648560cc65d9b5d6", func := "loop.example/g00392/laws.FnBoth", spec := "fnBoth", recurses := true, apart := false, narrowed := true }
def FnBothUptoSaid : Prop := fnBothUptoRow.holds Try.pinned (OpenSpec.upto fnBothSpec)

/-- 'laws.FnExactPrepOk', WHERE WHAT IT READS IS OF BULK AT MOST 1048576: true; the input reads as it did. -/
def fnExactPrepOkUptoRow : OpenClaim := { program := "ythoiahaedhnigaa", sum := "41409db083b6c38626f35f8246ad55ff212964bb1ede0332648560cc65d9b5d6", func := "loop.example/g00392/laws.FnExactPrepOk", spec := "fnExactPrepOk", unfollowed := true, recurses := true, apart := false, narrowed := true }
def FnExactPrepOkUptoSaid : Prop := fnExactPrepOkUptoRow.holds Try.pinned (OpenSpec.upto fnExactPrepOkSpec)

/-- 'laws.FnExactTextRec', WHERE WHAT IT READS IS OF BULK AT MOST 1048576: true; the input reads as it did. -/
def fnExactTextRecUptoRow : OpenClaim := { program := "ythoiahaedhnigaa", sum := "41409db083b6c38626f35f8246ad55ff212964bb1ede0332648560cc65d9b5d6", func := "loop.example/g00392/laws.FnExactTextRec", spec := "fnExactTextRec", apart := false, narrowed := true }
def FnExactTextRecUptoSaid : Prop := fnExactTextRecUptoRow.holds Try.pinned (OpenSpec.upto fnExactTextRecSpec)

/-- 'laws.FnExactLocksOk', WHERE WHAT IT READS IS OF BULK AT MOST 1048576: true; the input reads as it did. -/
def fnExactLocksOkUptoRow : OpenClaim := { program := "ythoiahaedhnigaa", sum := "41409db083b6c38626f35f8246ad55ff212964bb1ede0332648560cc65d9b5d6", func := "loop.example/g00392/laws.FnExactLocksOk", spec := "fnExactLocksOk", unfollowed := true, recurses := true, apart := false, narrowed := true }
def FnExactLocksOkUptoSaid : Prop := fnExactLocksOkUptoRow.holds Try.pinned (OpenSpec.upto fnExactLocksOkSpec)

/-- 'laws.FnRoute', WHERE WHAT IT READS IS OF BULK AT MOST 1048576: true; the input reads as it did. -/
def fnRouteUptoRow : OpenClaim := { program := "ythoiahaedhnigaa", sum := "41409db083b6c38626f35f8246ad55ff212964bb1ede0332648560cc65d9b5d6", func := "loop.example/g00392/laws.FnRoute", spec := "fnRoute", recurses := true, apart := false, narrowed := true }
def FnRouteUptoSaid : Prop := fnRouteUptoRow.holds Try.pinned (OpenSpec.upto fnRouteSpec)

/-- 'laws.FnExactLockHas', WHERE WHAT IT READS IS OF BULK AT MOST 1048576: true; the input reads as it did. -/
def fnExactLockHasUptoRow : OpenClaim := { program := "ythoiahaedhnigaa", sum := "41409db083b6c38626f35f8246ad55ff212964bb1ede0332648560cc65d9b5d6", func := "loop.example/g00392/laws.FnExactLockHas", spec := "fnExactLockHas", unfollowed := true, recurses := true, apart := false, narrowed := true }
def FnExactLockHasUptoSaid : Prop := fnExactLockHasUptoRow.holds Try.pinned (OpenSpec.upto fnExactLockHasSpec)

/-- 'laws.FnRec', WHERE WHAT IT READS IS OF BULK AT MOST 1048576: true; the input reads as it did. -/
def fnRecUptoRow : OpenClaim := { program := "ythoiahaedhnigaa", sum := "41409db083b6c38626f35f8246ad55ff212964bb1ede0332648560cc65d9b5d6", func := "loop.example/g00392/laws.FnRec", spec := "fnRec", recurses := true, apart := false, narrowed := true }
def FnRecUptoSaid : Prop := fnRecUptoRow.holds Try.pinned (OpenSpec.upto fnRecSpec)

/-- 'laws.FnExactMsgOk', WHERE WHAT IT READS IS OF BULK AT MOST 1048576: true; the input reads as it did. -/
def fnExactMsgOkUptoRow : OpenClaim := { program := "ythoiahaedhnigaa", sum := "41409db083b6c38626f35f8246ad55ff212964bb1ede0332648560cc65d9b5d6", func := "loop.example/g00392/laws.FnExactMsgOk", spec := "fnExactMsgOk", unfollowed := true, recurses := true, apart := false, narrowed := true }
def FnExactMsgOkUptoSaid : Prop := fnExactMsgOkUptoRow.holds Try.pinned (OpenSpec.upto fnExactMsgOkSpec)

/-- 'laws.FnExactLockFree', WHERE WHAT IT READS IS OF BULK AT MOST 1048576: true; the input reads as it did. -/
def fnExactLockFreeUptoRow : OpenClaim := { program := "ythoiahaedhnigaa", sum := "41409db083b6c38626f35f8246ad55ff212964bb1ede0332648560cc65d9b5d6", func := "loop.example/g00392/laws.FnExactLockFree", spec := "fnExactLockFree", unfollowed := true, recurses := true, apart := false, narrowed := true }
def FnExactLockFreeUptoSaid : Prop := fnExactLockFreeUptoRow.holds Try.pinned (OpenSpec.upto fnExactLockFreeSpec)

/-- 'laws.FnFree', WHERE WHAT IT READS IS OF BULK AT MOST 1048576: true; the input reads as it did. -/
def fnFreeUptoRow : OpenClaim := { program := "ythoiahaedhnigaa", sum := "41409db083b6c38626f35f8246ad55ff212964bb1ede0332648560cc65d9b5d6", func := "loop.example/g00392/laws.FnFree", spec := "fnFree", unfollowed := true, recurses := true, apart := false, narrowed := true }
def FnFreeUptoSaid : Prop := fnFreeUptoRow.holds Try.pinned (OpenSpec.upto fnFreeSpec)

end Rows
end Go.Proofs.Ythoiahaedhnigaa
