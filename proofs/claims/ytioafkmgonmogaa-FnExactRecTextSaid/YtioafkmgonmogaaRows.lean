/-
  No cell of these rows narrows 'for every input' (looked for: loops, veiled, ifaces, maps, wideKeys, modest, calm, conditions, laid).
  DERIVED. THE GIVEN ROWS OF THIS SEAT. 12 by the template 'for every input the law returns true; each argument reads behind the call as it read before'; 0 by the template 'total and deterministic' (their statements: YtioafkmgonmogaaTotals.lean).
  GIVEN WITH THE SEED: the statements are not yours to turn. If you find one false, say at which input.
  Laid BY PROGRAM, IN A SANDBOX (cutbox-rows.mjs): the forced cells as the released guide's own fill.sh prints them over the translation ba58b711ce52f95d… (all of the seat's roots in one cut). By AI agents, Wed Nov 11 2026. No macro, syntax, notation, axiom, sorry.
-/
import Derived.Test.YtioafkmgonmogaaChecked
import GoSem.Claim
import GoSem.ClaimJoined
import GoSem.ClaimMapViews
import Derived.JoinedTies
import Derived.KernelRfl
namespace Go.Proofs.Ytioafkmgonmogaa
/- THE CELL 'sum', in the pinned program and in every row, IS THE sha256 OF THE DUMP (.gsa) THAT YtioafkmgonmogaaProg.lean LOADS. Nothing in Lean hashes anything: it is a label: what it is worth is what the hold of that sum in a sandbox is worth. -/
noncomputable def Try.pinned : Pinned := { name := "ytioafkmgonmogaa", sum := "ba58b711ce52f95d8567785b87fbf9ca6282b0eb5bb55ea00e4c102d921a5766", checked := Try.checked }
namespace Rows
def none {H : Type} : Left H := { results := [], args := [] }

/-- 'laws.FnExactUvalOk': WHATEVER THE INPUT: true; the input reads as it did. -/
def fnExactUvalOkSpec : ChangeSpec := { name := "fnExactUvalOk", fn := fun _ => fun
  | [d] => { results := [.lit (.bool true)], args := [d] }
  | _ => none }
def fnExactUvalOkRow : OpenClaim := { program := "ytioafkmgonmogaa", sum := "ba58b711ce52f95d8567785b87fbf9ca6282b0eb5bb55ea00e4c102d921a5766", func := "loop.example/g00392/laws.FnExactUvalOk", spec := "fnExactUvalOk", apart := false }
def FnExactUvalOkSaid : Prop := fnExactUvalOkRow.holds Try.pinned (OpenSpec.ofChange fnExactUvalOkSpec)

/-- ITS FALSE NEIGHBOUR: 'it returns false'. Refute it at one input. -/
def fnExactUvalOkWrong : ChangeSpec := { name := "fnExactUvalOk", fn := fun _ => fun
  | [d] => { results := [.lit (.bool false)], args := [d] }
  | _ => none }
def FnExactUvalOkWrongFalsely : Prop := fnExactUvalOkRow.holds Try.pinned (OpenSpec.ofChange fnExactUvalOkWrong)

/-- 'laws.FnExactUserOk': WHATEVER THE INPUT: true; the input reads as it did. -/
def fnExactUserOkSpec : ChangeSpec := { name := "fnExactUserOk", fn := fun _ => fun
  | [d] => { results := [.lit (.bool true)], args := [d] }
  | _ => none }
def fnExactUserOkRow : OpenClaim := { program := "ytioafkmgonmogaa", sum := "ba58b711ce52f95d8567785b87fbf9ca6282b0eb5bb55ea00e4c102d921a5766", func := "loop.example/g00392/laws.FnExactUserOk", spec := "fnExactUserOk", apart := false }
def FnExactUserOkSaid : Prop := fnExactUserOkRow.holds Try.pinned (OpenSpec.ofChange fnExactUserOkSpec)

/-- ITS FALSE NEIGHBOUR: 'it returns false'. Refute it at one input. -/
def fnExactUserOkWrong : ChangeSpec := { name := "fnExactUserOk", fn := fun _ => fun
  | [d] => { results := [.lit (.bool false)], args := [d] }
  | _ => none }
def FnExactUserOkWrongFalsely : Prop := fnExactUserOkRow.holds Try.pinned (OpenSpec.ofChange fnExactUserOkWrong)

/-- 'laws.FnExactTxOk': WHATEVER THE INPUT: true; the input reads as it did. -/
def fnExactTxOkSpec : ChangeSpec := { name := "fnExactTxOk", fn := fun _ => fun
  | [d] => { results := [.lit (.bool true)], args := [d] }
  | _ => none }
def fnExactTxOkRow : OpenClaim := { program := "ytioafkmgonmogaa", sum := "ba58b711ce52f95d8567785b87fbf9ca6282b0eb5bb55ea00e4c102d921a5766", func := "loop.example/g00392/laws.FnExactTxOk", spec := "fnExactTxOk", apart := false }
def FnExactTxOkSaid : Prop := fnExactTxOkRow.holds Try.pinned (OpenSpec.ofChange fnExactTxOkSpec)

/-- ITS FALSE NEIGHBOUR: 'it returns false'. Refute it at one input. -/
def fnExactTxOkWrong : ChangeSpec := { name := "fnExactTxOk", fn := fun _ => fun
  | [d] => { results := [.lit (.bool false)], args := [d] }
  | _ => none }
def FnExactTxOkWrongFalsely : Prop := fnExactTxOkRow.holds Try.pinned (OpenSpec.ofChange fnExactTxOkWrong)

/-- 'laws.FnExactTxAfter': WHATEVER THE INPUT: true; the input reads as it did. -/
def fnExactTxAfterSpec : ChangeSpec := { name := "fnExactTxAfter", fn := fun _ => fun
  | [d1, d2] => { results := [.lit (.bool true)], args := [d1, d2] }
  | _ => none }
def fnExactTxAfterRow : OpenClaim := { program := "ytioafkmgonmogaa", sum := "ba58b711ce52f95d8567785b87fbf9ca6282b0eb5bb55ea00e4c102d921a5766", func := "loop.example/g00392/laws.FnExactTxAfter", spec := "fnExactTxAfter", apart := false }
def FnExactTxAfterSaid : Prop := fnExactTxAfterRow.holds Try.pinned (OpenSpec.ofChange fnExactTxAfterSpec)

/-- ITS FALSE NEIGHBOUR: 'it returns false'. Refute it at one input. -/
def fnExactTxAfterWrong : ChangeSpec := { name := "fnExactTxAfter", fn := fun _ => fun
  | [d1, d2] => { results := [.lit (.bool false)], args := [d1, d2] }
  | _ => none }
def FnExactTxAfterWrongFalsely : Prop := fnExactTxAfterRow.holds Try.pinned (OpenSpec.ofChange fnExactTxAfterWrong)

/-- 'laws.FnExactReachOk': WHATEVER THE INPUT: true; the input reads as it did. -/
def fnExactReachOkSpec : ChangeSpec := { name := "fnExactReachOk", fn := fun _ => fun
  | [d] => { results := [.lit (.bool true)], args := [d] }
  | _ => none }
def fnExactReachOkRow : OpenClaim := { program := "ytioafkmgonmogaa", sum := "ba58b711ce52f95d8567785b87fbf9ca6282b0eb5bb55ea00e4c102d921a5766", func := "loop.example/g00392/laws.FnExactReachOk", spec := "fnExactReachOk", apart := false }
def FnExactReachOkSaid : Prop := fnExactReachOkRow.holds Try.pinned (OpenSpec.ofChange fnExactReachOkSpec)

/-- ITS FALSE NEIGHBOUR: 'it returns false'. Refute it at one input. -/
def fnExactReachOkWrong : ChangeSpec := { name := "fnExactReachOk", fn := fun _ => fun
  | [d] => { results := [.lit (.bool false)], args := [d] }
  | _ => none }
def FnExactReachOkWrongFalsely : Prop := fnExactReachOkRow.holds Try.pinned (OpenSpec.ofChange fnExactReachOkWrong)

/-- 'laws.FnExactRangeHas': WHATEVER THE INPUT: true; the input reads as it did. -/
def fnExactRangeHasSpec : ChangeSpec := { name := "fnExactRangeHas", fn := fun _ => fun
  | [d1, d2] => { results := [.lit (.bool true)], args := [d1, d2] }
  | _ => none }
def fnExactRangeHasRow : OpenClaim := { program := "ytioafkmgonmogaa", sum := "ba58b711ce52f95d8567785b87fbf9ca6282b0eb5bb55ea00e4c102d921a5766", func := "loop.example/g00392/laws.FnExactRangeHas", spec := "fnExactRangeHas", apart := false }
def FnExactRangeHasSaid : Prop := fnExactRangeHasRow.holds Try.pinned (OpenSpec.ofChange fnExactRangeHasSpec)

/-- ITS FALSE NEIGHBOUR: 'it returns false'. Refute it at one input. -/
def fnExactRangeHasWrong : ChangeSpec := { name := "fnExactRangeHas", fn := fun _ => fun
  | [d1, d2] => { results := [.lit (.bool false)], args := [d1, d2] }
  | _ => none }
def FnExactRangeHasWrongFalsely : Prop := fnExactRangeHasRow.holds Try.pinned (OpenSpec.ofChange fnExactRangeHasWrong)

/-- 'laws.FnExactTxText': WHATEVER THE INPUT: true; the input reads as it did. -/
def fnExactTxTextSpec : ChangeSpec := { name := "fnExactTxText", fn := fun _ => fun
  | [d] => { results := [.lit (.bool true)], args := [d] }
  | _ => none }
def fnExactTxTextRow : OpenClaim := { program := "ytioafkmgonmogaa", sum := "ba58b711ce52f95d8567785b87fbf9ca6282b0eb5bb55ea00e4c102d921a5766", func := "loop.example/g00392/laws.FnExactTxText", spec := "fnExactTxText", recurses := true, apart := false }
def FnExactTxTextSaid : Prop := fnExactTxTextRow.holds Try.pinned (OpenSpec.ofChange fnExactTxTextSpec)

/-- ITS FALSE NEIGHBOUR: 'it returns false'. Refute it at one input. -/
def fnExactTxTextWrong : ChangeSpec := { name := "fnExactTxText", fn := fun _ => fun
  | [d] => { results := [.lit (.bool false)], args := [d] }
  | _ => none }
def FnExactTxTextWrongFalsely : Prop := fnExactTxTextRow.holds Try.pinned (OpenSpec.ofChange fnExactTxTextWrong)

/-- 'laws.FnExactAskOk': WHATEVER THE INPUT: true; the input reads as it did. -/
def fnExactAskOkSpec : ChangeSpec := { name := "fnExactAskOk", fn := fun _ => fun
  | [d] => { results := [.lit (.bool true)], args := [d] }
  | _ => none }
def fnExactAskOkRow : OpenClaim := { program := "ytioafkmgonmogaa", sum := "ba58b711ce52f95d8567785b87fbf9ca6282b0eb5bb55ea00e4c102d921a5766", func := "loop.example/g00392/laws.FnExactAskOk", spec := "fnExactAskOk", apart := false }
def FnExactAskOkSaid : Prop := fnExactAskOkRow.holds Try.pinned (OpenSpec.ofChange fnExactAskOkSpec)

/-- ITS FALSE NEIGHBOUR: 'it returns false'. Refute it at one input. -/
def fnExactAskOkWrong : ChangeSpec := { name := "fnExactAskOk", fn := fun _ => fun
  | [d] => { results := [.lit (.bool false)], args := [d] }
  | _ => none }
def FnExactAskOkWrongFalsely : Prop := fnExactAskOkRow.holds Try.pinned (OpenSpec.ofChange fnExactAskOkWrong)

/-- 'laws.FnExactRecOk': WHATEVER THE INPUT: true; the input reads as it did. -/
def fnExactRecOkSpec : ChangeSpec := { name := "fnExactRecOk", fn := fun _ => fun
  | [d] => { results := [.lit (.bool true)], args := [d] }
  | _ => none }
def fnExactRecOkRow : OpenClaim := { program := "ytioafkmgonmogaa", sum := "ba58b711ce52f95d8567785b87fbf9ca6282b0eb5bb55ea00e4c102d921a5766", func := "loop.example/g00392/laws.FnExactRecOk", spec := "fnExactRecOk", apart := false }
def FnExactRecOkSaid : Prop := fnExactRecOkRow.holds Try.pinned (OpenSpec.ofChange fnExactRecOkSpec)

/-- ITS FALSE NEIGHBOUR: 'it returns false'. Refute it at one input. -/
def fnExactRecOkWrong : ChangeSpec := { name := "fnExactRecOk", fn := fun _ => fun
  | [d] => { results := [.lit (.bool false)], args := [d] }
  | _ => none }
def FnExactRecOkWrongFalsely : Prop := fnExactRecOkRow.holds Try.pinned (OpenSpec.ofChange fnExactRecOkWrong)

/-- 'laws.FnExactCallOk': WHATEVER THE INPUT: true; the input reads as it did. -/
def fnExactCallOkSpec : ChangeSpec := { name := "fnExactCallOk", fn := fun _ => fun
  | [d] => { results := [.lit (.bool true)], args := [d] }
  | _ => none }
def fnExactCallOkRow : OpenClaim := { program := "ytioafkmgonmogaa", sum := "ba58b711ce52f95d8567785b87fbf9ca6282b0eb5bb55ea00e4c102d921a5766", func := "loop.example/g00392/laws.FnExactCallOk", spec := "fnExactCallOk", apart := false }
def FnExactCallOkSaid : Prop := fnExactCallOkRow.holds Try.pinned (OpenSpec.ofChange fnExactCallOkSpec)

/-- ITS FALSE NEIGHBOUR: 'it returns false'. Refute it at one input. -/
def fnExactCallOkWrong : ChangeSpec := { name := "fnExactCallOk", fn := fun _ => fun
  | [d] => { results := [.lit (.bool false)], args := [d] }
  | _ => none }
def FnExactCallOkWrongFalsely : Prop := fnExactCallOkRow.holds Try.pinned (OpenSpec.ofChange fnExactCallOkWrong)

/-- 'laws.FnExactAskLock': WHATEVER THE INPUT: true; the input reads as it did. -/
def fnExactAskLockSpec : ChangeSpec := { name := "fnExactAskLock", fn := fun _ => fun
  | [d] => { results := [.lit (.bool true)], args := [d] }
  | _ => none }
def fnExactAskLockRow : OpenClaim := { program := "ytioafkmgonmogaa", sum := "ba58b711ce52f95d8567785b87fbf9ca6282b0eb5bb55ea00e4c102d921a5766", func := "loop.example/g00392/laws.FnExactAskLock", spec := "fnExactAskLock", apart := false }
def FnExactAskLockSaid : Prop := fnExactAskLockRow.holds Try.pinned (OpenSpec.ofChange fnExactAskLockSpec)

/-- ITS FALSE NEIGHBOUR: 'it returns false'. Refute it at one input. -/
def fnExactAskLockWrong : ChangeSpec := { name := "fnExactAskLock", fn := fun _ => fun
  | [d] => { results := [.lit (.bool false)], args := [d] }
  | _ => none }
def FnExactAskLockWrongFalsely : Prop := fnExactAskLockRow.holds Try.pinned (OpenSpec.ofChange fnExactAskLockWrong)

/-- 'laws.FnExactRecText': WHATEVER THE INPUT: true; the input reads as it did. -/
def fnExactRecTextSpec : ChangeSpec := { name := "fnExactRecText", fn := fun _ => fun
  | [d] => { results := [.lit (.bool true)], args := [d] }
  | _ => none }
def fnExactRecTextRow : OpenClaim := { program := "ytioafkmgonmogaa", sum := "ba58b711ce52f95d8567785b87fbf9ca6282b0eb5bb55ea00e4c102d921a5766", func := "loop.example/g00392/laws.FnExactRecText", spec := "fnExactRecText", apart := false }
def FnExactRecTextSaid : Prop := fnExactRecTextRow.holds Try.pinned (OpenSpec.ofChange fnExactRecTextSpec)

/-- ITS FALSE NEIGHBOUR: 'it returns false'. Refute it at one input. -/
def fnExactRecTextWrong : ChangeSpec := { name := "fnExactRecText", fn := fun _ => fun
  | [d] => { results := [.lit (.bool false)], args := [d] }
  | _ => none }
def FnExactRecTextWrongFalsely : Prop := fnExactRecTextRow.holds Try.pinned (OpenSpec.ofChange fnExactRecTextWrong)

/- THE SECOND FORM. 'bulk': how many values and letters a reading holds, each counted each time it is reached (what is shared counts as often as it is met; a slice's spare places count too). A statement '..UptoSaid' is the law's where the arguments, and the package variables that the reading takes, are together of bulk at most 1048576: NARROWER than '..Said'. Prove '..Said' where nothing that the law and all that it calls make is longer than what came in: it says more and counts as full. Else prove '..UptoSaid'. A law counts once. -/
mutual
def uptoBulk {H : Type} : DataW H → Nat
  | .lit (.string bytes) => bytes.length + 1
  | .lit _ => 1
  | .nil => 1
  | .ptr d => uptoBulk d + 1
  | .slice elems spare => uptoBulkAll elems + uptoBulkAll spare + 1
  | .agg parts => uptoBulkAll parts + 1
  | .iface _ d => uptoBulk d + 1
  | .map entries => uptoBulkEntries entries + 1
  | .held _ => 1
def uptoBulkAll {H : Type} : List (DataW H) → Nat
  | [] => 0
  | d :: r => uptoBulk d + uptoBulkAll r
def uptoBulkEntries {H : Type} : List (Lit × DataW H) → Nat
  | [] => 0
  | x :: r => uptoBulkEntry x + uptoBulkEntries r
def uptoBulkEntry {H : Type} : Lit × DataW H → Nat
  | (.string bytes, d) => bytes.length + uptoBulk d + 1
  | (_, d) => uptoBulk d + 1
 end
def uptoSmall : (H : Type) → List (DataW H) → Bool := fun _ ds => decide (uptoBulkAll ds ≤ 1048576)
def OpenSpec.upto (s : _root_.Go.ChangeSpec) : _root_.Go.OpenSpec := { _root_.Go.OpenSpec.ofChange s with cond := some uptoSmall }

/-- 'laws.FnExactUvalOk', WHERE WHAT IT READS IS OF BULK AT MOST 1048576: true; the input reads as it did. -/
def fnExactUvalOkUptoRow : OpenClaim := { program := "ytioafkmgonmogaa", sum := "ba58b711ce52f95d8567785b87fbf9ca6282b0eb5bb55ea00e4c102d921a5766", func := "loop.example/g00392/laws.FnExactUvalOk", spec := "fnExactUvalOk", apart := false, narrowed := true }
def FnExactUvalOkUptoSaid : Prop := fnExactUvalOkUptoRow.holds Try.pinned (OpenSpec.upto fnExactUvalOkSpec)

/-- 'laws.FnExactUserOk', WHERE WHAT IT READS IS OF BULK AT MOST 1048576: true; the input reads as it did. -/
def fnExactUserOkUptoRow : OpenClaim := { program := "ytioafkmgonmogaa", sum := "ba58b711ce52f95d8567785b87fbf9ca6282b0eb5bb55ea00e4c102d921a5766", func := "loop.example/g00392/laws.FnExactUserOk", spec := "fnExactUserOk", apart := false, narrowed := true }
def FnExactUserOkUptoSaid : Prop := fnExactUserOkUptoRow.holds Try.pinned (OpenSpec.upto fnExactUserOkSpec)

/-- 'laws.FnExactTxOk', WHERE WHAT IT READS IS OF BULK AT MOST 1048576: true; the input reads as it did. -/
def fnExactTxOkUptoRow : OpenClaim := { program := "ytioafkmgonmogaa", sum := "ba58b711ce52f95d8567785b87fbf9ca6282b0eb5bb55ea00e4c102d921a5766", func := "loop.example/g00392/laws.FnExactTxOk", spec := "fnExactTxOk", apart := false, narrowed := true }
def FnExactTxOkUptoSaid : Prop := fnExactTxOkUptoRow.holds Try.pinned (OpenSpec.upto fnExactTxOkSpec)

/-- 'laws.FnExactTxAfter', WHERE WHAT IT READS IS OF BULK AT MOST 1048576: true; the input reads as it did. -/
def fnExactTxAfterUptoRow : OpenClaim := { program := "ytioafkmgonmogaa", sum := "ba58b711ce52f95d8567785b87fbf9ca6282b0eb5bb55ea00e4c102d921a5766", func := "loop.example/g00392/laws.FnExactTxAfter", spec := "fnExactTxAfter", apart := false, narrowed := true }
def FnExactTxAfterUptoSaid : Prop := fnExactTxAfterUptoRow.holds Try.pinned (OpenSpec.upto fnExactTxAfterSpec)

/-- 'laws.FnExactReachOk', WHERE WHAT IT READS IS OF BULK AT MOST 1048576: true; the input reads as it did. -/
def fnExactReachOkUptoRow : OpenClaim := { program := "ytioafkmgonmogaa", sum := "ba58b711ce52f95d8567785b87fbf9ca6282b0eb5bb55ea00e4c102d921a5766", func := "loop.example/g00392/laws.FnExactReachOk", spec := "fnExactReachOk", apart := false, narrowed := true }
def FnExactReachOkUptoSaid : Prop := fnExactReachOkUptoRow.holds Try.pinned (OpenSpec.upto fnExactReachOkSpec)

/-- 'laws.FnExactRangeHas', WHERE WHAT IT READS IS OF BULK AT MOST 1048576: true; the input reads as it did. -/
def fnExactRangeHasUptoRow : OpenClaim := { program := "ytioafkmgonmogaa", sum := "ba58b711ce52f95d8567785b87fbf9ca6282b0eb5bb55ea00e4c102d921a5766", func := "loop.example/g00392/laws.FnExactRangeHas", spec := "fnExactRangeHas", apart := false, narrowed := true }
def FnExactRangeHasUptoSaid : Prop := fnExactRangeHasUptoRow.holds Try.pinned (OpenSpec.upto fnExactRangeHasSpec)

/-- 'laws.FnExactTxText', WHERE WHAT IT READS IS OF BULK AT MOST 1048576: true; the input reads as it did. -/
def fnExactTxTextUptoRow : OpenClaim := { program := "ytioafkmgonmogaa", sum := "ba58b711ce52f95d8567785b87fbf9ca6282b0eb5bb55ea00e4c102d921a5766", func := "loop.example/g00392/laws.FnExactTxText", spec := "fnExactTxText", recurses := true, apart := false, narrowed := true }
def FnExactTxTextUptoSaid : Prop := fnExactTxTextUptoRow.holds Try.pinned (OpenSpec.upto fnExactTxTextSpec)

/-- 'laws.FnExactAskOk', WHERE WHAT IT READS IS OF BULK AT MOST 1048576: true; the input reads as it did. -/
def fnExactAskOkUptoRow : OpenClaim := { program := "ytioafkmgonmogaa", sum := "ba58b711ce52f95d8567785b87fbf9ca6282b0eb5bb55ea00e4c102d921a5766", func := "loop.example/g00392/laws.FnExactAskOk", spec := "fnExactAskOk", apart := false, narrowed := true }
def FnExactAskOkUptoSaid : Prop := fnExactAskOkUptoRow.holds Try.pinned (OpenSpec.upto fnExactAskOkSpec)

/-- 'laws.FnExactRecOk', WHERE WHAT IT READS IS OF BULK AT MOST 1048576: true; the input reads as it did. -/
def fnExactRecOkUptoRow : OpenClaim := { program := "ytioafkmgonmogaa", sum := "ba58b711ce52f95d8567785b87fbf9ca6282b0eb5bb55ea00e4c102d921a5766", func := "loop.example/g00392/laws.FnExactRecOk", spec := "fnExactRecOk", apart := false, narrowed := true }
def FnExactRecOkUptoSaid : Prop := fnExactRecOkUptoRow.holds Try.pinned (OpenSpec.upto fnExactRecOkSpec)

/-- 'laws.FnExactCallOk', WHERE WHAT IT READS IS OF BULK AT MOST 1048576: true; the input reads as it did. -/
def fnExactCallOkUptoRow : OpenClaim := { program := "ytioafkmgonmogaa", sum := "ba58b711ce52f95d8567785b87fbf9ca6282b0eb5bb55ea00e4c102d921a5766", func := "loop.example/g00392/laws.FnExactCallOk", spec := "fnExactCallOk", apart := false, narrowed := true }
def FnExactCallOkUptoSaid : Prop := fnExactCallOkUptoRow.holds Try.pinned (OpenSpec.upto fnExactCallOkSpec)

/-- 'laws.FnExactAskLock', WHERE WHAT IT READS IS OF BULK AT MOST 1048576: true; the input reads as it did. -/
def fnExactAskLockUptoRow : OpenClaim := { program := "ytioafkmgonmogaa", sum := "ba58b711ce52f95d8567785b87fbf9ca6282b0eb5bb55ea00e4c102d921a5766", func := "loop.example/g00392/laws.FnExactAskLock", spec := "fnExactAskLock", apart := false, narrowed := true }
def FnExactAskLockUptoSaid : Prop := fnExactAskLockUptoRow.holds Try.pinned (OpenSpec.upto fnExactAskLockSpec)

/-- 'laws.FnExactRecText', WHERE WHAT IT READS IS OF BULK AT MOST 1048576: true; the input reads as it did. -/
def fnExactRecTextUptoRow : OpenClaim := { program := "ytioafkmgonmogaa", sum := "ba58b711ce52f95d8567785b87fbf9ca6282b0eb5bb55ea00e4c102d921a5766", func := "loop.example/g00392/laws.FnExactRecText", spec := "fnExactRecText", apart := false, narrowed := true }
def FnExactRecTextUptoSaid : Prop := fnExactRecTextUptoRow.holds Try.pinned (OpenSpec.upto fnExactRecTextSpec)

end Rows
end Go.Proofs.Ytioafkmgonmogaa
