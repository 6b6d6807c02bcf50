/-
  DERIVED. GIVEN WITH THE SEED: THE CARDS: each row of YtedffkngbjlgdaaDoorRows.lean that lists a variable, with what it lists TIED to the program's text (the seventh form; the later family's looks); each row that meets fmt, with fmt's text TOLD by the authors' own Lean function (tested against real Go, not proved from fmt's source: count such statements apart). THE CARD IS WHAT COUNTS. Prove the row's statement (the work); the ties are given (YtedffkngbjlgdaaDoorTie.lean); close each card by the builder's one call (the guide's Derived/Test/ToyasCard.lean, 'card_holds'). Laid BY PROGRAM, IN A SANDBOX (cutbox-door.mjs). By AI agents, Wed Nov 11 2026. No macro, syntax, notation, axiom, sorry.
-/
import Derived.Test.YtedffkngbjlgdaaDoorRows
import GoSem.ClaimSeven
namespace Go.Proofs.YtedffkngbjlgdaaDoor
namespace Rows

/-- THE TIED CARD OF 'laws.FnExactLastOf'. -/
def fnExactLastOfCard : Claim7 := { stood := { row := fnExactLastOfRow, standIns := [], harness := (true, "d57924bd78ed4b69c9ccaf2bdb847ae7b0774c283a831dbdf218a22201406cff"), looks := false }, kinds := [], alts := [], laidByText := true, laidKinds := [.data, .pinned], laidTests := true, laidLooks := .later }
def FnExactLastOfCardSaid : Prop := Claim7.holds Tryd.pinned (.plain (OpenSpec.ofChange fnExactLastOfSpec)) fnExactLastOfCard

/-- THE SECOND FORM's CARD OF 'laws.FnExactLastOf'. -/
def fnExactLastOfUptoCard : Claim7 := { stood := { row := fnExactLastOfUptoRow, standIns := [], harness := (true, "d57924bd78ed4b69c9ccaf2bdb847ae7b0774c283a831dbdf218a22201406cff"), looks := false }, kinds := [], alts := [], laidByText := true, laidKinds := [.data, .pinned], laidTests := true, laidLooks := .later }
def FnExactLastOfUptoCardSaid : Prop := Claim7.holds Tryd.pinned (.plain (OpenSpec.upto fnExactLastOfSpec)) fnExactLastOfUptoCard
end Rows
end Go.Proofs.YtedffkngbjlgdaaDoor
