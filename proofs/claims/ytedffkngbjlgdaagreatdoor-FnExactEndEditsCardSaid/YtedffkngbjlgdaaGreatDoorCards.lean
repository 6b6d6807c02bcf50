/-
  DERIVED. GIVEN WITH THE SEED: THE CARDS: each row of YtedffkngbjlgdaaGreatDoorRows.lean that lists a variable, with what it lists TIED to the program's text (the seventh form; the later family's looks); each row that meets fmt, with fmt's text TOLD by the authors' own Lean function (tested against real Go, not proved from fmt's source: count such statements apart). THE CARD IS WHAT COUNTS. Prove the row's statement (the work); the ties are given (YtedffkngbjlgdaaGreatDoorTie.lean); close each card by the builder's one call (the guide's Derived/Test/ToyasCard.lean, 'card_holds'). Laid BY PROGRAM, IN A SANDBOX (cutbox-door.mjs). By AI agents, Wed Nov 11 2026. No macro, syntax, notation, axiom, sorry.
-/
import Derived.Test.YtedffkngbjlgdaaGreatDoorRows
import GoSem.ClaimSeven
namespace Go.Proofs.YtedffkngbjlgdaaGreatDoor
namespace Rows

/-- THE TIED CARD OF 'laws.FnExactEndEdits'. -/
def fnExactEndEditsCard : Claim7 := { stood := { row := fnExactEndEditsRow, standIns := [], harness := (true, "d81c3e9f8a2035c7c147b3e28919856b498c47561068928382a4b0b7c4aa55e1"), looks := false }, kinds := [], alts := [], laidByText := true, laidKinds := [.data, .pinned], laidTests := true, laidLooks := .later }
def FnExactEndEditsCardSaid : Prop := Claim7.holds Tryz.pinned (.plain (OpenSpec.ofChange fnExactEndEditsSpec)) fnExactEndEditsCard

/-- THE TIED CARD OF 'laws.FnExactPreps'. -/
def fnExactPrepsCard : Claim7 := { stood := { row := fnExactPrepsRow, standIns := [], harness := (true, "d81c3e9f8a2035c7c147b3e28919856b498c47561068928382a4b0b7c4aa55e1"), looks := false }, kinds := [], alts := [], laidByText := true, laidKinds := [.data, .pinned], laidTests := true, laidLooks := .later }
def FnExactPrepsCardSaid : Prop := Claim7.holds Tryz.pinned (.plain (OpenSpec.ofChange fnExactPrepsSpec)) fnExactPrepsCard

/-- THE TIED CARD OF 'laws.FnPreps'. -/
def fnPrepsCard : Claim7 := { stood := { row := fnPrepsRow, standIns := [], harness := (true, "d81c3e9f8a2035c7c147b3e28919856b498c47561068928382a4b0b7c4aa55e1"), looks := false }, kinds := [], alts := [], laidByText := true, laidKinds := [.data, .pinned], laidTests := true, laidLooks := .later }
def FnPrepsCardSaid : Prop := Claim7.holds Tryz.pinned (.plain (OpenSpec.ofChange fnPrepsSpec)) fnPrepsCard

/-- THE SECOND FORM's CARD OF 'laws.FnExactEndEdits'. -/
def fnExactEndEditsUptoCard : Claim7 := { stood := { row := fnExactEndEditsUptoRow, standIns := [], harness := (true, "d81c3e9f8a2035c7c147b3e28919856b498c47561068928382a4b0b7c4aa55e1"), looks := false }, kinds := [], alts := [], laidByText := true, laidKinds := [.data, .pinned], laidTests := true, laidLooks := .later }
def FnExactEndEditsUptoCardSaid : Prop := Claim7.holds Tryz.pinned (.plain (OpenSpec.upto fnExactEndEditsSpec)) fnExactEndEditsUptoCard

/-- THE SECOND FORM's CARD OF 'laws.FnExactPreps'. -/
def fnExactPrepsUptoCard : Claim7 := { stood := { row := fnExactPrepsUptoRow, standIns := [], harness := (true, "d81c3e9f8a2035c7c147b3e28919856b498c47561068928382a4b0b7c4aa55e1"), looks := false }, kinds := [], alts := [], laidByText := true, laidKinds := [.data, .pinned], laidTests := true, laidLooks := .later }
def FnExactPrepsUptoCardSaid : Prop := Claim7.holds Tryz.pinned (.plain (OpenSpec.upto fnExactPrepsSpec)) fnExactPrepsUptoCard

/-- THE SECOND FORM's CARD OF 'laws.FnPreps'. -/
def fnPrepsUptoCard : Claim7 := { stood := { row := fnPrepsUptoRow, standIns := [], harness := (true, "d81c3e9f8a2035c7c147b3e28919856b498c47561068928382a4b0b7c4aa55e1"), looks := false }, kinds := [], alts := [], laidByText := true, laidKinds := [.data, .pinned], laidTests := true, laidLooks := .later }
def FnPrepsUptoCardSaid : Prop := Claim7.holds Tryz.pinned (.plain (OpenSpec.upto fnPrepsSpec)) fnPrepsUptoCard
end Rows
end Go.Proofs.YtedffkngbjlgdaaGreatDoor
