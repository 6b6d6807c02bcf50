/-
  DERIVED. GIVEN WITH THE SEED: THE CARDS: each row of YthoiahaedhnigaaDoorRows.lean that lists a variable, with what it lists TIED to the program's text (the seventh form; the later family's looks); each row that meets fmt, with fmt's text TOLD by the authors' own Lean function (tested against real Go, not proved from fmt's source: count such statements apart). THE CARD IS WHAT COUNTS. Prove the row's statement (the work); the ties are given (YthoiahaedhnigaaDoorTie.lean); close each card by the builder's one call (the guide's Derived/Test/ToyasCard.lean, 'card_holds'). Laid BY PROGRAM, IN A SANDBOX (cutbox-door.mjs). By AI agents, Wed Nov 11 2026. No macro, syntax, notation, axiom, sorry.
-/
import Derived.Test.YthoiahaedhnigaaDoorRows
import GoSem.ClaimSeven
namespace Go.Proofs.YthoiahaedhnigaaDoor
namespace Rows

/-- THE TIED CARD OF 'laws.FnExactTextTx'. -/
def fnExactTextTxCard : Claim7 := { stood := { row := fnExactTextTxRow, standIns := [], harness := (true, "311dd3f79091c44fcb4e41415045d39cc3fc02a75116315ab9344a3d61d342fa"), looks := false }, kinds := [], alts := [], laidByText := true, laidKinds := [.data, .pinned], laidTests := true, laidLooks := .later }
def FnExactTextTxCardSaid : Prop := Claim7.holds Tryd.pinned (.plain (OpenSpec.ofChange fnExactTextTxSpec)) fnExactTextTxCard

/-- THE TIED CARD OF 'laws.FnTx'. -/
def fnTxCard : Claim7 := { stood := { row := fnTxRow, standIns := [], harness := (true, "311dd3f79091c44fcb4e41415045d39cc3fc02a75116315ab9344a3d61d342fa"), looks := false }, kinds := [], alts := [], laidByText := true, laidKinds := [.data, .pinned], laidTests := true, laidLooks := .later }
def FnTxCardSaid : Prop := Claim7.holds Tryd.pinned (.plain (OpenSpec.ofChange fnTxSpec)) fnTxCard

/-- THE SECOND FORM's CARD OF 'laws.FnExactTextTx'. -/
def fnExactTextTxUptoCard : Claim7 := { stood := { row := fnExactTextTxUptoRow, standIns := [], harness := (true, "311dd3f79091c44fcb4e41415045d39cc3fc02a75116315ab9344a3d61d342fa"), looks := false }, kinds := [], alts := [], laidByText := true, laidKinds := [.data, .pinned], laidTests := true, laidLooks := .later }
def FnExactTextTxUptoCardSaid : Prop := Claim7.holds Tryd.pinned (.plain (OpenSpec.upto fnExactTextTxSpec)) fnExactTextTxUptoCard

/-- THE SECOND FORM's CARD OF 'laws.FnTx'. -/
def fnTxUptoCard : Claim7 := { stood := { row := fnTxUptoRow, standIns := [], harness := (true, "311dd3f79091c44fcb4e41415045d39cc3fc02a75116315ab9344a3d61d342fa"), looks := false }, kinds := [], alts := [], laidByText := true, laidKinds := [.data, .pinned], laidTests := true, laidLooks := .later }
def FnTxUptoCardSaid : Prop := Claim7.holds Tryd.pinned (.plain (OpenSpec.upto fnTxSpec)) fnTxUptoCard
end Rows
end Go.Proofs.YthoiahaedhnigaaDoor
