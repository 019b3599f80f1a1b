/-
  DERIVED. GIVEN WITH THE SEED: THE CARDS: each row of YtjpphhcimpclpaaGreatDoorRows.lean that lists a variable, with what it lists TIED to the program's text (the seventh form; the later family's looks); each row that meets fmt, with fmt's text TOLD by the authors' own Lean function (tested against real Go, not proved from fmt's source: count such statements apart). THE CARD IS WHAT COUNTS. Prove the row's statement (the work); the ties are given (YtjpphhcimpclpaaGreatDoorTie.lean); close each card by the builder's one call (the guide's Derived/Test/ToyasCard.lean, 'card_holds'). Laid BY PROGRAM, IN A SANDBOX (cutbox-door.mjs). By AI agents, Wed Nov 11 2026. No macro, syntax, notation, axiom, sorry.
-/
import Derived.Test.YtjpphhcimpclpaaGreatDoorRows
import GoSem.ClaimSeven
namespace Go.Proofs.YtjpphhcimpclpaaGreatDoor
namespace Rows

/-- THE TIED CARD OF 'treenaillaw07.TokenMoves'. -/
def tokenMovesCard : Claim7 := { stood := { row := tokenMovesRow, standIns := [], harness := (true, "ca08bbc200a121de2499928c7a56f019eef419d54a5cdff23daf5d186045bd90"), looks := false }, kinds := [], alts := [], laidByText := true, laidKinds := [.widerDeep], laidTests := true, laidLooks := .later }
def TokenMovesCardSaid : Prop := Claim7.holds Tryz.pinned (.plain (OpenSpec.ofChange tokenMovesSpec)) tokenMovesCard

/-- THE TIED CARD OF 'treenaillaw07.TokenDoes'. -/
def tokenDoesCard : Claim7 := { stood := { row := tokenDoesRow, standIns := [], harness := (true, "ca08bbc200a121de2499928c7a56f019eef419d54a5cdff23daf5d186045bd90"), looks := false }, kinds := [], alts := [], laidByText := true, laidKinds := [.widerDeep], laidTests := true, laidLooks := .later }
def TokenDoesCardSaid : Prop := Claim7.holds Tryz.pinned (.plain (OpenSpec.ofChange tokenDoesSpec)) tokenDoesCard

/-- THE TIED CARD OF 'treenaillaw07.TokenRuns'. -/
def tokenRunsCard : Claim7 := { stood := { row := tokenRunsRow, standIns := [], harness := (true, "ca08bbc200a121de2499928c7a56f019eef419d54a5cdff23daf5d186045bd90"), looks := false }, kinds := [], alts := [], laidByText := true, laidKinds := [.widerDeep], laidTests := true, laidLooks := .later }
def TokenRunsCardSaid : Prop := Claim7.holds Tryz.pinned (.plain (OpenSpec.ofChange tokenRunsSpec)) tokenRunsCard

/-- THE SECOND FORM's CARD OF 'treenaillaw07.TokenMoves'. -/
def tokenMovesUptoCard : Claim7 := { stood := { row := tokenMovesUptoRow, standIns := [], harness := (true, "ca08bbc200a121de2499928c7a56f019eef419d54a5cdff23daf5d186045bd90"), looks := false }, kinds := [], alts := [], laidByText := true, laidKinds := [.widerDeep], laidTests := true, laidLooks := .later }
def TokenMovesUptoCardSaid : Prop := Claim7.holds Tryz.pinned (.plain (OpenSpec.upto tokenMovesSpec)) tokenMovesUptoCard

/-- THE SECOND FORM's CARD OF 'treenaillaw07.TokenDoes'. -/
def tokenDoesUptoCard : Claim7 := { stood := { row := tokenDoesUptoRow, standIns := [], harness := (true, "ca08bbc200a121de2499928c7a56f019eef419d54a5cdff23daf5d186045bd90"), looks := false }, kinds := [], alts := [], laidByText := true, laidKinds := [.widerDeep], laidTests := true, laidLooks := .later }
def TokenDoesUptoCardSaid : Prop := Claim7.holds Tryz.pinned (.plain (OpenSpec.upto tokenDoesSpec)) tokenDoesUptoCard

/-- THE SECOND FORM's CARD OF 'treenaillaw07.TokenRuns'. -/
def tokenRunsUptoCard : Claim7 := { stood := { row := tokenRunsUptoRow, standIns := [], harness := (true, "ca08bbc200a121de2499928c7a56f019eef419d54a5cdff23daf5d186045bd90"), looks := false }, kinds := [], alts := [], laidByText := true, laidKinds := [.widerDeep], laidTests := true, laidLooks := .later }
def TokenRunsUptoCardSaid : Prop := Claim7.holds Tryz.pinned (.plain (OpenSpec.upto tokenRunsSpec)) tokenRunsUptoCard
end Rows
end Go.Proofs.YtjpphhcimpclpaaGreatDoor
