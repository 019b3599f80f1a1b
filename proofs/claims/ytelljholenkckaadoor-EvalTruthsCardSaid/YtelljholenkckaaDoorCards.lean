/-
  DERIVED. GIVEN WITH THE SEED: THE CARDS: each row of YtelljholenkckaaDoorRows.lean that lists a variable, with what it lists TIED to the program's text (the seventh form; the later family's looks); each row that meets fmt, with fmt's text TOLD by the authors' own Lean function (tested against real Go, not proved from fmt's source: count such statements apart). THE CARD IS WHAT COUNTS. Prove the row's statement (the work); the ties are given (YtelljholenkckaaDoorTie.lean); close each card by the builder's one call (the guide's Derived/Test/ToyasCard.lean, 'card_holds'). Laid BY PROGRAM, IN A SANDBOX (cutbox-door.mjs). By AI agents, Wed Nov 11 2026. No macro, syntax, notation, axiom, sorry.
-/
import Derived.Test.YtelljholenkckaaDoorRows
import GoSem.ClaimSeven
namespace Go.Proofs.YtelljholenkckaaDoor
namespace Rows

/-- THE TIED CARD OF 'treenaillaw04.EvalNumbers'. -/
def evalNumbersCard : Claim7 := { stood := { row := evalNumbersRow, standIns := [], harness := (true, "2e8c4566b4305a819eab81bc71bb26de0dc5d7e86131b53838b75cd88d29eaf3"), looks := false }, kinds := [], alts := [], laidByText := true, laidKinds := [.widerDeep], laidTests := true, laidLooks := .later }
def EvalNumbersCardSaid : Prop := Claim7.holds Tryd.pinned (.plain (OpenSpec.ofChange evalNumbersSpec)) evalNumbersCard

/-- THE TIED CARD OF 'treenaillaw04.EvalSets'. -/
def evalSetsCard : Claim7 := { stood := { row := evalSetsRow, standIns := [], harness := (true, "2e8c4566b4305a819eab81bc71bb26de0dc5d7e86131b53838b75cd88d29eaf3"), looks := false }, kinds := [], alts := [], laidByText := true, laidKinds := [.widerDeep], laidTests := true, laidLooks := .later }
def EvalSetsCardSaid : Prop := Claim7.holds Tryd.pinned (.plain (OpenSpec.ofChange evalSetsSpec)) evalSetsCard

/-- THE TIED CARD OF 'treenaillaw04.EvalTruths'. -/
def evalTruthsCard : Claim7 := { stood := { row := evalTruthsRow, standIns := [], harness := (true, "2e8c4566b4305a819eab81bc71bb26de0dc5d7e86131b53838b75cd88d29eaf3"), looks := false }, kinds := [], alts := [], laidByText := true, laidKinds := [.widerDeep], laidTests := true, laidLooks := .later }
def EvalTruthsCardSaid : Prop := Claim7.holds Tryd.pinned (.plain (OpenSpec.ofChange evalTruthsSpec)) evalTruthsCard

/-- THE TIED CARD OF 'treenaillaw04.EvalTotal'. -/
def evalTotalCard : Claim7 := { stood := { row := evalTotalRow, standIns := [], harness := (true, "2e8c4566b4305a819eab81bc71bb26de0dc5d7e86131b53838b75cd88d29eaf3"), looks := false }, kinds := [], alts := [], laidByText := true, laidKinds := [.widerDeep], laidTests := true, laidLooks := .later }
def EvalTotalCardSaid : Prop := Claim7.holds Tryd.pinned (.plain (OpenSpec.ofChange evalTotalSpec)) evalTotalCard

/-- THE TIED CARD OF 'treenaillaw04.EvalOthers'. -/
def evalOthersCard : Claim7 := { stood := { row := evalOthersRow, standIns := [], harness := (true, "2e8c4566b4305a819eab81bc71bb26de0dc5d7e86131b53838b75cd88d29eaf3"), looks := false }, kinds := [], alts := [], laidByText := true, laidKinds := [.widerDeep], laidTests := true, laidLooks := .later }
def EvalOthersCardSaid : Prop := Claim7.holds Tryd.pinned (.plain (OpenSpec.ofChange evalOthersSpec)) evalOthersCard

/-- THE SECOND FORM's CARD OF 'treenaillaw04.EvalNumbers'. -/
def evalNumbersUptoCard : Claim7 := { stood := { row := evalNumbersUptoRow, standIns := [], harness := (true, "2e8c4566b4305a819eab81bc71bb26de0dc5d7e86131b53838b75cd88d29eaf3"), looks := false }, kinds := [], alts := [], laidByText := true, laidKinds := [.widerDeep], laidTests := true, laidLooks := .later }
def EvalNumbersUptoCardSaid : Prop := Claim7.holds Tryd.pinned (.plain (OpenSpec.upto evalNumbersSpec)) evalNumbersUptoCard

/-- THE SECOND FORM's CARD OF 'treenaillaw04.EvalSets'. -/
def evalSetsUptoCard : Claim7 := { stood := { row := evalSetsUptoRow, standIns := [], harness := (true, "2e8c4566b4305a819eab81bc71bb26de0dc5d7e86131b53838b75cd88d29eaf3"), looks := false }, kinds := [], alts := [], laidByText := true, laidKinds := [.widerDeep], laidTests := true, laidLooks := .later }
def EvalSetsUptoCardSaid : Prop := Claim7.holds Tryd.pinned (.plain (OpenSpec.upto evalSetsSpec)) evalSetsUptoCard

/-- THE SECOND FORM's CARD OF 'treenaillaw04.EvalTruths'. -/
def evalTruthsUptoCard : Claim7 := { stood := { row := evalTruthsUptoRow, standIns := [], harness := (true, "2e8c4566b4305a819eab81bc71bb26de0dc5d7e86131b53838b75cd88d29eaf3"), looks := false }, kinds := [], alts := [], laidByText := true, laidKinds := [.widerDeep], laidTests := true, laidLooks := .later }
def EvalTruthsUptoCardSaid : Prop := Claim7.holds Tryd.pinned (.plain (OpenSpec.upto evalTruthsSpec)) evalTruthsUptoCard

/-- THE SECOND FORM's CARD OF 'treenaillaw04.EvalTotal'. -/
def evalTotalUptoCard : Claim7 := { stood := { row := evalTotalUptoRow, standIns := [], harness := (true, "2e8c4566b4305a819eab81bc71bb26de0dc5d7e86131b53838b75cd88d29eaf3"), looks := false }, kinds := [], alts := [], laidByText := true, laidKinds := [.widerDeep], laidTests := true, laidLooks := .later }
def EvalTotalUptoCardSaid : Prop := Claim7.holds Tryd.pinned (.plain (OpenSpec.upto evalTotalSpec)) evalTotalUptoCard

/-- THE SECOND FORM's CARD OF 'treenaillaw04.EvalOthers'. -/
def evalOthersUptoCard : Claim7 := { stood := { row := evalOthersUptoRow, standIns := [], harness := (true, "2e8c4566b4305a819eab81bc71bb26de0dc5d7e86131b53838b75cd88d29eaf3"), looks := false }, kinds := [], alts := [], laidByText := true, laidKinds := [.widerDeep], laidTests := true, laidLooks := .later }
def EvalOthersUptoCardSaid : Prop := Claim7.holds Tryd.pinned (.plain (OpenSpec.upto evalOthersSpec)) evalOthersUptoCard
end Rows
end Go.Proofs.YtelljholenkckaaDoor
