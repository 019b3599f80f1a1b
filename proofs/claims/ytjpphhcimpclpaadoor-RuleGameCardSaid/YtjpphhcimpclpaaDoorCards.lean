/-
  DERIVED. GIVEN WITH THE SEED: THE CARDS: each row of YtjpphhcimpclpaaDoorRows.lean that lists a variable, with what it lists TIED to the program's text (the seventh form; the later family's looks); each row that meets fmt, with fmt's text TOLD by the authors' own Lean function (tested against real Go, not proved from fmt's source: count such statements apart). THE CARD IS WHAT COUNTS. Prove the row's statement (the work); the ties are given (YtjpphhcimpclpaaDoorTie.lean); close each card by the builder's one call (the guide's Derived/Test/ToyasCard.lean, 'card_holds'). Laid BY PROGRAM, IN A SANDBOX (cutbox-door.mjs). By AI agents, Wed Nov 11 2026. No macro, syntax, notation, axiom, sorry.
-/
import Derived.Test.YtjpphhcimpclpaaDoorRows
import GoSem.ClaimSeven
namespace Go.Proofs.YtjpphhcimpclpaaDoor
namespace Rows

/-- THE TIED CARD OF 'treenaillaw14.RuleFree'. -/
def ruleFreeCard : Claim7 := { stood := { row := ruleFreeRow, standIns := [], harness := (true, "dc7de72cdcca6b48d21a631e33d732f1320867a395b20b33f382ae848b06b371"), looks := false }, kinds := [], alts := [], laidByText := true, laidKinds := [.widerDeep], laidTests := true, laidLooks := .later }
def RuleFreeCardSaid : Prop := Claim7.holds Tryd.pinned (.plain (OpenSpec.ofChange ruleFreeSpec)) ruleFreeCard

/-- THE TIED CARD OF 'treenaillaw07.TokenStates'. -/
def tokenStatesCard : Claim7 := { stood := { row := tokenStatesRow, standIns := [], harness := (true, "dc7de72cdcca6b48d21a631e33d732f1320867a395b20b33f382ae848b06b371"), looks := false }, kinds := [], alts := [], laidByText := true, laidKinds := [.widerDeep], laidTests := true, laidLooks := .later }
def TokenStatesCardSaid : Prop := Claim7.holds Tryd.pinned (.plain (OpenSpec.ofChange tokenStatesSpec)) tokenStatesCard

/-- THE TIED CARD OF 'treenaillaw07.TokenOne'. -/
def tokenOneCard : Claim7 := { stood := { row := tokenOneRow, standIns := [], harness := (true, "dc7de72cdcca6b48d21a631e33d732f1320867a395b20b33f382ae848b06b371"), looks := false }, kinds := [], alts := [], laidByText := true, laidKinds := [.widerDeep], laidTests := true, laidLooks := .later }
def TokenOneCardSaid : Prop := Claim7.holds Tryd.pinned (.plain (OpenSpec.ofChange tokenOneSpec)) tokenOneCard

/-- THE TIED CARD OF 'treenaillaw07.TokenGoes'. -/
def tokenGoesCard : Claim7 := { stood := { row := tokenGoesRow, standIns := [], harness := (true, "dc7de72cdcca6b48d21a631e33d732f1320867a395b20b33f382ae848b06b371"), looks := false }, kinds := [], alts := [], laidByText := true, laidKinds := [.widerDeep], laidTests := true, laidLooks := .later }
def TokenGoesCardSaid : Prop := Claim7.holds Tryd.pinned (.plain (OpenSpec.ofChange tokenGoesSpec)) tokenGoesCard

/-- THE TIED CARD OF 'treenaillaw14.RuleGame'. -/
def ruleGameCard : Claim7 := { stood := { row := ruleGameRow, standIns := [], harness := (true, "dc7de72cdcca6b48d21a631e33d732f1320867a395b20b33f382ae848b06b371"), looks := false }, kinds := [], alts := [], laidByText := true, laidKinds := [.widerDeep], laidTests := true, laidLooks := .later }
def RuleGameCardSaid : Prop := Claim7.holds Tryd.pinned (.plain (OpenSpec.ofChange ruleGameSpec)) ruleGameCard

/-- THE SECOND FORM's CARD OF 'treenaillaw14.RuleFree'. -/
def ruleFreeUptoCard : Claim7 := { stood := { row := ruleFreeUptoRow, standIns := [], harness := (true, "dc7de72cdcca6b48d21a631e33d732f1320867a395b20b33f382ae848b06b371"), looks := false }, kinds := [], alts := [], laidByText := true, laidKinds := [.widerDeep], laidTests := true, laidLooks := .later }
def RuleFreeUptoCardSaid : Prop := Claim7.holds Tryd.pinned (.plain (OpenSpec.upto ruleFreeSpec)) ruleFreeUptoCard

/-- THE SECOND FORM's CARD OF 'treenaillaw07.TokenStates'. -/
def tokenStatesUptoCard : Claim7 := { stood := { row := tokenStatesUptoRow, standIns := [], harness := (true, "dc7de72cdcca6b48d21a631e33d732f1320867a395b20b33f382ae848b06b371"), looks := false }, kinds := [], alts := [], laidByText := true, laidKinds := [.widerDeep], laidTests := true, laidLooks := .later }
def TokenStatesUptoCardSaid : Prop := Claim7.holds Tryd.pinned (.plain (OpenSpec.upto tokenStatesSpec)) tokenStatesUptoCard

/-- THE SECOND FORM's CARD OF 'treenaillaw07.TokenOne'. -/
def tokenOneUptoCard : Claim7 := { stood := { row := tokenOneUptoRow, standIns := [], harness := (true, "dc7de72cdcca6b48d21a631e33d732f1320867a395b20b33f382ae848b06b371"), looks := false }, kinds := [], alts := [], laidByText := true, laidKinds := [.widerDeep], laidTests := true, laidLooks := .later }
def TokenOneUptoCardSaid : Prop := Claim7.holds Tryd.pinned (.plain (OpenSpec.upto tokenOneSpec)) tokenOneUptoCard

/-- THE SECOND FORM's CARD OF 'treenaillaw07.TokenGoes'. -/
def tokenGoesUptoCard : Claim7 := { stood := { row := tokenGoesUptoRow, standIns := [], harness := (true, "dc7de72cdcca6b48d21a631e33d732f1320867a395b20b33f382ae848b06b371"), looks := false }, kinds := [], alts := [], laidByText := true, laidKinds := [.widerDeep], laidTests := true, laidLooks := .later }
def TokenGoesUptoCardSaid : Prop := Claim7.holds Tryd.pinned (.plain (OpenSpec.upto tokenGoesSpec)) tokenGoesUptoCard

/-- THE SECOND FORM's CARD OF 'treenaillaw14.RuleGame'. -/
def ruleGameUptoCard : Claim7 := { stood := { row := ruleGameUptoRow, standIns := [], harness := (true, "dc7de72cdcca6b48d21a631e33d732f1320867a395b20b33f382ae848b06b371"), looks := false }, kinds := [], alts := [], laidByText := true, laidKinds := [.widerDeep], laidTests := true, laidLooks := .later }
def RuleGameUptoCardSaid : Prop := Claim7.holds Tryd.pinned (.plain (OpenSpec.upto ruleGameSpec)) ruleGameUptoCard
end Rows
end Go.Proofs.YtjpphhcimpclpaaDoor
