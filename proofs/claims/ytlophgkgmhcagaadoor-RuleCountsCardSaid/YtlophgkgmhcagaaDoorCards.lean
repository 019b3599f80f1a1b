/-
  DERIVED. GIVEN WITH THE SEED: THE CARDS: each row of YtlophgkgmhcagaaDoorRows.lean that lists a variable, with what it lists TIED to the program's text (the seventh form; the later family's looks); each row that meets fmt, with fmt's text TOLD by the authors' own Lean function (tested against real Go, not proved from fmt's source: count such statements apart). THE CARD IS WHAT COUNTS. Prove the row's statement (the work); the ties are given (YtlophgkgmhcagaaDoorTie.lean); close each card by the builder's one call (the guide's Derived/Test/ToyasCard.lean, 'card_holds'). Laid BY PROGRAM, IN A SANDBOX (cutbox-door.mjs). By AI agents, Wed Nov 11 2026. No macro, syntax, notation, axiom, sorry.
-/
import Derived.Test.YtlophgkgmhcagaaDoorRows
import GoSem.ClaimSeven
namespace Go.Proofs.YtlophgkgmhcagaaDoor
namespace Rows

/-- THE TIED CARD OF 'treenaillaw14.RuleAll'. -/
def ruleAllCard : Claim7 := { stood := { row := ruleAllRow, standIns := [], harness := (true, "848d0ef43525fbd72ee5c542851feeaee60c637a4a71d49ac27dad4a3b6483ff"), looks := false }, kinds := [], alts := [], laidByText := true, laidKinds := [.widerDeep], laidTests := true, laidLooks := .later }
def RuleAllCardSaid : Prop := Claim7.holds Tryd.pinned (.plain (OpenSpec.ofChange ruleAllSpec)) ruleAllCard

/-- THE TIED CARD OF 'treenaillaw14.RuleDoes'. -/
def ruleDoesCard : Claim7 := { stood := { row := ruleDoesRow, standIns := [], harness := (true, "848d0ef43525fbd72ee5c542851feeaee60c637a4a71d49ac27dad4a3b6483ff"), looks := false }, kinds := [], alts := [], laidByText := true, laidKinds := [.widerDeep], laidTests := true, laidLooks := .later }
def RuleDoesCardSaid : Prop := Claim7.holds Tryd.pinned (.plain (OpenSpec.ofChange ruleDoesSpec)) ruleDoesCard

/-- THE TIED CARD OF 'treenaillaw14.RuleCounts'. -/
def ruleCountsCard : Claim7 := { stood := { row := ruleCountsRow, standIns := [], harness := (true, "848d0ef43525fbd72ee5c542851feeaee60c637a4a71d49ac27dad4a3b6483ff"), looks := false }, kinds := [], alts := [], laidByText := true, laidKinds := [.widerDeep], laidTests := true, laidLooks := .later }
def RuleCountsCardSaid : Prop := Claim7.holds Tryd.pinned (.plain (OpenSpec.ofChange ruleCountsSpec)) ruleCountsCard

/-- THE TIED CARD OF 'treenaillaw14.RuleFree'. -/
def ruleFreeCard : Claim7 := { stood := { row := ruleFreeRow, standIns := [], harness := (true, "848d0ef43525fbd72ee5c542851feeaee60c637a4a71d49ac27dad4a3b6483ff"), looks := false }, kinds := [], alts := [], laidByText := true, laidKinds := [.widerDeep], laidTests := true, laidLooks := .later }
def RuleFreeCardSaid : Prop := Claim7.holds Tryd.pinned (.plain (OpenSpec.ofChange ruleFreeSpec)) ruleFreeCard

/-- THE SECOND FORM's CARD OF 'treenaillaw14.RuleAll'. -/
def ruleAllUptoCard : Claim7 := { stood := { row := ruleAllUptoRow, standIns := [], harness := (true, "848d0ef43525fbd72ee5c542851feeaee60c637a4a71d49ac27dad4a3b6483ff"), looks := false }, kinds := [], alts := [], laidByText := true, laidKinds := [.widerDeep], laidTests := true, laidLooks := .later }
def RuleAllUptoCardSaid : Prop := Claim7.holds Tryd.pinned (.plain (OpenSpec.upto ruleAllSpec)) ruleAllUptoCard

/-- THE SECOND FORM's CARD OF 'treenaillaw14.RuleDoes'. -/
def ruleDoesUptoCard : Claim7 := { stood := { row := ruleDoesUptoRow, standIns := [], harness := (true, "848d0ef43525fbd72ee5c542851feeaee60c637a4a71d49ac27dad4a3b6483ff"), looks := false }, kinds := [], alts := [], laidByText := true, laidKinds := [.widerDeep], laidTests := true, laidLooks := .later }
def RuleDoesUptoCardSaid : Prop := Claim7.holds Tryd.pinned (.plain (OpenSpec.upto ruleDoesSpec)) ruleDoesUptoCard

/-- THE SECOND FORM's CARD OF 'treenaillaw14.RuleCounts'. -/
def ruleCountsUptoCard : Claim7 := { stood := { row := ruleCountsUptoRow, standIns := [], harness := (true, "848d0ef43525fbd72ee5c542851feeaee60c637a4a71d49ac27dad4a3b6483ff"), looks := false }, kinds := [], alts := [], laidByText := true, laidKinds := [.widerDeep], laidTests := true, laidLooks := .later }
def RuleCountsUptoCardSaid : Prop := Claim7.holds Tryd.pinned (.plain (OpenSpec.upto ruleCountsSpec)) ruleCountsUptoCard

/-- THE SECOND FORM's CARD OF 'treenaillaw14.RuleFree'. -/
def ruleFreeUptoCard : Claim7 := { stood := { row := ruleFreeUptoRow, standIns := [], harness := (true, "848d0ef43525fbd72ee5c542851feeaee60c637a4a71d49ac27dad4a3b6483ff"), looks := false }, kinds := [], alts := [], laidByText := true, laidKinds := [.widerDeep], laidTests := true, laidLooks := .later }
def RuleFreeUptoCardSaid : Prop := Claim7.holds Tryd.pinned (.plain (OpenSpec.upto ruleFreeSpec)) ruleFreeUptoCard
end Rows
end Go.Proofs.YtlophgkgmhcagaaDoor
