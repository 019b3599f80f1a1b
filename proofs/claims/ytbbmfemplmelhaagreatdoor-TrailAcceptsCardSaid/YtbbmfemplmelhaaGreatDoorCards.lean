/-
  DERIVED. GIVEN WITH THE SEED: THE CARDS: each row of YtbbmfemplmelhaaGreatDoorRows.lean that lists a variable, with what it lists TIED to the program's text (the seventh form; the later family's looks); each row that meets fmt, with fmt's text TOLD by the authors' own Lean function (tested against real Go, not proved from fmt's source: count such statements apart). THE CARD IS WHAT COUNTS. Prove the row's statement (the work); the ties are given (YtbbmfemplmelhaaGreatDoorTie.lean); close each card by the builder's one call (the guide's Derived/Test/ToyasCard.lean, 'card_holds'). Laid BY PROGRAM, IN A SANDBOX (cutbox-door.mjs). By AI agents, Wed Nov 11 2026. No macro, syntax, notation, axiom, sorry.
-/
import Derived.Test.YtbbmfemplmelhaaGreatDoorRows
import GoSem.ClaimSeven
namespace Go.Proofs.YtbbmfemplmelhaaGreatDoor
namespace Rows

/-- THE TIED CARD OF 'treenaillaw08.TrailAfter'. -/
def trailAfterCard : Claim7 := { stood := { row := trailAfterRow, standIns := [], harness := (true, "08108539d62ff9559162353465bc937047b74ddfd967a16eb96e475fe13b938c"), looks := false }, kinds := [], alts := [], laidByText := true, laidKinds := [.widerDeep], laidTests := true, laidLooks := .later }
def TrailAfterCardSaid : Prop := Claim7.holds Tryz.pinned (.plain (OpenSpec.ofChange trailAfterSpec)) trailAfterCard

/-- THE TIED CARD OF 'treenaillaw08.TrailWalks'. -/
def trailWalksCard : Claim7 := { stood := { row := trailWalksRow, standIns := [], harness := (true, "08108539d62ff9559162353465bc937047b74ddfd967a16eb96e475fe13b938c"), looks := false }, kinds := [], alts := [], laidByText := true, laidKinds := [.widerDeep], laidTests := true, laidLooks := .later }
def TrailWalksCardSaid : Prop := Claim7.holds Tryz.pinned (.plain (OpenSpec.ofChange trailWalksSpec)) trailWalksCard

/-- THE TIED CARD OF 'treenaillaw08.TrailAccepts'. -/
def trailAcceptsCard : Claim7 := { stood := { row := trailAcceptsRow, standIns := [], harness := (true, "08108539d62ff9559162353465bc937047b74ddfd967a16eb96e475fe13b938c"), looks := false }, kinds := [], alts := [], laidByText := true, laidKinds := [.widerDeep], laidTests := true, laidLooks := .later }
def TrailAcceptsCardSaid : Prop := Claim7.holds Tryz.pinned (.plain (OpenSpec.ofChange trailAcceptsSpec)) trailAcceptsCard

/-- THE TIED CARD OF 'treenaillaw08.TrailSees'. -/
def trailSeesCard : Claim7 := { stood := { row := trailSeesRow, standIns := [], harness := (true, "08108539d62ff9559162353465bc937047b74ddfd967a16eb96e475fe13b938c"), looks := false }, kinds := [], alts := [], laidByText := true, laidKinds := [.widerDeep], laidTests := true, laidLooks := .later }
def TrailSeesCardSaid : Prop := Claim7.holds Tryz.pinned (.plain (OpenSpec.ofChange trailSeesSpec)) trailSeesCard

/-- THE TIED CARD OF 'treenaillaw08.TrailLess'. -/
def trailLessCard : Claim7 := { stood := { row := trailLessRow, standIns := [], harness := (true, "08108539d62ff9559162353465bc937047b74ddfd967a16eb96e475fe13b938c"), looks := false }, kinds := [], alts := [], laidByText := true, laidKinds := [.widerDeep], laidTests := true, laidLooks := .later }
def TrailLessCardSaid : Prop := Claim7.holds Tryz.pinned (.plain (OpenSpec.ofChange trailLessSpec)) trailLessCard

/-- THE TIED CARD OF 'treenaillaw08.TrailCloses'. -/
def trailClosesCard : Claim7 := { stood := { row := trailClosesRow, standIns := [], harness := (true, "08108539d62ff9559162353465bc937047b74ddfd967a16eb96e475fe13b938c"), looks := false }, kinds := [], alts := [], laidByText := true, laidKinds := [.widerDeep], laidTests := true, laidLooks := .later }
def TrailClosesCardSaid : Prop := Claim7.holds Tryz.pinned (.plain (OpenSpec.ofChange trailClosesSpec)) trailClosesCard

/-- THE SECOND FORM's CARD OF 'treenaillaw08.TrailAfter'. -/
def trailAfterUptoCard : Claim7 := { stood := { row := trailAfterUptoRow, standIns := [], harness := (true, "08108539d62ff9559162353465bc937047b74ddfd967a16eb96e475fe13b938c"), looks := false }, kinds := [], alts := [], laidByText := true, laidKinds := [.widerDeep], laidTests := true, laidLooks := .later }
def TrailAfterUptoCardSaid : Prop := Claim7.holds Tryz.pinned (.plain (OpenSpec.upto trailAfterSpec)) trailAfterUptoCard

/-- THE SECOND FORM's CARD OF 'treenaillaw08.TrailWalks'. -/
def trailWalksUptoCard : Claim7 := { stood := { row := trailWalksUptoRow, standIns := [], harness := (true, "08108539d62ff9559162353465bc937047b74ddfd967a16eb96e475fe13b938c"), looks := false }, kinds := [], alts := [], laidByText := true, laidKinds := [.widerDeep], laidTests := true, laidLooks := .later }
def TrailWalksUptoCardSaid : Prop := Claim7.holds Tryz.pinned (.plain (OpenSpec.upto trailWalksSpec)) trailWalksUptoCard

/-- THE SECOND FORM's CARD OF 'treenaillaw08.TrailAccepts'. -/
def trailAcceptsUptoCard : Claim7 := { stood := { row := trailAcceptsUptoRow, standIns := [], harness := (true, "08108539d62ff9559162353465bc937047b74ddfd967a16eb96e475fe13b938c"), looks := false }, kinds := [], alts := [], laidByText := true, laidKinds := [.widerDeep], laidTests := true, laidLooks := .later }
def TrailAcceptsUptoCardSaid : Prop := Claim7.holds Tryz.pinned (.plain (OpenSpec.upto trailAcceptsSpec)) trailAcceptsUptoCard

/-- THE SECOND FORM's CARD OF 'treenaillaw08.TrailSees'. -/
def trailSeesUptoCard : Claim7 := { stood := { row := trailSeesUptoRow, standIns := [], harness := (true, "08108539d62ff9559162353465bc937047b74ddfd967a16eb96e475fe13b938c"), looks := false }, kinds := [], alts := [], laidByText := true, laidKinds := [.widerDeep], laidTests := true, laidLooks := .later }
def TrailSeesUptoCardSaid : Prop := Claim7.holds Tryz.pinned (.plain (OpenSpec.upto trailSeesSpec)) trailSeesUptoCard

/-- THE SECOND FORM's CARD OF 'treenaillaw08.TrailLess'. -/
def trailLessUptoCard : Claim7 := { stood := { row := trailLessUptoRow, standIns := [], harness := (true, "08108539d62ff9559162353465bc937047b74ddfd967a16eb96e475fe13b938c"), looks := false }, kinds := [], alts := [], laidByText := true, laidKinds := [.widerDeep], laidTests := true, laidLooks := .later }
def TrailLessUptoCardSaid : Prop := Claim7.holds Tryz.pinned (.plain (OpenSpec.upto trailLessSpec)) trailLessUptoCard

/-- THE SECOND FORM's CARD OF 'treenaillaw08.TrailCloses'. -/
def trailClosesUptoCard : Claim7 := { stood := { row := trailClosesUptoRow, standIns := [], harness := (true, "08108539d62ff9559162353465bc937047b74ddfd967a16eb96e475fe13b938c"), looks := false }, kinds := [], alts := [], laidByText := true, laidKinds := [.widerDeep], laidTests := true, laidLooks := .later }
def TrailClosesUptoCardSaid : Prop := Claim7.holds Tryz.pinned (.plain (OpenSpec.upto trailClosesSpec)) trailClosesUptoCard
end Rows
end Go.Proofs.YtbbmfemplmelhaaGreatDoor
