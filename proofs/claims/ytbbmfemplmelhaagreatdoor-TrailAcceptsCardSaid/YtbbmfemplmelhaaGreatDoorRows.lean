/-
  NARROWER THAN 'FOR EVERY INPUT', by the rows' own cells (each row's printed sentence says how): TrailAfter: loops, laid · TrailWalks: loops, laid · TrailAccepts: loops, laid · TrailSees: loops, laid · TrailLess: laid · TrailCloses: loops, laid.
  DERIVED. THE GIVEN ROWS OF THIS SEAT. 6 by the template 'for every input the law returns true; each argument reads behind the call as it read before'; 0 by the template 'total and deterministic' (their statements: YtbbmfemplmelhaaGreatDoorTotals.lean).
  GIVEN WITH THE SEED: the statements are not yours to turn. If you find one false, say at which input.
  Laid BY PROGRAM, IN A SANDBOX (cutbox-rows.mjs): the forced cells as the released guide's own fill.sh prints them over the translation ede94ed67aef994d… (all of the seat's roots in one cut). By AI agents, Wed Nov 11 2026. No macro, syntax, notation, axiom, sorry.
-/
import Derived.Test.YtbbmfemplmelhaaGreatDoorChecked
import GoSem.Claim
import GoSem.ClaimJoined
import GoSem.ClaimMapViews
import Derived.JoinedTies
import Derived.KernelRfl
namespace Go.Proofs.YtbbmfemplmelhaaGreatDoor
/- THE CELL 'sum', in the pinned program and in every row, IS THE sha256 OF THE DUMP (.gsa) THAT YtbbmfemplmelhaaGreatDoorProg.lean LOADS. Nothing in Lean hashes anything: it is a label: what it is worth is what the hold of that sum in a sandbox is worth. -/
noncomputable def Tryz.pinned : Pinned := { name := "ytbbmfemplmelhaagreatdoor", sum := "ede94ed67aef994d2176b2f947770e95d3fba42c36b79c42048d3f52909b86a5", checked := Tryz.checked }
namespace Rows
def none {H : Type} : Left H := { results := [], args := [] }

/- WHAT THE LISTED PACKAGE-LEVEL VARIABLES READ AS WHEN THE CALL BEGINS. Each datum BY PROGRAM (the guide's laid-datum.mjs) off the statement by which the dump's own 'gosem.cut.vars' lays the variable. In a bare row this is a premise. The card (YtbbmfemplmelhaaGreatDoorCards.lean) ties it to the program's text. -/
def laid_treenail_term_words {H : Type} : DataW H := .agg [.agg [.lit (.string []), .lit (.int .i64 0), .lit (.int .i64 0), .lit (.int .i64 0)], .agg [.lit (.string []), .lit (.int .i64 0), .lit (.int .i64 0), .lit (.int .i64 0)], .agg [.lit (.string []), .lit (.int .i64 0), .lit (.int .i64 0), .lit (.int .i64 0)], .agg [.lit (.string [110, 101, 103]), .lit (.int .i64 1), .lit (.int .i64 1), .lit (.int .i64 1)], .agg [.lit (.string [110, 111, 116]), .lit (.int .i64 1), .lit (.int .i64 2), .lit (.int .i64 2)], .agg [.lit (.string [97, 100, 100]), .lit (.int .i64 2), .lit (.int .i64 1), .lit (.int .i64 1)], .agg [.lit (.string [115, 117, 98]), .lit (.int .i64 2), .lit (.int .i64 1), .lit (.int .i64 1)], .agg [.lit (.string [109, 117, 108]), .lit (.int .i64 2), .lit (.int .i64 1), .lit (.int .i64 1)], .agg [.lit (.string [100, 105, 118]), .lit (.int .i64 2), .lit (.int .i64 1), .lit (.int .i64 1)], .agg [.lit (.string [109, 111, 100]), .lit (.int .i64 2), .lit (.int .i64 1), .lit (.int .i64 1)], .agg [.lit (.string [101, 113]), .lit (.int .i64 2), .lit (.int .i64 1), .lit (.int .i64 2)], .agg [.lit (.string [108, 116]), .lit (.int .i64 2), .lit (.int .i64 1), .lit (.int .i64 2)], .agg [.lit (.string [108, 101]), .lit (.int .i64 2), .lit (.int .i64 1), .lit (.int .i64 2)], .agg [.lit (.string [97, 110, 100]), .lit (.int .i64 2), .lit (.int .i64 2), .lit (.int .i64 2)], .agg [.lit (.string [111, 114]), .lit (.int .i64 2), .lit (.int .i64 2), .lit (.int .i64 2)]]

/-- 'treenaillaw08.TrailAfter': WHATEVER THE INPUT: true; the input reads as it did. -/
def trailAfterSpec : ChangeSpec := { name := "trailAfter", fn := fun _ => fun
  | [d1, d2, d3] => { results := [.lit (.bool true)], args := [d1, d2, d3] }
  | _ => none }
def trailAfterRow : OpenClaim := { program := "ytbbmfemplmelhaagreatdoor", sum := "ede94ed67aef994d2176b2f947770e95d3fba42c36b79c42048d3f52909b86a5", func := "treenail/treenaillaw08.TrailAfter", spec := "trailAfter", unfollowed := true, recurses := true, named := ["treenail/term.words"], loops := true, plainKeys := false, apart := false, laid := [("treenail/term.words", laid_treenail_term_words)] }
def TrailAfterSaid : Prop := trailAfterRow.holds Tryz.pinned (OpenSpec.ofChange trailAfterSpec)

/-- ITS FALSE NEIGHBOUR: 'it returns false'. Refute it at one input. -/
def trailAfterWrong : ChangeSpec := { name := "trailAfter", fn := fun _ => fun
  | [d1, d2, d3] => { results := [.lit (.bool false)], args := [d1, d2, d3] }
  | _ => none }
def TrailAfterWrongFalsely : Prop := trailAfterRow.holds Tryz.pinned (OpenSpec.ofChange trailAfterWrong)

/-- 'treenaillaw08.TrailWalks': WHATEVER THE INPUT: true; the input reads as it did. -/
def trailWalksSpec : ChangeSpec := { name := "trailWalks", fn := fun _ => fun
  | [d1, d2] => { results := [.lit (.bool true)], args := [d1, d2] }
  | _ => none }
def trailWalksRow : OpenClaim := { program := "ytbbmfemplmelhaagreatdoor", sum := "ede94ed67aef994d2176b2f947770e95d3fba42c36b79c42048d3f52909b86a5", func := "treenail/treenaillaw08.TrailWalks", spec := "trailWalks", unfollowed := true, recurses := true, named := ["treenail/term.words"], loops := true, plainKeys := false, apart := false, laid := [("treenail/term.words", laid_treenail_term_words)] }
def TrailWalksSaid : Prop := trailWalksRow.holds Tryz.pinned (OpenSpec.ofChange trailWalksSpec)

/-- ITS FALSE NEIGHBOUR: 'it returns false'. Refute it at one input. -/
def trailWalksWrong : ChangeSpec := { name := "trailWalks", fn := fun _ => fun
  | [d1, d2] => { results := [.lit (.bool false)], args := [d1, d2] }
  | _ => none }
def TrailWalksWrongFalsely : Prop := trailWalksRow.holds Tryz.pinned (OpenSpec.ofChange trailWalksWrong)

/-- 'treenaillaw08.TrailAccepts': WHATEVER THE INPUT: true; the input reads as it did. -/
def trailAcceptsSpec : ChangeSpec := { name := "trailAccepts", fn := fun _ => fun
  | [d1, d2] => { results := [.lit (.bool true)], args := [d1, d2] }
  | _ => none }
def trailAcceptsRow : OpenClaim := { program := "ytbbmfemplmelhaagreatdoor", sum := "ede94ed67aef994d2176b2f947770e95d3fba42c36b79c42048d3f52909b86a5", func := "treenail/treenaillaw08.TrailAccepts", spec := "trailAccepts", unfollowed := true, recurses := true, named := ["treenail/term.words"], loops := true, plainKeys := false, apart := false, laid := [("treenail/term.words", laid_treenail_term_words)] }
def TrailAcceptsSaid : Prop := trailAcceptsRow.holds Tryz.pinned (OpenSpec.ofChange trailAcceptsSpec)

/-- ITS FALSE NEIGHBOUR: 'it returns false'. Refute it at one input. -/
def trailAcceptsWrong : ChangeSpec := { name := "trailAccepts", fn := fun _ => fun
  | [d1, d2] => { results := [.lit (.bool false)], args := [d1, d2] }
  | _ => none }
def TrailAcceptsWrongFalsely : Prop := trailAcceptsRow.holds Tryz.pinned (OpenSpec.ofChange trailAcceptsWrong)

/-- 'treenaillaw08.TrailSees': WHATEVER THE INPUT: true; the input reads as it did. -/
def trailSeesSpec : ChangeSpec := { name := "trailSees", fn := fun _ => fun
  | [d1, d2] => { results := [.lit (.bool true)], args := [d1, d2] }
  | _ => none }
def trailSeesRow : OpenClaim := { program := "ytbbmfemplmelhaagreatdoor", sum := "ede94ed67aef994d2176b2f947770e95d3fba42c36b79c42048d3f52909b86a5", func := "treenail/treenaillaw08.TrailSees", spec := "trailSees", unfollowed := true, recurses := true, named := ["treenail/term.words"], loops := true, plainKeys := false, apart := false, laid := [("treenail/term.words", laid_treenail_term_words)] }
def TrailSeesSaid : Prop := trailSeesRow.holds Tryz.pinned (OpenSpec.ofChange trailSeesSpec)

/-- ITS FALSE NEIGHBOUR: 'it returns false'. Refute it at one input. -/
def trailSeesWrong : ChangeSpec := { name := "trailSees", fn := fun _ => fun
  | [d1, d2] => { results := [.lit (.bool false)], args := [d1, d2] }
  | _ => none }
def TrailSeesWrongFalsely : Prop := trailSeesRow.holds Tryz.pinned (OpenSpec.ofChange trailSeesWrong)

/-- 'treenaillaw08.TrailLess': WHATEVER THE INPUT: true; the input reads as it did. -/
def trailLessSpec : ChangeSpec := { name := "trailLess", fn := fun _ => fun
  | [d1, d2] => { results := [.lit (.bool true)], args := [d1, d2] }
  | _ => none }
def trailLessRow : OpenClaim := { program := "ytbbmfemplmelhaagreatdoor", sum := "ede94ed67aef994d2176b2f947770e95d3fba42c36b79c42048d3f52909b86a5", func := "treenail/treenaillaw08.TrailLess", spec := "trailLess", unfollowed := true, recurses := true, named := ["treenail/term.words"], plainKeys := false, apart := false, laid := [("treenail/term.words", laid_treenail_term_words)] }
def TrailLessSaid : Prop := trailLessRow.holds Tryz.pinned (OpenSpec.ofChange trailLessSpec)

/-- ITS FALSE NEIGHBOUR: 'it returns false'. Refute it at one input. -/
def trailLessWrong : ChangeSpec := { name := "trailLess", fn := fun _ => fun
  | [d1, d2] => { results := [.lit (.bool false)], args := [d1, d2] }
  | _ => none }
def TrailLessWrongFalsely : Prop := trailLessRow.holds Tryz.pinned (OpenSpec.ofChange trailLessWrong)

/-- 'treenaillaw08.TrailCloses': WHATEVER THE INPUT: true; the input reads as it did. -/
def trailClosesSpec : ChangeSpec := { name := "trailCloses", fn := fun _ => fun
  | [d1, d2] => { results := [.lit (.bool true)], args := [d1, d2] }
  | _ => none }
def trailClosesRow : OpenClaim := { program := "ytbbmfemplmelhaagreatdoor", sum := "ede94ed67aef994d2176b2f947770e95d3fba42c36b79c42048d3f52909b86a5", func := "treenail/treenaillaw08.TrailCloses", spec := "trailCloses", unfollowed := true, recurses := true, named := ["treenail/term.words"], loops := true, plainKeys := false, apart := false, laid := [("treenail/term.words", laid_treenail_term_words)] }
def TrailClosesSaid : Prop := trailClosesRow.holds Tryz.pinned (OpenSpec.ofChange trailClosesSpec)

/-- ITS FALSE NEIGHBOUR: 'it returns false'. Refute it at one input. -/
def trailClosesWrong : ChangeSpec := { name := "trailCloses", fn := fun _ => fun
  | [d1, d2] => { results := [.lit (.bool false)], args := [d1, d2] }
  | _ => none }
def TrailClosesWrongFalsely : Prop := trailClosesRow.holds Tryz.pinned (OpenSpec.ofChange trailClosesWrong)

/- THE SECOND FORM. 'bulk': how many values and letters a reading holds, each counted each time it is reached (what is shared counts as often as it is met; a slice's spare places count too). A statement '..UptoSaid' is the law's where the arguments, and the package variables that the reading takes, are together of bulk at most 1048576: NARROWER than '..Said'. Prove '..Said' where nothing that the law and all that it calls make is longer than what came in: it says more and counts as full. Else prove '..UptoSaid'. A law counts once. -/
mutual
def uptoBulk {H : Type} : DataW H → Nat
  | .lit (.string bytes) => bytes.length + 1
  | .lit _ => 1
  | .nil => 1
  | .ptr d => uptoBulk d + 1
  | .slice elems spare => uptoBulkAll elems + uptoBulkAll spare + 1
  | .agg parts => uptoBulkAll parts + 1
  | .iface _ d => uptoBulk d + 1
  | .map entries => uptoBulkEntries entries + 1
  | .held _ => 1
def uptoBulkAll {H : Type} : List (DataW H) → Nat
  | [] => 0
  | d :: r => uptoBulk d + uptoBulkAll r
def uptoBulkEntries {H : Type} : List (Lit × DataW H) → Nat
  | [] => 0
  | x :: r => uptoBulkEntry x + uptoBulkEntries r
def uptoBulkEntry {H : Type} : Lit × DataW H → Nat
  | (.string bytes, d) => bytes.length + uptoBulk d + 1
  | (_, d) => uptoBulk d + 1
 end
def uptoSmall : (H : Type) → List (DataW H) → Bool := fun _ ds => decide (uptoBulkAll ds ≤ 1048576)
def OpenSpec.upto (s : _root_.Go.ChangeSpec) : _root_.Go.OpenSpec := { _root_.Go.OpenSpec.ofChange s with cond := some uptoSmall }

/-- 'treenaillaw08.TrailAfter', WHERE WHAT IT READS IS OF BULK AT MOST 1048576: true; the input reads as it did. -/
def trailAfterUptoRow : OpenClaim := { program := "ytbbmfemplmelhaagreatdoor", sum := "ede94ed67aef994d2176b2f947770e95d3fba42c36b79c42048d3f52909b86a5", func := "treenail/treenaillaw08.TrailAfter", spec := "trailAfter", unfollowed := true, recurses := true, named := ["treenail/term.words"], loops := true, plainKeys := false, apart := false, laid := [("treenail/term.words", laid_treenail_term_words)], narrowed := true }
def TrailAfterUptoSaid : Prop := trailAfterUptoRow.holds Tryz.pinned (OpenSpec.upto trailAfterSpec)

/-- 'treenaillaw08.TrailWalks', WHERE WHAT IT READS IS OF BULK AT MOST 1048576: true; the input reads as it did. -/
def trailWalksUptoRow : OpenClaim := { program := "ytbbmfemplmelhaagreatdoor", sum := "ede94ed67aef994d2176b2f947770e95d3fba42c36b79c42048d3f52909b86a5", func := "treenail/treenaillaw08.TrailWalks", spec := "trailWalks", unfollowed := true, recurses := true, named := ["treenail/term.words"], loops := true, plainKeys := false, apart := false, laid := [("treenail/term.words", laid_treenail_term_words)], narrowed := true }
def TrailWalksUptoSaid : Prop := trailWalksUptoRow.holds Tryz.pinned (OpenSpec.upto trailWalksSpec)

/-- 'treenaillaw08.TrailAccepts', WHERE WHAT IT READS IS OF BULK AT MOST 1048576: true; the input reads as it did. -/
def trailAcceptsUptoRow : OpenClaim := { program := "ytbbmfemplmelhaagreatdoor", sum := "ede94ed67aef994d2176b2f947770e95d3fba42c36b79c42048d3f52909b86a5", func := "treenail/treenaillaw08.TrailAccepts", spec := "trailAccepts", unfollowed := true, recurses := true, named := ["treenail/term.words"], loops := true, plainKeys := false, apart := false, laid := [("treenail/term.words", laid_treenail_term_words)], narrowed := true }
def TrailAcceptsUptoSaid : Prop := trailAcceptsUptoRow.holds Tryz.pinned (OpenSpec.upto trailAcceptsSpec)

/-- 'treenaillaw08.TrailSees', WHERE WHAT IT READS IS OF BULK AT MOST 1048576: true; the input reads as it did. -/
def trailSeesUptoRow : OpenClaim := { program := "ytbbmfemplmelhaagreatdoor", sum := "ede94ed67aef994d2176b2f947770e95d3fba42c36b79c42048d3f52909b86a5", func := "treenail/treenaillaw08.TrailSees", spec := "trailSees", unfollowed := true, recurses := true, named := ["treenail/term.words"], loops := true, plainKeys := false, apart := false, laid := [("treenail/term.words", laid_treenail_term_words)], narrowed := true }
def TrailSeesUptoSaid : Prop := trailSeesUptoRow.holds Tryz.pinned (OpenSpec.upto trailSeesSpec)

/-- 'treenaillaw08.TrailLess', WHERE WHAT IT READS IS OF BULK AT MOST 1048576: true; the input reads as it did. -/
def trailLessUptoRow : OpenClaim := { program := "ytbbmfemplmelhaagreatdoor", sum := "ede94ed67aef994d2176b2f947770e95d3fba42c36b79c42048d3f52909b86a5", func := "treenail/treenaillaw08.TrailLess", spec := "trailLess", unfollowed := true, recurses := true, named := ["treenail/term.words"], plainKeys := false, apart := false, laid := [("treenail/term.words", laid_treenail_term_words)], narrowed := true }
def TrailLessUptoSaid : Prop := trailLessUptoRow.holds Tryz.pinned (OpenSpec.upto trailLessSpec)

/-- 'treenaillaw08.TrailCloses', WHERE WHAT IT READS IS OF BULK AT MOST 1048576: true; the input reads as it did. -/
def trailClosesUptoRow : OpenClaim := { program := "ytbbmfemplmelhaagreatdoor", sum := "ede94ed67aef994d2176b2f947770e95d3fba42c36b79c42048d3f52909b86a5", func := "treenail/treenaillaw08.TrailCloses", spec := "trailCloses", unfollowed := true, recurses := true, named := ["treenail/term.words"], loops := true, plainKeys := false, apart := false, laid := [("treenail/term.words", laid_treenail_term_words)], narrowed := true }
def TrailClosesUptoSaid : Prop := trailClosesUptoRow.holds Tryz.pinned (OpenSpec.upto trailClosesSpec)

end Rows
end Go.Proofs.YtbbmfemplmelhaaGreatDoor
