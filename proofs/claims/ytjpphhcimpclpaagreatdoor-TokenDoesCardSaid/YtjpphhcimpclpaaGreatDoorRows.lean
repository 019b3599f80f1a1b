/-
  NARROWER THAN 'FOR EVERY INPUT', by the rows' own cells (each row's printed sentence says how): TokenMoves: loops, laid · TokenDoes: loops, laid · TokenRuns: loops, laid.
  DERIVED. THE GIVEN ROWS OF THIS SEAT. 3 by the template 'for every input the law returns true; each argument reads behind the call as it read before'; 0 by the template 'total and deterministic' (their statements: YtjpphhcimpclpaaGreatDoorTotals.lean).
  GIVEN WITH THE SEED: the statements are not yours to turn. If you find one false, say at which input.
  Laid BY PROGRAM, IN A SANDBOX (cutbox-rows.mjs): the forced cells as the released guide's own fill.sh prints them over the translation 6946f5126abb3fc4… (all of the seat's roots in one cut). By AI agents, Wed Nov 11 2026. No macro, syntax, notation, axiom, sorry.
-/
import Derived.Test.YtjpphhcimpclpaaGreatDoorChecked
import GoSem.Claim
import GoSem.ClaimJoined
import GoSem.ClaimMapViews
import Derived.JoinedTies
import Derived.KernelRfl
namespace Go.Proofs.YtjpphhcimpclpaaGreatDoor
/- THE CELL 'sum', in the pinned program and in every row, IS THE sha256 OF THE DUMP (.gsa) THAT YtjpphhcimpclpaaGreatDoorProg.lean LOADS. Nothing in Lean hashes anything: it is a label: what it is worth is what the hold of that sum in a sandbox is worth. -/
noncomputable def Tryz.pinned : Pinned := { name := "ytjpphhcimpclpaagreatdoor", sum := "6946f5126abb3fc47ed465ee9cb1a8a0d8b853f5a2050b64d1d9fc48377d5526", checked := Tryz.checked }
namespace Rows
def none {H : Type} : Left H := { results := [], args := [] }

/- WHAT THE LISTED PACKAGE-LEVEL VARIABLES READ AS WHEN THE CALL BEGINS. Each datum BY PROGRAM (the guide's laid-datum.mjs) off the statement by which the dump's own 'gosem.cut.vars' lays the variable. In a bare row this is a premise. The card (YtjpphhcimpclpaaGreatDoorCards.lean) ties it to the program's text. -/
def laid_treenail_term_words {H : Type} : DataW H := .agg [.agg [.lit (.string []), .lit (.int .i64 0), .lit (.int .i64 0), .lit (.int .i64 0)], .agg [.lit (.string []), .lit (.int .i64 0), .lit (.int .i64 0), .lit (.int .i64 0)], .agg [.lit (.string []), .lit (.int .i64 0), .lit (.int .i64 0), .lit (.int .i64 0)], .agg [.lit (.string [110, 101, 103]), .lit (.int .i64 1), .lit (.int .i64 1), .lit (.int .i64 1)], .agg [.lit (.string [110, 111, 116]), .lit (.int .i64 1), .lit (.int .i64 2), .lit (.int .i64 2)], .agg [.lit (.string [97, 100, 100]), .lit (.int .i64 2), .lit (.int .i64 1), .lit (.int .i64 1)], .agg [.lit (.string [115, 117, 98]), .lit (.int .i64 2), .lit (.int .i64 1), .lit (.int .i64 1)], .agg [.lit (.string [109, 117, 108]), .lit (.int .i64 2), .lit (.int .i64 1), .lit (.int .i64 1)], .agg [.lit (.string [100, 105, 118]), .lit (.int .i64 2), .lit (.int .i64 1), .lit (.int .i64 1)], .agg [.lit (.string [109, 111, 100]), .lit (.int .i64 2), .lit (.int .i64 1), .lit (.int .i64 1)], .agg [.lit (.string [101, 113]), .lit (.int .i64 2), .lit (.int .i64 1), .lit (.int .i64 2)], .agg [.lit (.string [108, 116]), .lit (.int .i64 2), .lit (.int .i64 1), .lit (.int .i64 2)], .agg [.lit (.string [108, 101]), .lit (.int .i64 2), .lit (.int .i64 1), .lit (.int .i64 2)], .agg [.lit (.string [97, 110, 100]), .lit (.int .i64 2), .lit (.int .i64 2), .lit (.int .i64 2)], .agg [.lit (.string [111, 114]), .lit (.int .i64 2), .lit (.int .i64 2), .lit (.int .i64 2)]]

/-- 'treenaillaw07.TokenMoves': WHATEVER THE INPUT: true; the input reads as it did. -/
def tokenMovesSpec : ChangeSpec := { name := "tokenMoves", fn := fun _ => fun
  | [d1, d2] => { results := [.lit (.bool true)], args := [d1, d2] }
  | _ => none }
def tokenMovesRow : OpenClaim := { program := "ytjpphhcimpclpaagreatdoor", sum := "6946f5126abb3fc47ed465ee9cb1a8a0d8b853f5a2050b64d1d9fc48377d5526", func := "treenail/treenaillaw07.TokenMoves", spec := "tokenMoves", unfollowed := true, recurses := true, named := ["treenail/term.words"], loops := true, apart := false, laid := [("treenail/term.words", laid_treenail_term_words)] }
def TokenMovesSaid : Prop := tokenMovesRow.holds Tryz.pinned (OpenSpec.ofChange tokenMovesSpec)

/-- ITS FALSE NEIGHBOUR: 'it returns false'. Refute it at one input. -/
def tokenMovesWrong : ChangeSpec := { name := "tokenMoves", fn := fun _ => fun
  | [d1, d2] => { results := [.lit (.bool false)], args := [d1, d2] }
  | _ => none }
def TokenMovesWrongFalsely : Prop := tokenMovesRow.holds Tryz.pinned (OpenSpec.ofChange tokenMovesWrong)

/-- 'treenaillaw07.TokenDoes': WHATEVER THE INPUT: true; the input reads as it did. -/
def tokenDoesSpec : ChangeSpec := { name := "tokenDoes", fn := fun _ => fun
  | [d1, d2, d3] => { results := [.lit (.bool true)], args := [d1, d2, d3] }
  | _ => none }
def tokenDoesRow : OpenClaim := { program := "ytjpphhcimpclpaagreatdoor", sum := "6946f5126abb3fc47ed465ee9cb1a8a0d8b853f5a2050b64d1d9fc48377d5526", func := "treenail/treenaillaw07.TokenDoes", spec := "tokenDoes", unfollowed := true, recurses := true, named := ["treenail/term.words"], loops := true, apart := false, laid := [("treenail/term.words", laid_treenail_term_words)] }
def TokenDoesSaid : Prop := tokenDoesRow.holds Tryz.pinned (OpenSpec.ofChange tokenDoesSpec)

/-- ITS FALSE NEIGHBOUR: 'it returns false'. Refute it at one input. -/
def tokenDoesWrong : ChangeSpec := { name := "tokenDoes", fn := fun _ => fun
  | [d1, d2, d3] => { results := [.lit (.bool false)], args := [d1, d2, d3] }
  | _ => none }
def TokenDoesWrongFalsely : Prop := tokenDoesRow.holds Tryz.pinned (OpenSpec.ofChange tokenDoesWrong)

/-- 'treenaillaw07.TokenRuns': WHATEVER THE INPUT: true; the input reads as it did. -/
def tokenRunsSpec : ChangeSpec := { name := "tokenRuns", fn := fun _ => fun
  | [d1, d2] => { results := [.lit (.bool true)], args := [d1, d2] }
  | _ => none }
def tokenRunsRow : OpenClaim := { program := "ytjpphhcimpclpaagreatdoor", sum := "6946f5126abb3fc47ed465ee9cb1a8a0d8b853f5a2050b64d1d9fc48377d5526", func := "treenail/treenaillaw07.TokenRuns", spec := "tokenRuns", unfollowed := true, recurses := true, named := ["treenail/term.words"], loops := true, apart := false, laid := [("treenail/term.words", laid_treenail_term_words)] }
def TokenRunsSaid : Prop := tokenRunsRow.holds Tryz.pinned (OpenSpec.ofChange tokenRunsSpec)

/-- ITS FALSE NEIGHBOUR: 'it returns false'. Refute it at one input. -/
def tokenRunsWrong : ChangeSpec := { name := "tokenRuns", fn := fun _ => fun
  | [d1, d2] => { results := [.lit (.bool false)], args := [d1, d2] }
  | _ => none }
def TokenRunsWrongFalsely : Prop := tokenRunsRow.holds Tryz.pinned (OpenSpec.ofChange tokenRunsWrong)

/- THE SECOND FORM. 'bulk': how many values and letters a reading holds, each counted each time it is reached (what is shared counts as often as it is met; a slice's spare places count too). A statement '..UptoSaid' is the law's where the arguments, and the package variables that the reading takes, are together of bulk at most 1048576: NARROWER than '..Said'. Prove '..Said' where nothing that the law and all that it calls make is longer than what came in: it says more and counts as full. Else prove '..UptoSaid'. A law counts once. -/
mutual
def uptoBulk {H : Type} : DataW H → Nat
  | .lit (.string bytes) => bytes.length + 1
  | .lit _ => 1
  | .nil => 1
  | .ptr d => uptoBulk d + 1
  | .slice elems spare => uptoBulkAll elems + uptoBulkAll spare + 1
  | .agg parts => uptoBulkAll parts + 1
  | .iface _ d => uptoBulk d + 1
  | .map entries => uptoBulkEntries entries + 1
  | .held _ => 1
def uptoBulkAll {H : Type} : List (DataW H) → Nat
  | [] => 0
  | d :: r => uptoBulk d + uptoBulkAll r
def uptoBulkEntries {H : Type} : List (Lit × DataW H) → Nat
  | [] => 0
  | x :: r => uptoBulkEntry x + uptoBulkEntries r
def uptoBulkEntry {H : Type} : Lit × DataW H → Nat
  | (.string bytes, d) => bytes.length + uptoBulk d + 1
  | (_, d) => uptoBulk d + 1
 end
def uptoSmall : (H : Type) → List (DataW H) → Bool := fun _ ds => decide (uptoBulkAll ds ≤ 1048576)
def OpenSpec.upto (s : _root_.Go.ChangeSpec) : _root_.Go.OpenSpec := { _root_.Go.OpenSpec.ofChange s with cond := some uptoSmall }

/-- 'treenaillaw07.TokenMoves', WHERE WHAT IT READS IS OF BULK AT MOST 1048576: true; the input reads as it did. -/
def tokenMovesUptoRow : OpenClaim := { program := "ytjpphhcimpclpaagreatdoor", sum := "6946f5126abb3fc47ed465ee9cb1a8a0d8b853f5a2050b64d1d9fc48377d5526", func := "treenail/treenaillaw07.TokenMoves", spec := "tokenMoves", unfollowed := true, recurses := true, named := ["treenail/term.words"], loops := true, apart := false, laid := [("treenail/term.words", laid_treenail_term_words)], narrowed := true }
def TokenMovesUptoSaid : Prop := tokenMovesUptoRow.holds Tryz.pinned (OpenSpec.upto tokenMovesSpec)

/-- 'treenaillaw07.TokenDoes', WHERE WHAT IT READS IS OF BULK AT MOST 1048576: true; the input reads as it did. -/
def tokenDoesUptoRow : OpenClaim := { program := "ytjpphhcimpclpaagreatdoor", sum := "6946f5126abb3fc47ed465ee9cb1a8a0d8b853f5a2050b64d1d9fc48377d5526", func := "treenail/treenaillaw07.TokenDoes", spec := "tokenDoes", unfollowed := true, recurses := true, named := ["treenail/term.words"], loops := true, apart := false, laid := [("treenail/term.words", laid_treenail_term_words)], narrowed := true }
def TokenDoesUptoSaid : Prop := tokenDoesUptoRow.holds Tryz.pinned (OpenSpec.upto tokenDoesSpec)

/-- 'treenaillaw07.TokenRuns', WHERE WHAT IT READS IS OF BULK AT MOST 1048576: true; the input reads as it did. -/
def tokenRunsUptoRow : OpenClaim := { program := "ytjpphhcimpclpaagreatdoor", sum := "6946f5126abb3fc47ed465ee9cb1a8a0d8b853f5a2050b64d1d9fc48377d5526", func := "treenail/treenaillaw07.TokenRuns", spec := "tokenRuns", unfollowed := true, recurses := true, named := ["treenail/term.words"], loops := true, apart := false, laid := [("treenail/term.words", laid_treenail_term_words)], narrowed := true }
def TokenRunsUptoSaid : Prop := tokenRunsUptoRow.holds Tryz.pinned (OpenSpec.upto tokenRunsSpec)

end Rows
end Go.Proofs.YtjpphhcimpclpaaGreatDoor
