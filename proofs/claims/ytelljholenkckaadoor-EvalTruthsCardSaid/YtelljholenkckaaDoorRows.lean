/-
  NARROWER THAN 'FOR EVERY INPUT', by the rows' own cells (each row's printed sentence says how): EvalNumbers: loops, laid · EvalSets: laid · EvalTruths: loops, laid · EvalTotal: loops, laid · EvalOthers: loops, laid.
  DERIVED. THE GIVEN ROWS OF THIS SEAT. 5 by the template 'for every input the law returns true; each argument reads behind the call as it read before'; 0 by the template 'total and deterministic' (their statements: YtelljholenkckaaDoorTotals.lean).
  GIVEN WITH THE SEED: the statements are not yours to turn. If you find one false, say at which input.
  Laid BY PROGRAM, IN A SANDBOX (cutbox-rows.mjs): the forced cells as the released guide's own fill.sh prints them over the translation 4c1f52c246695faa… (all of the seat's roots in one cut). By AI agents, Wed Nov 11 2026. No macro, syntax, notation, axiom, sorry.
-/
import Derived.Test.YtelljholenkckaaDoorChecked
import GoSem.Claim
import GoSem.ClaimJoined
import GoSem.ClaimMapViews
import Derived.JoinedTies
import Derived.KernelRfl
namespace Go.Proofs.YtelljholenkckaaDoor
/- THE CELL 'sum', in the pinned program and in every row, IS THE sha256 OF THE DUMP (.gsa) THAT YtelljholenkckaaDoorProg.lean LOADS. Nothing in Lean hashes anything: it is a label: what it is worth is what the hold of that sum in a sandbox is worth. -/
noncomputable def Tryd.pinned : Pinned := { name := "ytelljholenkckaadoor", sum := "4c1f52c246695faa9ec60f3d94d593775050438e8a66d53ba12ff6fca1cd5e18", checked := Tryd.checked }
namespace Rows
def none {H : Type} : Left H := { results := [], args := [] }

/- WHAT THE LISTED PACKAGE-LEVEL VARIABLES READ AS WHEN THE CALL BEGINS. Each datum BY PROGRAM (the guide's laid-datum.mjs) off the statement by which the dump's own 'gosem.cut.vars' lays the variable. In a bare row this is a premise. The card (YtelljholenkckaaDoorCards.lean) ties it to the program's text. -/
def laid_treenail_term_words {H : Type} : DataW H := .agg [.agg [.lit (.string []), .lit (.int .i64 0), .lit (.int .i64 0), .lit (.int .i64 0)], .agg [.lit (.string []), .lit (.int .i64 0), .lit (.int .i64 0), .lit (.int .i64 0)], .agg [.lit (.string []), .lit (.int .i64 0), .lit (.int .i64 0), .lit (.int .i64 0)], .agg [.lit (.string [110, 101, 103]), .lit (.int .i64 1), .lit (.int .i64 1), .lit (.int .i64 1)], .agg [.lit (.string [110, 111, 116]), .lit (.int .i64 1), .lit (.int .i64 2), .lit (.int .i64 2)], .agg [.lit (.string [97, 100, 100]), .lit (.int .i64 2), .lit (.int .i64 1), .lit (.int .i64 1)], .agg [.lit (.string [115, 117, 98]), .lit (.int .i64 2), .lit (.int .i64 1), .lit (.int .i64 1)], .agg [.lit (.string [109, 117, 108]), .lit (.int .i64 2), .lit (.int .i64 1), .lit (.int .i64 1)], .agg [.lit (.string [100, 105, 118]), .lit (.int .i64 2), .lit (.int .i64 1), .lit (.int .i64 1)], .agg [.lit (.string [109, 111, 100]), .lit (.int .i64 2), .lit (.int .i64 1), .lit (.int .i64 1)], .agg [.lit (.string [101, 113]), .lit (.int .i64 2), .lit (.int .i64 1), .lit (.int .i64 2)], .agg [.lit (.string [108, 116]), .lit (.int .i64 2), .lit (.int .i64 1), .lit (.int .i64 2)], .agg [.lit (.string [108, 101]), .lit (.int .i64 2), .lit (.int .i64 1), .lit (.int .i64 2)], .agg [.lit (.string [97, 110, 100]), .lit (.int .i64 2), .lit (.int .i64 2), .lit (.int .i64 2)], .agg [.lit (.string [111, 114]), .lit (.int .i64 2), .lit (.int .i64 2), .lit (.int .i64 2)]]

/-- 'treenaillaw04.EvalNumbers': WHATEVER THE INPUT: true; the input reads as it did. -/
def evalNumbersSpec : ChangeSpec := { name := "evalNumbers", fn := fun _ => fun
  | [d1, d2] => { results := [.lit (.bool true)], args := [d1, d2] }
  | _ => none }
def evalNumbersRow : OpenClaim := { program := "ytelljholenkckaadoor", sum := "4c1f52c246695faa9ec60f3d94d593775050438e8a66d53ba12ff6fca1cd5e18", func := "treenail/treenaillaw04.EvalNumbers", spec := "evalNumbers", unfollowed := true, recurses := true, named := ["treenail/term.words"], loops := true, apart := false, laid := [("treenail/term.words", laid_treenail_term_words)] }
def EvalNumbersSaid : Prop := evalNumbersRow.holds Tryd.pinned (OpenSpec.ofChange evalNumbersSpec)

/-- ITS FALSE NEIGHBOUR: 'it returns false'. Refute it at one input. -/
def evalNumbersWrong : ChangeSpec := { name := "evalNumbers", fn := fun _ => fun
  | [d1, d2] => { results := [.lit (.bool false)], args := [d1, d2] }
  | _ => none }
def EvalNumbersWrongFalsely : Prop := evalNumbersRow.holds Tryd.pinned (OpenSpec.ofChange evalNumbersWrong)

/-- 'treenaillaw04.EvalSets': WHATEVER THE INPUT: true; the input reads as it did. -/
def evalSetsSpec : ChangeSpec := { name := "evalSets", fn := fun _ => fun
  | [d1, d2, d3] => { results := [.lit (.bool true)], args := [d1, d2, d3] }
  | _ => none }
def evalSetsRow : OpenClaim := { program := "ytelljholenkckaadoor", sum := "4c1f52c246695faa9ec60f3d94d593775050438e8a66d53ba12ff6fca1cd5e18", func := "treenail/treenaillaw04.EvalSets", spec := "evalSets", unfollowed := true, recurses := true, named := ["treenail/term.words"], apart := false, laid := [("treenail/term.words", laid_treenail_term_words)] }
def EvalSetsSaid : Prop := evalSetsRow.holds Tryd.pinned (OpenSpec.ofChange evalSetsSpec)

/-- ITS FALSE NEIGHBOUR: 'it returns false'. Refute it at one input. -/
def evalSetsWrong : ChangeSpec := { name := "evalSets", fn := fun _ => fun
  | [d1, d2, d3] => { results := [.lit (.bool false)], args := [d1, d2, d3] }
  | _ => none }
def EvalSetsWrongFalsely : Prop := evalSetsRow.holds Tryd.pinned (OpenSpec.ofChange evalSetsWrong)

/-- 'treenaillaw04.EvalTruths': WHATEVER THE INPUT: true; the input reads as it did. -/
def evalTruthsSpec : ChangeSpec := { name := "evalTruths", fn := fun _ => fun
  | [d1, d2] => { results := [.lit (.bool true)], args := [d1, d2] }
  | _ => none }
def evalTruthsRow : OpenClaim := { program := "ytelljholenkckaadoor", sum := "4c1f52c246695faa9ec60f3d94d593775050438e8a66d53ba12ff6fca1cd5e18", func := "treenail/treenaillaw04.EvalTruths", spec := "evalTruths", unfollowed := true, recurses := true, named := ["treenail/term.words"], loops := true, apart := false, laid := [("treenail/term.words", laid_treenail_term_words)] }
def EvalTruthsSaid : Prop := evalTruthsRow.holds Tryd.pinned (OpenSpec.ofChange evalTruthsSpec)

/-- ITS FALSE NEIGHBOUR: 'it returns false'. Refute it at one input. -/
def evalTruthsWrong : ChangeSpec := { name := "evalTruths", fn := fun _ => fun
  | [d1, d2] => { results := [.lit (.bool false)], args := [d1, d2] }
  | _ => none }
def EvalTruthsWrongFalsely : Prop := evalTruthsRow.holds Tryd.pinned (OpenSpec.ofChange evalTruthsWrong)

/-- 'treenaillaw04.EvalTotal': WHATEVER THE INPUT: true; the input reads as it did. -/
def evalTotalSpec : ChangeSpec := { name := "evalTotal", fn := fun _ => fun
  | [d1, d2] => { results := [.lit (.bool true)], args := [d1, d2] }
  | _ => none }
def evalTotalRow : OpenClaim := { program := "ytelljholenkckaadoor", sum := "4c1f52c246695faa9ec60f3d94d593775050438e8a66d53ba12ff6fca1cd5e18", func := "treenail/treenaillaw04.EvalTotal", spec := "evalTotal", unfollowed := true, recurses := true, named := ["treenail/term.words"], loops := true, apart := false, laid := [("treenail/term.words", laid_treenail_term_words)] }
def EvalTotalSaid : Prop := evalTotalRow.holds Tryd.pinned (OpenSpec.ofChange evalTotalSpec)

/-- ITS FALSE NEIGHBOUR: 'it returns false'. Refute it at one input. -/
def evalTotalWrong : ChangeSpec := { name := "evalTotal", fn := fun _ => fun
  | [d1, d2] => { results := [.lit (.bool false)], args := [d1, d2] }
  | _ => none }
def EvalTotalWrongFalsely : Prop := evalTotalRow.holds Tryd.pinned (OpenSpec.ofChange evalTotalWrong)

/-- 'treenaillaw04.EvalOthers': WHATEVER THE INPUT: true; the input reads as it did. -/
def evalOthersSpec : ChangeSpec := { name := "evalOthers", fn := fun _ => fun
  | [d1, d2, d3] => { results := [.lit (.bool true)], args := [d1, d2, d3] }
  | _ => none }
def evalOthersRow : OpenClaim := { program := "ytelljholenkckaadoor", sum := "4c1f52c246695faa9ec60f3d94d593775050438e8a66d53ba12ff6fca1cd5e18", func := "treenail/treenaillaw04.EvalOthers", spec := "evalOthers", unfollowed := true, recurses := true, named := ["treenail/term.words"], loops := true, apart := false, laid := [("treenail/term.words", laid_treenail_term_words)] }
def EvalOthersSaid : Prop := evalOthersRow.holds Tryd.pinned (OpenSpec.ofChange evalOthersSpec)

/-- ITS FALSE NEIGHBOUR: 'it returns false'. Refute it at one input. -/
def evalOthersWrong : ChangeSpec := { name := "evalOthers", fn := fun _ => fun
  | [d1, d2, d3] => { results := [.lit (.bool false)], args := [d1, d2, d3] }
  | _ => none }
def EvalOthersWrongFalsely : Prop := evalOthersRow.holds Tryd.pinned (OpenSpec.ofChange evalOthersWrong)

/- THE SECOND FORM. 'bulk': how many values and letters a reading holds, each counted each time it is reached (what is shared counts as often as it is met; a slice's spare places count too). A statement '..UptoSaid' is the law's where the arguments, and the package variables that the reading takes, are together of bulk at most 1048576: NARROWER than '..Said'. Prove '..Said' where nothing that the law and all that it calls make is longer than what came in: it says more and counts as full. Else prove '..UptoSaid'. A law counts once. -/
mutual
def uptoBulk {H : Type} : DataW H → Nat
  | .lit (.string bytes) => bytes.length + 1
  | .lit _ => 1
  | .nil => 1
  | .ptr d => uptoBulk d + 1
  | .slice elems spare => uptoBulkAll elems + uptoBulkAll spare + 1
  | .agg parts => uptoBulkAll parts + 1
  | .iface _ d => uptoBulk d + 1
  | .map entries => uptoBulkEntries entries + 1
  | .held _ => 1
def uptoBulkAll {H : Type} : List (DataW H) → Nat
  | [] => 0
  | d :: r => uptoBulk d + uptoBulkAll r
def uptoBulkEntries {H : Type} : List (Lit × DataW H) → Nat
  | [] => 0
  | x :: r => uptoBulkEntry x + uptoBulkEntries r
def uptoBulkEntry {H : Type} : Lit × DataW H → Nat
  | (.string bytes, d) => bytes.length + uptoBulk d + 1
  | (_, d) => uptoBulk d + 1
 end
def uptoSmall : (H : Type) → List (DataW H) → Bool := fun _ ds => decide (uptoBulkAll ds ≤ 1048576)
def OpenSpec.upto (s : _root_.Go.ChangeSpec) : _root_.Go.OpenSpec := { _root_.Go.OpenSpec.ofChange s with cond := some uptoSmall }

/-- 'treenaillaw04.EvalNumbers', WHERE WHAT IT READS IS OF BULK AT MOST 1048576: true; the input reads as it did. -/
def evalNumbersUptoRow : OpenClaim := { program := "ytelljholenkckaadoor", sum := "4c1f52c246695faa9ec60f3d94d593775050438e8a66d53ba12ff6fca1cd5e18", func := "treenail/treenaillaw04.EvalNumbers", spec := "evalNumbers", unfollowed := true, recurses := true, named := ["treenail/term.words"], loops := true, apart := false, laid := [("treenail/term.words", laid_treenail_term_words)], narrowed := true }
def EvalNumbersUptoSaid : Prop := evalNumbersUptoRow.holds Tryd.pinned (OpenSpec.upto evalNumbersSpec)

/-- 'treenaillaw04.EvalSets', WHERE WHAT IT READS IS OF BULK AT MOST 1048576: true; the input reads as it did. -/
def evalSetsUptoRow : OpenClaim := { program := "ytelljholenkckaadoor", sum := "4c1f52c246695faa9ec60f3d94d593775050438e8a66d53ba12ff6fca1cd5e18", func := "treenail/treenaillaw04.EvalSets", spec := "evalSets", unfollowed := true, recurses := true, named := ["treenail/term.words"], apart := false, laid := [("treenail/term.words", laid_treenail_term_words)], narrowed := true }
def EvalSetsUptoSaid : Prop := evalSetsUptoRow.holds Tryd.pinned (OpenSpec.upto evalSetsSpec)

/-- 'treenaillaw04.EvalTruths', WHERE WHAT IT READS IS OF BULK AT MOST 1048576: true; the input reads as it did. -/
def evalTruthsUptoRow : OpenClaim := { program := "ytelljholenkckaadoor", sum := "4c1f52c246695faa9ec60f3d94d593775050438e8a66d53ba12ff6fca1cd5e18", func := "treenail/treenaillaw04.EvalTruths", spec := "evalTruths", unfollowed := true, recurses := true, named := ["treenail/term.words"], loops := true, apart := false, laid := [("treenail/term.words", laid_treenail_term_words)], narrowed := true }
def EvalTruthsUptoSaid : Prop := evalTruthsUptoRow.holds Tryd.pinned (OpenSpec.upto evalTruthsSpec)

/-- 'treenaillaw04.EvalTotal', WHERE WHAT IT READS IS OF BULK AT MOST 1048576: true; the input reads as it did. -/
def evalTotalUptoRow : OpenClaim := { program := "ytelljholenkckaadoor", sum := "4c1f52c246695faa9ec60f3d94d593775050438e8a66d53ba12ff6fca1cd5e18", func := "treenail/treenaillaw04.EvalTotal", spec := "evalTotal", unfollowed := true, recurses := true, named := ["treenail/term.words"], loops := true, apart := false, laid := [("treenail/term.words", laid_treenail_term_words)], narrowed := true }
def EvalTotalUptoSaid : Prop := evalTotalUptoRow.holds Tryd.pinned (OpenSpec.upto evalTotalSpec)

/-- 'treenaillaw04.EvalOthers', WHERE WHAT IT READS IS OF BULK AT MOST 1048576: true; the input reads as it did. -/
def evalOthersUptoRow : OpenClaim := { program := "ytelljholenkckaadoor", sum := "4c1f52c246695faa9ec60f3d94d593775050438e8a66d53ba12ff6fca1cd5e18", func := "treenail/treenaillaw04.EvalOthers", spec := "evalOthers", unfollowed := true, recurses := true, named := ["treenail/term.words"], loops := true, apart := false, laid := [("treenail/term.words", laid_treenail_term_words)], narrowed := true }
def EvalOthersUptoSaid : Prop := evalOthersUptoRow.holds Tryd.pinned (OpenSpec.upto evalOthersSpec)

end Rows
end Go.Proofs.YtelljholenkckaaDoor
