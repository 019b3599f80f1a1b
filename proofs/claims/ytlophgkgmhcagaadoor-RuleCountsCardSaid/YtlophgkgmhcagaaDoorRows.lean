/-
  NARROWER THAN 'FOR EVERY INPUT', by the rows' own cells (each row's printed sentence says how): RuleAll: loops, laid · RuleDoes: laid · RuleCounts: loops, laid · RuleFree: loops, laid.
  DERIVED. THE GIVEN ROWS OF THIS SEAT. 4 by the template 'for every input the law returns true; each argument reads behind the call as it read before'; 0 by the template 'total and deterministic' (their statements: YtlophgkgmhcagaaDoorTotals.lean).
  GIVEN WITH THE SEED: the statements are not yours to turn. If you find one false, say at which input.
  Laid BY PROGRAM, IN A SANDBOX (cutbox-rows.mjs): the forced cells as the released guide's own fill.sh prints them over the translation 9a13ccf2ce1bba39… (all of the seat's roots in one cut). By AI agents, Wed Nov 11 2026. No macro, syntax, notation, axiom, sorry.
-/
import Derived.Test.YtlophgkgmhcagaaDoorChecked
import GoSem.Claim
import GoSem.ClaimJoined
import GoSem.ClaimMapViews
import Derived.JoinedTies
import Derived.KernelRfl
namespace Go.Proofs.YtlophgkgmhcagaaDoor
/- THE CELL 'sum', in the pinned program and in every row, IS THE sha256 OF THE DUMP (.gsa) THAT YtlophgkgmhcagaaDoorProg.lean LOADS. Nothing in Lean hashes anything: it is a label: what it is worth is what the hold of that sum in a sandbox is worth. -/
noncomputable def Tryd.pinned : Pinned := { name := "ytlophgkgmhcagaadoor", sum := "9a13ccf2ce1bba3990d8e344fe24a5fcf603b2d1cb36445e925a36bf0df94e26", checked := Tryd.checked }
namespace Rows
def none {H : Type} : Left H := { results := [], args := [] }

/- WHAT THE LISTED PACKAGE-LEVEL VARIABLES READ AS WHEN THE CALL BEGINS. Each datum BY PROGRAM (the guide's laid-datum.mjs) off the statement by which the dump's own 'gosem.cut.vars' lays the variable. In a bare row this is a premise. The card (YtlophgkgmhcagaaDoorCards.lean) ties it to the program's text. -/
def laid_treenail_term_words {H : Type} : DataW H := .agg [.agg [.lit (.string []), .lit (.int .i64 0), .lit (.int .i64 0), .lit (.int .i64 0)], .agg [.lit (.string []), .lit (.int .i64 0), .lit (.int .i64 0), .lit (.int .i64 0)], .agg [.lit (.string []), .lit (.int .i64 0), .lit (.int .i64 0), .lit (.int .i64 0)], .agg [.lit (.string [110, 101, 103]), .lit (.int .i64 1), .lit (.int .i64 1), .lit (.int .i64 1)], .agg [.lit (.string [110, 111, 116]), .lit (.int .i64 1), .lit (.int .i64 2), .lit (.int .i64 2)], .agg [.lit (.string [97, 100, 100]), .lit (.int .i64 2), .lit (.int .i64 1), .lit (.int .i64 1)], .agg [.lit (.string [115, 117, 98]), .lit (.int .i64 2), .lit (.int .i64 1), .lit (.int .i64 1)], .agg [.lit (.string [109, 117, 108]), .lit (.int .i64 2), .lit (.int .i64 1), .lit (.int .i64 1)], .agg [.lit (.string [100, 105, 118]), .lit (.int .i64 2), .lit (.int .i64 1), .lit (.int .i64 1)], .agg [.lit (.string [109, 111, 100]), .lit (.int .i64 2), .lit (.int .i64 1), .lit (.int .i64 1)], .agg [.lit (.string [101, 113]), .lit (.int .i64 2), .lit (.int .i64 1), .lit (.int .i64 2)], .agg [.lit (.string [108, 116]), .lit (.int .i64 2), .lit (.int .i64 1), .lit (.int .i64 2)], .agg [.lit (.string [108, 101]), .lit (.int .i64 2), .lit (.int .i64 1), .lit (.int .i64 2)], .agg [.lit (.string [97, 110, 100]), .lit (.int .i64 2), .lit (.int .i64 2), .lit (.int .i64 2)], .agg [.lit (.string [111, 114]), .lit (.int .i64 2), .lit (.int .i64 2), .lit (.int .i64 2)]]

/-- 'treenaillaw14.RuleAll': WHATEVER THE INPUT: true; the input reads as it did. -/
def ruleAllSpec : ChangeSpec := { name := "ruleAll", fn := fun _ => fun
  | [d] => { results := [.lit (.bool true)], args := [d] }
  | _ => none }
def ruleAllRow : OpenClaim := { program := "ytlophgkgmhcagaadoor", sum := "9a13ccf2ce1bba3990d8e344fe24a5fcf603b2d1cb36445e925a36bf0df94e26", func := "treenail/treenaillaw14.RuleAll", spec := "ruleAll", unfollowed := true, recurses := true, named := ["treenail/term.words"], loops := true, apart := false, laid := [("treenail/term.words", laid_treenail_term_words)] }
def RuleAllSaid : Prop := ruleAllRow.holds Tryd.pinned (OpenSpec.ofChange ruleAllSpec)

/-- ITS FALSE NEIGHBOUR: 'it returns false'. Refute it at one input. -/
def ruleAllWrong : ChangeSpec := { name := "ruleAll", fn := fun _ => fun
  | [d] => { results := [.lit (.bool false)], args := [d] }
  | _ => none }
def RuleAllWrongFalsely : Prop := ruleAllRow.holds Tryd.pinned (OpenSpec.ofChange ruleAllWrong)

/-- 'treenaillaw14.RuleDoes': WHATEVER THE INPUT: true; the input reads as it did. -/
def ruleDoesSpec : ChangeSpec := { name := "ruleDoes", fn := fun _ => fun
  | [d1, d2] => { results := [.lit (.bool true)], args := [d1, d2] }
  | _ => none }
def ruleDoesRow : OpenClaim := { program := "ytlophgkgmhcagaadoor", sum := "9a13ccf2ce1bba3990d8e344fe24a5fcf603b2d1cb36445e925a36bf0df94e26", func := "treenail/treenaillaw14.RuleDoes", spec := "ruleDoes", unfollowed := true, recurses := true, named := ["treenail/term.words"], apart := false, laid := [("treenail/term.words", laid_treenail_term_words)] }
def RuleDoesSaid : Prop := ruleDoesRow.holds Tryd.pinned (OpenSpec.ofChange ruleDoesSpec)

/-- ITS FALSE NEIGHBOUR: 'it returns false'. Refute it at one input. -/
def ruleDoesWrong : ChangeSpec := { name := "ruleDoes", fn := fun _ => fun
  | [d1, d2] => { results := [.lit (.bool false)], args := [d1, d2] }
  | _ => none }
def RuleDoesWrongFalsely : Prop := ruleDoesRow.holds Tryd.pinned (OpenSpec.ofChange ruleDoesWrong)

/-- 'treenaillaw14.RuleCounts': WHATEVER THE INPUT: true; the input reads as it did. -/
def ruleCountsSpec : ChangeSpec := { name := "ruleCounts", fn := fun _ => fun
  | [d] => { results := [.lit (.bool true)], args := [d] }
  | _ => none }
def ruleCountsRow : OpenClaim := { program := "ytlophgkgmhcagaadoor", sum := "9a13ccf2ce1bba3990d8e344fe24a5fcf603b2d1cb36445e925a36bf0df94e26", func := "treenail/treenaillaw14.RuleCounts", spec := "ruleCounts", unfollowed := true, recurses := true, named := ["treenail/term.words"], loops := true, apart := false, laid := [("treenail/term.words", laid_treenail_term_words)] }
def RuleCountsSaid : Prop := ruleCountsRow.holds Tryd.pinned (OpenSpec.ofChange ruleCountsSpec)

/-- ITS FALSE NEIGHBOUR: 'it returns false'. Refute it at one input. -/
def ruleCountsWrong : ChangeSpec := { name := "ruleCounts", fn := fun _ => fun
  | [d] => { results := [.lit (.bool false)], args := [d] }
  | _ => none }
def RuleCountsWrongFalsely : Prop := ruleCountsRow.holds Tryd.pinned (OpenSpec.ofChange ruleCountsWrong)

/-- 'treenaillaw14.RuleFree': WHATEVER THE INPUT: true; the input reads as it did. -/
def ruleFreeSpec : ChangeSpec := { name := "ruleFree", fn := fun _ => fun
  | [d1, d2] => { results := [.lit (.bool true)], args := [d1, d2] }
  | _ => none }
def ruleFreeRow : OpenClaim := { program := "ytlophgkgmhcagaadoor", sum := "9a13ccf2ce1bba3990d8e344fe24a5fcf603b2d1cb36445e925a36bf0df94e26", func := "treenail/treenaillaw14.RuleFree", spec := "ruleFree", unfollowed := true, recurses := true, named := ["treenail/term.words"], loops := true, apart := false, laid := [("treenail/term.words", laid_treenail_term_words)] }
def RuleFreeSaid : Prop := ruleFreeRow.holds Tryd.pinned (OpenSpec.ofChange ruleFreeSpec)

/-- ITS FALSE NEIGHBOUR: 'it returns false'. Refute it at one input. -/
def ruleFreeWrong : ChangeSpec := { name := "ruleFree", fn := fun _ => fun
  | [d1, d2] => { results := [.lit (.bool false)], args := [d1, d2] }
  | _ => none }
def RuleFreeWrongFalsely : Prop := ruleFreeRow.holds Tryd.pinned (OpenSpec.ofChange ruleFreeWrong)

/- THE SECOND FORM. 'bulk': how many values and letters a reading holds, each counted each time it is reached (what is shared counts as often as it is met; a slice's spare places count too). A statement '..UptoSaid' is the law's where the arguments, and the package variables that the reading takes, are together of bulk at most 1048576: NARROWER than '..Said'. Prove '..Said' where nothing that the law and all that it calls make is longer than what came in: it says more and counts as full. Else prove '..UptoSaid'. A law counts once. -/
mutual
def uptoBulk {H : Type} : DataW H → Nat
  | .lit (.string bytes) => bytes.length + 1
  | .lit _ => 1
  | .nil => 1
  | .ptr d => uptoBulk d + 1
  | .slice elems spare => uptoBulkAll elems + uptoBulkAll spare + 1
  | .agg parts => uptoBulkAll parts + 1
  | .iface _ d => uptoBulk d + 1
  | .map entries => uptoBulkEntries entries + 1
  | .held _ => 1
def uptoBulkAll {H : Type} : List (DataW H) → Nat
  | [] => 0
  | d :: r => uptoBulk d + uptoBulkAll r
def uptoBulkEntries {H : Type} : List (Lit × DataW H) → Nat
  | [] => 0
  | x :: r => uptoBulkEntry x + uptoBulkEntries r
def uptoBulkEntry {H : Type} : Lit × DataW H → Nat
  | (.string bytes, d) => bytes.length + uptoBulk d + 1
  | (_, d) => uptoBulk d + 1
 end
def uptoSmall : (H : Type) → List (DataW H) → Bool := fun _ ds => decide (uptoBulkAll ds ≤ 1048576)
def OpenSpec.upto (s : _root_.Go.ChangeSpec) : _root_.Go.OpenSpec := { _root_.Go.OpenSpec.ofChange s with cond := some uptoSmall }

/-- 'treenaillaw14.RuleAll', WHERE WHAT IT READS IS OF BULK AT MOST 1048576: true; the input reads as it did. -/
def ruleAllUptoRow : OpenClaim := { program := "ytlophgkgmhcagaadoor", sum := "9a13ccf2ce1bba3990d8e344fe24a5fcf603b2d1cb36445e925a36bf0df94e26", func := "treenail/treenaillaw14.RuleAll", spec := "ruleAll", unfollowed := true, recurses := true, named := ["treenail/term.words"], loops := true, apart := false, laid := [("treenail/term.words", laid_treenail_term_words)], narrowed := true }
def RuleAllUptoSaid : Prop := ruleAllUptoRow.holds Tryd.pinned (OpenSpec.upto ruleAllSpec)

/-- 'treenaillaw14.RuleDoes', WHERE WHAT IT READS IS OF BULK AT MOST 1048576: true; the input reads as it did. -/
def ruleDoesUptoRow : OpenClaim := { program := "ytlophgkgmhcagaadoor", sum := "9a13ccf2ce1bba3990d8e344fe24a5fcf603b2d1cb36445e925a36bf0df94e26", func := "treenail/treenaillaw14.RuleDoes", spec := "ruleDoes", unfollowed := true, recurses := true, named := ["treenail/term.words"], apart := false, laid := [("treenail/term.words", laid_treenail_term_words)], narrowed := true }
def RuleDoesUptoSaid : Prop := ruleDoesUptoRow.holds Tryd.pinned (OpenSpec.upto ruleDoesSpec)

/-- 'treenaillaw14.RuleCounts', WHERE WHAT IT READS IS OF BULK AT MOST 1048576: true; the input reads as it did. -/
def ruleCountsUptoRow : OpenClaim := { program := "ytlophgkgmhcagaadoor", sum := "9a13ccf2ce1bba3990d8e344fe24a5fcf603b2d1cb36445e925a36bf0df94e26", func := "treenail/treenaillaw14.RuleCounts", spec := "ruleCounts", unfollowed := true, recurses := true, named := ["treenail/term.words"], loops := true, apart := false, laid := [("treenail/term.words", laid_treenail_term_words)], narrowed := true }
def RuleCountsUptoSaid : Prop := ruleCountsUptoRow.holds Tryd.pinned (OpenSpec.upto ruleCountsSpec)

/-- 'treenaillaw14.RuleFree', WHERE WHAT IT READS IS OF BULK AT MOST 1048576: true; the input reads as it did. -/
def ruleFreeUptoRow : OpenClaim := { program := "ytlophgkgmhcagaadoor", sum := "9a13ccf2ce1bba3990d8e344fe24a5fcf603b2d1cb36445e925a36bf0df94e26", func := "treenail/treenaillaw14.RuleFree", spec := "ruleFree", unfollowed := true, recurses := true, named := ["treenail/term.words"], loops := true, apart := false, laid := [("treenail/term.words", laid_treenail_term_words)], narrowed := true }
def RuleFreeUptoSaid : Prop := ruleFreeUptoRow.holds Tryd.pinned (OpenSpec.upto ruleFreeSpec)

end Rows
end Go.Proofs.YtlophgkgmhcagaaDoor
