/-
  NARROWER THAN 'FOR EVERY INPUT', by the rows' own cells (each row's printed sentence says how): RuleFree: loops, laid · TokenStates: loops, laid · TokenOne: loops, laid · TokenGoes: loops, laid · RuleGame: loops, laid.
  DERIVED. THE GIVEN ROWS OF THIS SEAT. 5 by the template 'for every input the law returns true; each argument reads behind the call as it read before'; 0 by the template 'total and deterministic' (their statements: YtjpphhcimpclpaaDoorTotals.lean).
  GIVEN WITH THE SEED: the statements are not yours to turn. If you find one false, say at which input.
  Laid BY PROGRAM, IN A SANDBOX (cutbox-rows.mjs): the forced cells as the released guide's own fill.sh prints them over the translation 17d656fbc20655af… (all of the seat's roots in one cut). By AI agents, Wed Nov 11 2026. No macro, syntax, notation, axiom, sorry.
-/
import Derived.Test.YtjpphhcimpclpaaDoorChecked
import GoSem.Claim
import GoSem.ClaimJoined
import GoSem.ClaimMapViews
import Derived.JoinedTies
import Derived.KernelRfl
namespace Go.Proofs.YtjpphhcimpclpaaDoor
/- THE CELL 'sum', in the pinned program and in every row, IS THE sha256 OF THE DUMP (.gsa) THAT YtjpphhcimpclpaaDoorProg.lean LOADS. Nothing in Lean hashes anything: it is a label: what it is worth is what the hold of that sum in a sandbox is worth. -/
noncomputable def Tryd.pinned : Pinned := { name := "ytjpphhcimpclpaadoor", sum := "17d656fbc20655afd934adac18cc2ef99e176f86fdc0d950da3d4a53706d2694", checked := Tryd.checked }
namespace Rows
def none {H : Type} : Left H := { results := [], args := [] }

/- WHAT THE LISTED PACKAGE-LEVEL VARIABLES READ AS WHEN THE CALL BEGINS. Each datum BY PROGRAM (the guide's laid-datum.mjs) off the statement by which the dump's own 'gosem.cut.vars' lays the variable. In a bare row this is a premise. The card (YtjpphhcimpclpaaDoorCards.lean) ties it to the program's text. -/
def laid_treenail_term_words {H : Type} : DataW H := .agg [.agg [.lit (.string []), .lit (.int .i64 0), .lit (.int .i64 0), .lit (.int .i64 0)], .agg [.lit (.string []), .lit (.int .i64 0), .lit (.int .i64 0), .lit (.int .i64 0)], .agg [.lit (.string []), .lit (.int .i64 0), .lit (.int .i64 0), .lit (.int .i64 0)], .agg [.lit (.string [110, 101, 103]), .lit (.int .i64 1), .lit (.int .i64 1), .lit (.int .i64 1)], .agg [.lit (.string [110, 111, 116]), .lit (.int .i64 1), .lit (.int .i64 2), .lit (.int .i64 2)], .agg [.lit (.string [97, 100, 100]), .lit (.int .i64 2), .lit (.int .i64 1), .lit (.int .i64 1)], .agg [.lit (.string [115, 117, 98]), .lit (.int .i64 2), .lit (.int .i64 1), .lit (.int .i64 1)], .agg [.lit (.string [109, 117, 108]), .lit (.int .i64 2), .lit (.int .i64 1), .lit (.int .i64 1)], .agg [.lit (.string [100, 105, 118]), .lit (.int .i64 2), .lit (.int .i64 1), .lit (.int .i64 1)], .agg [.lit (.string [109, 111, 100]), .lit (.int .i64 2), .lit (.int .i64 1), .lit (.int .i64 1)], .agg [.lit (.string [101, 113]), .lit (.int .i64 2), .lit (.int .i64 1), .lit (.int .i64 2)], .agg [.lit (.string [108, 116]), .lit (.int .i64 2), .lit (.int .i64 1), .lit (.int .i64 2)], .agg [.lit (.string [108, 101]), .lit (.int .i64 2), .lit (.int .i64 1), .lit (.int .i64 2)], .agg [.lit (.string [97, 110, 100]), .lit (.int .i64 2), .lit (.int .i64 2), .lit (.int .i64 2)], .agg [.lit (.string [111, 114]), .lit (.int .i64 2), .lit (.int .i64 2), .lit (.int .i64 2)]]

/-- 'treenaillaw14.RuleFree': WHATEVER THE INPUT: true; the input reads as it did. -/
def ruleFreeSpec : ChangeSpec := { name := "ruleFree", fn := fun _ => fun
  | [d1, d2] => { results := [.lit (.bool true)], args := [d1, d2] }
  | _ => none }
def ruleFreeRow : OpenClaim := { program := "ytjpphhcimpclpaadoor", sum := "17d656fbc20655afd934adac18cc2ef99e176f86fdc0d950da3d4a53706d2694", func := "treenail/treenaillaw14.RuleFree", spec := "ruleFree", unfollowed := true, recurses := true, named := ["treenail/term.words"], loops := true, apart := false, laid := [("treenail/term.words", laid_treenail_term_words)] }
def RuleFreeSaid : Prop := ruleFreeRow.holds Tryd.pinned (OpenSpec.ofChange ruleFreeSpec)

/-- ITS FALSE NEIGHBOUR: 'it returns false'. Refute it at one input. -/
def ruleFreeWrong : ChangeSpec := { name := "ruleFree", fn := fun _ => fun
  | [d1, d2] => { results := [.lit (.bool false)], args := [d1, d2] }
  | _ => none }
def RuleFreeWrongFalsely : Prop := ruleFreeRow.holds Tryd.pinned (OpenSpec.ofChange ruleFreeWrong)

/-- 'treenaillaw07.TokenStates': WHATEVER THE INPUT: true; the input reads as it did. -/
def tokenStatesSpec : ChangeSpec := { name := "tokenStates", fn := fun _ => fun
  | [d1, d2] => { results := [.lit (.bool true)], args := [d1, d2] }
  | _ => none }
def tokenStatesRow : OpenClaim := { program := "ytjpphhcimpclpaadoor", sum := "17d656fbc20655afd934adac18cc2ef99e176f86fdc0d950da3d4a53706d2694", func := "treenail/treenaillaw07.TokenStates", spec := "tokenStates", unfollowed := true, recurses := true, named := ["treenail/term.words"], loops := true, apart := false, laid := [("treenail/term.words", laid_treenail_term_words)] }
def TokenStatesSaid : Prop := tokenStatesRow.holds Tryd.pinned (OpenSpec.ofChange tokenStatesSpec)

/-- ITS FALSE NEIGHBOUR: 'it returns false'. Refute it at one input. -/
def tokenStatesWrong : ChangeSpec := { name := "tokenStates", fn := fun _ => fun
  | [d1, d2] => { results := [.lit (.bool false)], args := [d1, d2] }
  | _ => none }
def TokenStatesWrongFalsely : Prop := tokenStatesRow.holds Tryd.pinned (OpenSpec.ofChange tokenStatesWrong)

/-- 'treenaillaw07.TokenOne': WHATEVER THE INPUT: true; the input reads as it did. -/
def tokenOneSpec : ChangeSpec := { name := "tokenOne", fn := fun _ => fun
  | [d1, d2] => { results := [.lit (.bool true)], args := [d1, d2] }
  | _ => none }
def tokenOneRow : OpenClaim := { program := "ytjpphhcimpclpaadoor", sum := "17d656fbc20655afd934adac18cc2ef99e176f86fdc0d950da3d4a53706d2694", func := "treenail/treenaillaw07.TokenOne", spec := "tokenOne", unfollowed := true, recurses := true, named := ["treenail/term.words"], loops := true, apart := false, laid := [("treenail/term.words", laid_treenail_term_words)] }
def TokenOneSaid : Prop := tokenOneRow.holds Tryd.pinned (OpenSpec.ofChange tokenOneSpec)

/-- ITS FALSE NEIGHBOUR: 'it returns false'. Refute it at one input. -/
def tokenOneWrong : ChangeSpec := { name := "tokenOne", fn := fun _ => fun
  | [d1, d2] => { results := [.lit (.bool false)], args := [d1, d2] }
  | _ => none }
def TokenOneWrongFalsely : Prop := tokenOneRow.holds Tryd.pinned (OpenSpec.ofChange tokenOneWrong)

/-- 'treenaillaw07.TokenGoes': WHATEVER THE INPUT: true; the input reads as it did. -/
def tokenGoesSpec : ChangeSpec := { name := "tokenGoes", fn := fun _ => fun
  | [d1, d2] => { results := [.lit (.bool true)], args := [d1, d2] }
  | _ => none }
def tokenGoesRow : OpenClaim := { program := "ytjpphhcimpclpaadoor", sum := "17d656fbc20655afd934adac18cc2ef99e176f86fdc0d950da3d4a53706d2694", func := "treenail/treenaillaw07.TokenGoes", spec := "tokenGoes", unfollowed := true, recurses := true, named := ["treenail/term.words"], loops := true, apart := false, laid := [("treenail/term.words", laid_treenail_term_words)] }
def TokenGoesSaid : Prop := tokenGoesRow.holds Tryd.pinned (OpenSpec.ofChange tokenGoesSpec)

/-- ITS FALSE NEIGHBOUR: 'it returns false'. Refute it at one input. -/
def tokenGoesWrong : ChangeSpec := { name := "tokenGoes", fn := fun _ => fun
  | [d1, d2] => { results := [.lit (.bool false)], args := [d1, d2] }
  | _ => none }
def TokenGoesWrongFalsely : Prop := tokenGoesRow.holds Tryd.pinned (OpenSpec.ofChange tokenGoesWrong)

/-- 'treenaillaw14.RuleGame': WHATEVER THE INPUT: true; the input reads as it did. -/
def ruleGameSpec : ChangeSpec := { name := "ruleGame", fn := fun _ => fun
  | [d1, d2, d3] => { results := [.lit (.bool true)], args := [d1, d2, d3] }
  | _ => none }
def ruleGameRow : OpenClaim := { program := "ytjpphhcimpclpaadoor", sum := "17d656fbc20655afd934adac18cc2ef99e176f86fdc0d950da3d4a53706d2694", func := "treenail/treenaillaw14.RuleGame", spec := "ruleGame", unfollowed := true, recurses := true, named := ["treenail/term.words"], loops := true, apart := false, laid := [("treenail/term.words", laid_treenail_term_words)] }
def RuleGameSaid : Prop := ruleGameRow.holds Tryd.pinned (OpenSpec.ofChange ruleGameSpec)

/-- ITS FALSE NEIGHBOUR: 'it returns false'. Refute it at one input. -/
def ruleGameWrong : ChangeSpec := { name := "ruleGame", fn := fun _ => fun
  | [d1, d2, d3] => { results := [.lit (.bool false)], args := [d1, d2, d3] }
  | _ => none }
def RuleGameWrongFalsely : Prop := ruleGameRow.holds Tryd.pinned (OpenSpec.ofChange ruleGameWrong)

/- THE SECOND FORM. 'bulk': how many values and letters a reading holds, each counted each time it is reached (what is shared counts as often as it is met; a slice's spare places count too). A statement '..UptoSaid' is the law's where the arguments, and the package variables that the reading takes, are together of bulk at most 1048576: NARROWER than '..Said'. Prove '..Said' where nothing that the law and all that it calls make is longer than what came in: it says more and counts as full. Else prove '..UptoSaid'. A law counts once. -/
mutual
def uptoBulk {H : Type} : DataW H → Nat
  | .lit (.string bytes) => bytes.length + 1
  | .lit _ => 1
  | .nil => 1
  | .ptr d => uptoBulk d + 1
  | .slice elems spare => uptoBulkAll elems + uptoBulkAll spare + 1
  | .agg parts => uptoBulkAll parts + 1
  | .iface _ d => uptoBulk d + 1
  | .map entries => uptoBulkEntries entries + 1
  | .held _ => 1
def uptoBulkAll {H : Type} : List (DataW H) → Nat
  | [] => 0
  | d :: r => uptoBulk d + uptoBulkAll r
def uptoBulkEntries {H : Type} : List (Lit × DataW H) → Nat
  | [] => 0
  | x :: r => uptoBulkEntry x + uptoBulkEntries r
def uptoBulkEntry {H : Type} : Lit × DataW H → Nat
  | (.string bytes, d) => bytes.length + uptoBulk d + 1
  | (_, d) => uptoBulk d + 1
 end
def uptoSmall : (H : Type) → List (DataW H) → Bool := fun _ ds => decide (uptoBulkAll ds ≤ 1048576)
def OpenSpec.upto (s : _root_.Go.ChangeSpec) : _root_.Go.OpenSpec := { _root_.Go.OpenSpec.ofChange s with cond := some uptoSmall }

/-- 'treenaillaw14.RuleFree', WHERE WHAT IT READS IS OF BULK AT MOST 1048576: true; the input reads as it did. -/
def ruleFreeUptoRow : OpenClaim := { program := "ytjpphhcimpclpaadoor", sum := "17d656fbc20655afd934adac18cc2ef99e176f86fdc0d950da3d4a53706d2694", func := "treenail/treenaillaw14.RuleFree", spec := "ruleFree", unfollowed := true, recurses := true, named := ["treenail/term.words"], loops := true, apart := false, laid := [("treenail/term.words", laid_treenail_term_words)], narrowed := true }
def RuleFreeUptoSaid : Prop := ruleFreeUptoRow.holds Tryd.pinned (OpenSpec.upto ruleFreeSpec)

/-- 'treenaillaw07.TokenStates', WHERE WHAT IT READS IS OF BULK AT MOST 1048576: true; the input reads as it did. -/
def tokenStatesUptoRow : OpenClaim := { program := "ytjpphhcimpclpaadoor", sum := "17d656fbc20655afd934adac18cc2ef99e176f86fdc0d950da3d4a53706d2694", func := "treenail/treenaillaw07.TokenStates", spec := "tokenStates", unfollowed := true, recurses := true, named := ["treenail/term.words"], loops := true, apart := false, laid := [("treenail/term.words", laid_treenail_term_words)], narrowed := true }
def TokenStatesUptoSaid : Prop := tokenStatesUptoRow.holds Tryd.pinned (OpenSpec.upto tokenStatesSpec)

/-- 'treenaillaw07.TokenOne', WHERE WHAT IT READS IS OF BULK AT MOST 1048576: true; the input reads as it did. -/
def tokenOneUptoRow : OpenClaim := { program := "ytjpphhcimpclpaadoor", sum := "17d656fbc20655afd934adac18cc2ef99e176f86fdc0d950da3d4a53706d2694", func := "treenail/treenaillaw07.TokenOne", spec := "tokenOne", unfollowed := true, recurses := true, named := ["treenail/term.words"], loops := true, apart := false, laid := [("treenail/term.words", laid_treenail_term_words)], narrowed := true }
def TokenOneUptoSaid : Prop := tokenOneUptoRow.holds Tryd.pinned (OpenSpec.upto tokenOneSpec)

/-- 'treenaillaw07.TokenGoes', WHERE WHAT IT READS IS OF BULK AT MOST 1048576: true; the input reads as it did. -/
def tokenGoesUptoRow : OpenClaim := { program := "ytjpphhcimpclpaadoor", sum := "17d656fbc20655afd934adac18cc2ef99e176f86fdc0d950da3d4a53706d2694", func := "treenail/treenaillaw07.TokenGoes", spec := "tokenGoes", unfollowed := true, recurses := true, named := ["treenail/term.words"], loops := true, apart := false, laid := [("treenail/term.words", laid_treenail_term_words)], narrowed := true }
def TokenGoesUptoSaid : Prop := tokenGoesUptoRow.holds Tryd.pinned (OpenSpec.upto tokenGoesSpec)

/-- 'treenaillaw14.RuleGame', WHERE WHAT IT READS IS OF BULK AT MOST 1048576: true; the input reads as it did. -/
def ruleGameUptoRow : OpenClaim := { program := "ytjpphhcimpclpaadoor", sum := "17d656fbc20655afd934adac18cc2ef99e176f86fdc0d950da3d4a53706d2694", func := "treenail/treenaillaw14.RuleGame", spec := "ruleGame", unfollowed := true, recurses := true, named := ["treenail/term.words"], loops := true, apart := false, laid := [("treenail/term.words", laid_treenail_term_words)], narrowed := true }
def RuleGameUptoSaid : Prop := ruleGameUptoRow.holds Tryd.pinned (OpenSpec.upto ruleGameSpec)

end Rows
end Go.Proofs.YtjpphhcimpclpaaDoor
