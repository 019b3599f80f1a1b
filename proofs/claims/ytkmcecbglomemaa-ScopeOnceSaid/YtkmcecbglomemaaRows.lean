/-
  No cell of these rows narrows 'for every input' (looked for: loops, veiled, ifaces, maps, wideKeys, modest, calm, conditions, laid).
  DERIVED. THE GIVEN ROWS OF THIS SEAT. 4 by the template 'for every input the law returns true; each argument reads behind the call as it read before'; 0 by the template 'total and deterministic' (their statements: YtkmcecbglomemaaTotals.lean).
  GIVEN WITH THE SEED: the statements are not yours to turn. If you find one false, say at which input.
  Laid BY PROGRAM, IN A SANDBOX (cutbox-rows.mjs): the forced cells as the released guide's own fill.sh prints them over the translation 0581e887efe7d1ce… (all of the seat's roots in one cut). By AI agents, Wed Nov 11 2026. No macro, syntax, notation, axiom, sorry.
-/
import Derived.Test.YtkmcecbglomemaaChecked
import GoSem.Claim
import GoSem.ClaimJoined
import GoSem.ClaimMapViews
import Derived.JoinedTies
import Derived.KernelRfl
namespace Go.Proofs.Ytkmcecbglomemaa
/- THE CELL 'sum', in the pinned program and in every row, IS THE sha256 OF THE DUMP (.gsa) THAT YtkmcecbglomemaaProg.lean LOADS. Nothing in Lean hashes anything: it is a label: what it is worth is what the hold of that sum in a sandbox is worth. -/
noncomputable def Try.pinned : Pinned := { name := "ytkmcecbglomemaa", sum := "0581e887efe7d1ce1ad61f1e54f1ac4844411e750c558c59d5010d607a2b2470", checked := Try.checked }
namespace Rows
def none {H : Type} : Left H := { results := [], args := [] }

/-- 'treenaillaw22.ScopeCatches': WHATEVER THE INPUT: true; the input reads as it did. -/
def scopeCatchesSpec : ChangeSpec := { name := "scopeCatches", fn := fun _ => fun
  | [d1, d2, d3] => { results := [.lit (.bool true)], args := [d1, d2, d3] }
  | _ => none }
def scopeCatchesRow : OpenClaim := { program := "ytkmcecbglomemaa", sum := "0581e887efe7d1ce1ad61f1e54f1ac4844411e750c558c59d5010d607a2b2470", func := "treenail/treenaillaw22.ScopeCatches", spec := "scopeCatches", unfollowed := true, recurses := true, apart := false }
def ScopeCatchesSaid : Prop := scopeCatchesRow.holds Try.pinned (OpenSpec.ofChange scopeCatchesSpec)

/-- ITS FALSE NEIGHBOUR: 'it returns false'. Refute it at one input. -/
def scopeCatchesWrong : ChangeSpec := { name := "scopeCatches", fn := fun _ => fun
  | [d1, d2, d3] => { results := [.lit (.bool false)], args := [d1, d2, d3] }
  | _ => none }
def ScopeCatchesWrongFalsely : Prop := scopeCatchesRow.holds Try.pinned (OpenSpec.ofChange scopeCatchesWrong)

/-- 'treenaillaw22.ScopeOnce': WHATEVER THE INPUT: true; the input reads as it did. -/
def scopeOnceSpec : ChangeSpec := { name := "scopeOnce", fn := fun _ => fun
  | [d1, d2] => { results := [.lit (.bool true)], args := [d1, d2] }
  | _ => none }
def scopeOnceRow : OpenClaim := { program := "ytkmcecbglomemaa", sum := "0581e887efe7d1ce1ad61f1e54f1ac4844411e750c558c59d5010d607a2b2470", func := "treenail/treenaillaw22.ScopeOnce", spec := "scopeOnce", unfollowed := true, recurses := true, apart := false }
def ScopeOnceSaid : Prop := scopeOnceRow.holds Try.pinned (OpenSpec.ofChange scopeOnceSpec)

/-- ITS FALSE NEIGHBOUR: 'it returns false'. Refute it at one input. -/
def scopeOnceWrong : ChangeSpec := { name := "scopeOnce", fn := fun _ => fun
  | [d1, d2] => { results := [.lit (.bool false)], args := [d1, d2] }
  | _ => none }
def ScopeOnceWrongFalsely : Prop := scopeOnceRow.holds Try.pinned (OpenSpec.ofChange scopeOnceWrong)

/-- 'treenaillaw22.ScopeReverse': WHATEVER THE INPUT: true; the input reads as it did. -/
def scopeReverseSpec : ChangeSpec := { name := "scopeReverse", fn := fun _ => fun
  | [d1, d2, d3] => { results := [.lit (.bool true)], args := [d1, d2, d3] }
  | _ => none }
def scopeReverseRow : OpenClaim := { program := "ytkmcecbglomemaa", sum := "0581e887efe7d1ce1ad61f1e54f1ac4844411e750c558c59d5010d607a2b2470", func := "treenail/treenaillaw22.ScopeReverse", spec := "scopeReverse", unfollowed := true, recurses := true, apart := false }
def ScopeReverseSaid : Prop := scopeReverseRow.holds Try.pinned (OpenSpec.ofChange scopeReverseSpec)

/-- ITS FALSE NEIGHBOUR: 'it returns false'. Refute it at one input. -/
def scopeReverseWrong : ChangeSpec := { name := "scopeReverse", fn := fun _ => fun
  | [d1, d2, d3] => { results := [.lit (.bool false)], args := [d1, d2, d3] }
  | _ => none }
def ScopeReverseWrongFalsely : Prop := scopeReverseRow.holds Try.pinned (OpenSpec.ofChange scopeReverseWrong)

/-- 'treenaillaw22.ScopeNil': WHATEVER THE INPUT: true; the input reads as it did. -/
def scopeNilSpec : ChangeSpec := { name := "scopeNil", fn := fun _ => fun
  | [d] => { results := [.lit (.bool true)], args := [d] }
  | _ => none }
def scopeNilRow : OpenClaim := { program := "ytkmcecbglomemaa", sum := "0581e887efe7d1ce1ad61f1e54f1ac4844411e750c558c59d5010d607a2b2470", func := "treenail/treenaillaw22.ScopeNil", spec := "scopeNil", unfollowed := true, recurses := true, apart := false }
def ScopeNilSaid : Prop := scopeNilRow.holds Try.pinned (OpenSpec.ofChange scopeNilSpec)

/-- ITS FALSE NEIGHBOUR: 'it returns false'. Refute it at one input. -/
def scopeNilWrong : ChangeSpec := { name := "scopeNil", fn := fun _ => fun
  | [d] => { results := [.lit (.bool false)], args := [d] }
  | _ => none }
def ScopeNilWrongFalsely : Prop := scopeNilRow.holds Try.pinned (OpenSpec.ofChange scopeNilWrong)

/- THE SECOND FORM. 'bulk': how many values and letters a reading holds, each counted each time it is reached (what is shared counts as often as it is met; a slice's spare places count too). A statement '..UptoSaid' is the law's where the arguments, and the package variables that the reading takes, are together of bulk at most 1048576: NARROWER than '..Said'. Prove '..Said' where nothing that the law and all that it calls make is longer than what came in: it says more and counts as full. Else prove '..UptoSaid'. A law counts once. -/
mutual
def uptoBulk {H : Type} : DataW H → Nat
  | .lit (.string bytes) => bytes.length + 1
  | .lit _ => 1
  | .nil => 1
  | .ptr d => uptoBulk d + 1
  | .slice elems spare => uptoBulkAll elems + uptoBulkAll spare + 1
  | .agg parts => uptoBulkAll parts + 1
  | .iface _ d => uptoBulk d + 1
  | .map entries => uptoBulkEntries entries + 1
  | .held _ => 1
def uptoBulkAll {H : Type} : List (DataW H) → Nat
  | [] => 0
  | d :: r => uptoBulk d + uptoBulkAll r
def uptoBulkEntries {H : Type} : List (Lit × DataW H) → Nat
  | [] => 0
  | x :: r => uptoBulkEntry x + uptoBulkEntries r
def uptoBulkEntry {H : Type} : Lit × DataW H → Nat
  | (.string bytes, d) => bytes.length + uptoBulk d + 1
  | (_, d) => uptoBulk d + 1
 end
def uptoSmall : (H : Type) → List (DataW H) → Bool := fun _ ds => decide (uptoBulkAll ds ≤ 1048576)
def OpenSpec.upto (s : _root_.Go.ChangeSpec) : _root_.Go.OpenSpec := { _root_.Go.OpenSpec.ofChange s with cond := some uptoSmall }

/-- 'treenaillaw22.ScopeCatches', WHERE WHAT IT READS IS OF BULK AT MOST 1048576: true; the input reads as it did. -/
def scopeCatchesUptoRow : OpenClaim := { program := "ytkmcecbglomemaa", sum := "0581e887efe7d1ce1ad61f1e54f1ac4844411e750c558c59d5010d607a2b2470", func := "treenail/treenaillaw22.ScopeCatches", spec := "scopeCatches", unfollowed := true, recurses := true, apart := false, narrowed := true }
def ScopeCatchesUptoSaid : Prop := scopeCatchesUptoRow.holds Try.pinned (OpenSpec.upto scopeCatchesSpec)

/-- 'treenaillaw22.ScopeOnce', WHERE WHAT IT READS IS OF BULK AT MOST 1048576: true; the input reads as it did. -/
def scopeOnceUptoRow : OpenClaim := { program := "ytkmcecbglomemaa", sum := "0581e887efe7d1ce1ad61f1e54f1ac4844411e750c558c59d5010d607a2b2470", func := "treenail/treenaillaw22.ScopeOnce", spec := "scopeOnce", unfollowed := true, recurses := true, apart := false, narrowed := true }
def ScopeOnceUptoSaid : Prop := scopeOnceUptoRow.holds Try.pinned (OpenSpec.upto scopeOnceSpec)

/-- 'treenaillaw22.ScopeReverse', WHERE WHAT IT READS IS OF BULK AT MOST 1048576: true; the input reads as it did. -/
def scopeReverseUptoRow : OpenClaim := { program := "ytkmcecbglomemaa", sum := "0581e887efe7d1ce1ad61f1e54f1ac4844411e750c558c59d5010d607a2b2470", func := "treenail/treenaillaw22.ScopeReverse", spec := "scopeReverse", unfollowed := true, recurses := true, apart := false, narrowed := true }
def ScopeReverseUptoSaid : Prop := scopeReverseUptoRow.holds Try.pinned (OpenSpec.upto scopeReverseSpec)

/-- 'treenaillaw22.ScopeNil', WHERE WHAT IT READS IS OF BULK AT MOST 1048576: true; the input reads as it did. -/
def scopeNilUptoRow : OpenClaim := { program := "ytkmcecbglomemaa", sum := "0581e887efe7d1ce1ad61f1e54f1ac4844411e750c558c59d5010d607a2b2470", func := "treenail/treenaillaw22.ScopeNil", spec := "scopeNil", unfollowed := true, recurses := true, apart := false, narrowed := true }
def ScopeNilUptoSaid : Prop := scopeNilUptoRow.holds Try.pinned (OpenSpec.upto scopeNilSpec)

end Rows
end Go.Proofs.Ytkmcecbglomemaa
