/- Proved here: the law RuleAll returns true whatever its input, and leaves its input as it was; the listed package variable is tied to the program's text. Conditions: none. -/
import Derived.Test.YtlophgkgmhcagaaDoorZAllE
import Derived.Test.YtlophgkgmhcagaaDoorRows
import Derived.Test.YtlophgkgmhcagaaDoorTie
import Derived.Test.YtlophgkgmhcagaaDoorCards
import Derived.ProofKit
import Derived.LaidMore
import Derived.OpenShut
import Derived.Stop.Joined
import Derived.SevenTiedAt
namespace Go.Proofs.YtlophgkgmhcagaaDoor
open Go.ChangeShapes Go.WideShapes Go.ChangeAt Go.WideElems Go.RowKit

theorem ruleAll_own : ownKnob Tryd.prog.godebug = none := by kernel_rfl
theorem ruleAll_laidOut : laidOutB Tryd.prog = true := by kernel_rfl
theorem ruleAll_plain : AM.plainB Tryd.prog [3,4,22,23,25,51,53,55,58] = true := by kernel_rfl

/-- The door's own heap meets the condition. -/
theorem ruleAll_door (os : Os) (args : Array Value) : laidMetH Tryd.prog Rows.ruleAllRow.laid ((World.doorLaid Tryd.prog 26 os).forCall (fun _ _ => 0) ⟨#[], args, []⟩).memory :=
  laidMetH_of_parts3 (fuel := 8) (laidMet_of_run' 8 (by kernel_rfl) (by kernel_rfl)) (by kernel_rfl) (by kernel_rfl)

set_option maxRecDepth 100000 in
theorem ruleAll_lifted (os : Os) (started : os.Started) (H : Type) (enc : TypeId × Value → H) :
    ReturnsInHanded {} Tryd.checked os 3 .any (fun w args => (Rows.ruleAllSpec.pre enc Tryd.prog Tryd.f3 [] false w args ∧ laidMetH Tryd.prog Rows.ruleAllRow.laid w) ∧ sizedMet enc Tryd.prog Tryd.f3 (OpenSpec.ofChange Rows.ruleAllSpec) false w args)
      (Rows.ruleAllSpec.post enc Tryd.prog Tryd.f3 false true false false) := by
  refine returnsInHanded_of_change_and (C := Tryd.checked) (X := fun w _ => laidMetH Tryd.prog Rows.ruleAllRow.laid w) (fun _ _ _ hh h => h.of_heap hh) ruleAll_own started (by kernel_rfl) Tryd.func3
    (ChangeSpec.witness_shaped (enc := enc) (C := Tryd.checked) (os := os) (X := fun w _ => laidMetH Tryd.prog Rows.ruleAllRow.laid w) false (World.doorLaid Tryd.prog 26 os) #[.agg #[.slice none 0 0, .slice none 0 0]] 8 rfl (World.shaped_of_RefB (by kernel_rfl) (by kernel_rfl)) (by kernel_rfl) (by kernel_rfl) (by kernel_rfl) (ruleAll_door os _)) ?_
  intro W base args ds gs before hval0 hW _ _ hL _
  have hval : ∀ (j : Nat) t v, Tryd.f3.params[j]? = some t → args[j]? = some v → Value.okWide Tryd.prog W .any base t v := hval0
  refine AM.law_contract (P := Tryd.prog) (G := AM.gW) (ts := [25]) (S := [3,4,22,23,25,51,53,55,58]) ruleAll_plain ruleAll_laidOut (by kernel_rfl) (by decide) ?_ (bt := 4) (by kernel_rfl) Tryd.underlying4 rfl ?_ AM.all_given (AM.gW_pin hL) hval hW
  · intro t ht
    have hall : ([25].all fun u => Tryd.prog.readableRec u && decide (u < Tryd.prog.types.size)) = true := by kernel_rfl
    simpa using List.all_eq_true.1 hall t ht
  · intro H ds hd
    match ds, hd with
    | [d0], _ => rfl

theorem ruleAll_holds : Rows.RuleAllSaid :=
  OpenClaim.holds_of_wide 3 Tryd.f3 rfl rfl rfl rfl rfl rfl rfl ⟨rfl, rfl, rfl, rfl, rfl⟩ rfl rfl rfl rfl rfl (by kernel_rfl) Tryd.func3 (by kernel_rfl)
    (of_decide_eq_true (by kernel_rfl)) (by unfold Func.isWrapper; first | (rw [if_pos (by decide +kernel)]; kernel_rfl) | (rw [if_neg (by decide +kernel)]; exact ⟨rfl, rfl⟩))
    (fun os started H enc _ => ruleAll_lifted os started H enc)

/-- THE TIED CARD. -/
theorem ruleAll_card : Rows.RuleAllCardSaid :=
  Claim7.holds_tied_plain_at .later [] [.widerDeep] true (true, "848d0ef43525fbd72ee5c542851feeaee60c637a4a71d49ac27dad4a3b6483ff") false
    ruleAll_holds (fun _ h => by cases h) (by kernel_rfl) (fun _ h => by cases h) ruleAll_row_tie rfl ⟨rfl, rfl⟩ (by kernel_rfl) rfl
    (fun f fn hf hfn => by
      obtain rfl : f = 3 := Option.some.inj ((show Tryd.prog.funcNamed "treenail/treenaillaw14.RuleAll" = some 3 by kernel_rfl).symm.trans hf) |>.symm
      obtain rfl : fn = Tryd.f3 := (Option.some.inj (Tryd.func3.symm.trans hfn)).symm
      exact ⟨by kernel_rfl, fun j t ht => by
        rw [Tryd.params3] at ht
        have hm : t ∈ [25] := by simpa using Array.mem_of_getElem? ht
        have hall : ([25].all fun u => !Tryd.prog.wantsStandIn u) = true := by kernel_rfl
        exact (show Tryd.prog.wantsStandIn t = false by simpa using List.all_eq_true.1 hall t hm)⟩)
    (by kernel_rfl)
#print axioms ruleAll_card
end Go.Proofs.YtlophgkgmhcagaaDoor
