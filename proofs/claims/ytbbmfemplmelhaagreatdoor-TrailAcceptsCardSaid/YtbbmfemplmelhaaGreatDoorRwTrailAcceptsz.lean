/- Proved here: the law TrailAccepts returns true whatever its input, and leaves its input as it was; the listed package variable is tied to the program's text. Conditions: none. -/
import Derived.Test.YtbbmfemplmelhaaGreatDoorZTrailSeesG
import Derived.Test.YtbbmfemplmelhaaGreatDoorRows
import Derived.Test.YtbbmfemplmelhaaGreatDoorTie
import Derived.Test.YtbbmfemplmelhaaGreatDoorCards
import Derived.ProofKit
import Derived.LaidMore
import Derived.OpenShut
import Derived.Stop.Joined
import Derived.SevenTiedAt
namespace Go.Proofs.YtbbmfemplmelhaaGreatDoor
open Go.ChangeShapes Go.WideShapes Go.ChangeAt Go.WideElems Go.RowKit

theorem trailAccepts_own : ownKnob Tryz.prog.godebug = none := by kernel_rfl
theorem trailAccepts_laidOut : laidOutB Tryz.prog = true := by kernel_rfl
theorem trailAccepts_plain : AM.plainB Tryz.prog [3,4,22,23,24,25,27,28,44,73,74,75,76,77,79,80] = true := by kernel_rfl

/-- The door's own heap meets the condition. -/
theorem trailAccepts_door (os : Os) (args : Array Value) : laidMetH Tryz.prog Rows.trailAcceptsRow.laid ((World.doorLaid Tryz.prog 26 os).forCall (fun _ _ => 0) ⟨#[], args, []⟩).memory :=
  laidMetH_of_parts3 (fuel := 8) (laidMet_of_run' 8 (by kernel_rfl) (by kernel_rfl)) (by kernel_rfl) (by kernel_rfl)

set_option maxRecDepth 100000 in
theorem trailAccepts_lifted (os : Os) (started : os.Started) (H : Type) (enc : TypeId × Value → H) :
    ReturnsInHanded {} Tryz.checked os 5 .any (fun w args => (Rows.trailAcceptsSpec.pre enc Tryz.prog Tryz.f5 [] false w args ∧ laidMetH Tryz.prog Rows.trailAcceptsRow.laid w) ∧ sizedMet enc Tryz.prog Tryz.f5 (OpenSpec.ofChange Rows.trailAcceptsSpec) false w args)
      (Rows.trailAcceptsSpec.post enc Tryz.prog Tryz.f5 false true false false) := by
  refine returnsInHanded_of_change_and (C := Tryz.checked) (X := fun w _ => laidMetH Tryz.prog Rows.trailAcceptsRow.laid w) (fun _ _ _ hh h => h.of_heap hh) trailAccepts_own started (by kernel_rfl) Tryz.func5
    (ChangeSpec.witness_shaped (enc := enc) (C := Tryz.checked) (os := os) (X := fun w _ => laidMetH Tryz.prog Rows.trailAcceptsRow.laid w) false (World.doorLaid Tryz.prog 26 os) #[.agg #[.slice none 0 0, .slice none 0 0], .slice none 0 0] 8 rfl (World.shaped_of_RefB (by kernel_rfl) (by kernel_rfl)) (by kernel_rfl) (by kernel_rfl) (by kernel_rfl) (trailAccepts_door os _)) ?_
  intro W base args ds gs before hval0 hW _ _ hL _
  have hval : ∀ (j : Nat) t v, Tryz.f5.params[j]? = some t → args[j]? = some v → Value.okWide Tryz.prog W .any base t v := hval0
  refine AM.law_contract (P := Tryz.prog) (G := AM.gW) (ts := [25,44]) (S := [3,4,22,23,24,25,27,28,44,73,74,75,76,77,79,80]) trailAccepts_plain trailAccepts_laidOut (by kernel_rfl) (by decide) ?_ (bt := 4) (by kernel_rfl) Tryz.underlying4 rfl ?_ AM.trailaccepts_given (AM.gW_pin hL) hval hW
  · intro t ht
    have hall : ([25,44].all fun u => Tryz.prog.readableRec u && decide (u < Tryz.prog.types.size)) = true := by kernel_rfl
    simpa using List.all_eq_true.1 hall t ht
  · intro H ds hd
    match ds, hd with
    | [d0, d1], _ => rfl

theorem trailAccepts_holds : Rows.TrailAcceptsSaid :=
  OpenClaim.holds_of_wide 5 Tryz.f5 rfl rfl rfl rfl rfl rfl rfl ⟨rfl, rfl, rfl, rfl, rfl⟩ rfl rfl rfl rfl rfl (by kernel_rfl) Tryz.func5 (by kernel_rfl)
    (of_decide_eq_true (by kernel_rfl)) (by unfold Func.isWrapper; first | (rw [if_pos (by decide +kernel)]; kernel_rfl) | (rw [if_neg (by decide +kernel)]; exact ⟨rfl, rfl⟩))
    (fun os started H enc _ => trailAccepts_lifted os started H enc)

/-- THE TIED CARD. -/
theorem trailAccepts_card : Rows.TrailAcceptsCardSaid :=
  Claim7.holds_tied_plain_at .later [] [.widerDeep] true (true, "08108539d62ff9559162353465bc937047b74ddfd967a16eb96e475fe13b938c") false
    trailAccepts_holds (fun _ h => by cases h) (by kernel_rfl) (fun _ h => by cases h) trailAccepts_row_tie rfl ⟨rfl, rfl⟩ (by kernel_rfl) rfl
    (fun f fn hf hfn => by
      obtain rfl : f = 5 := Option.some.inj ((show Tryz.prog.funcNamed "treenail/treenaillaw08.TrailAccepts" = some 5 by kernel_rfl).symm.trans hf) |>.symm
      obtain rfl : fn = Tryz.f5 := (Option.some.inj (Tryz.func5.symm.trans hfn)).symm
      exact ⟨by kernel_rfl, fun j t ht => by
        rw [Tryz.params5] at ht
        have hm : t ∈ [25,44] := by simpa using Array.mem_of_getElem? ht
        have hall : ([25,44].all fun u => !Tryz.prog.wantsStandIn u) = true := by kernel_rfl
        exact (show Tryz.prog.wantsStandIn t = false by simpa using List.all_eq_true.1 hall t hm)⟩)
    (by kernel_rfl)
#print axioms trailAccepts_card
end Go.Proofs.YtbbmfemplmelhaaGreatDoor
