/- Proved here: the law TrailSees returns true whatever its input, and leaves its input as it was; the listed package variable is tied to the program's text. Conditions: none. -/
import Derived.Test.YtbbmfemplmelhaaGreatDoorZTrailSeesG
import Derived.Test.YtbbmfemplmelhaaGreatDoorRows
import Derived.Test.YtbbmfemplmelhaaGreatDoorTie
import Derived.Test.YtbbmfemplmelhaaGreatDoorCards
import Derived.ProofKit
import Derived.LaidMore
import Derived.OpenShut
import Derived.Stop.Joined
import Derived.SevenTiedAt
namespace Go.Proofs.YtbbmfemplmelhaaGreatDoor
open Go.ChangeShapes Go.WideShapes Go.ChangeAt Go.WideElems Go.RowKit

theorem trailSees_own : ownKnob Tryz.prog.godebug = none := by kernel_rfl
theorem trailSees_laidOut : laidOutB Tryz.prog = true := by kernel_rfl
theorem trailSees_plain : AM.plainB Tryz.prog [3,4,22,23,24,25,41,73,74,75,76,77,79,80] = true := by kernel_rfl

/-- The door's own heap meets the condition. -/
theorem trailSees_door (os : Os) (args : Array Value) : laidMetH Tryz.prog Rows.trailSeesRow.laid ((World.doorLaid Tryz.prog 26 os).forCall (fun _ _ => 0) ⟨#[], args, []⟩).memory :=
  laidMetH_of_parts3 (fuel := 8) (laidMet_of_run' 8 (by kernel_rfl) (by kernel_rfl)) (by kernel_rfl) (by kernel_rfl)

set_option maxRecDepth 100000 in
theorem trailSees_lifted (os : Os) (started : os.Started) (H : Type) (enc : TypeId × Value → H) :
    ReturnsInHanded {} Tryz.checked os 6 .any (fun w args => (Rows.trailSeesSpec.pre enc Tryz.prog Tryz.f6 [] false w args ∧ laidMetH Tryz.prog Rows.trailSeesRow.laid w) ∧ sizedMet enc Tryz.prog Tryz.f6 (OpenSpec.ofChange Rows.trailSeesSpec) false w args)
      (Rows.trailSeesSpec.post enc Tryz.prog Tryz.f6 false true false false) := by
  refine returnsInHanded_of_change_and (C := Tryz.checked) (X := fun w _ => laidMetH Tryz.prog Rows.trailSeesRow.laid w) (fun _ _ _ hh h => h.of_heap hh) trailSees_own started (by kernel_rfl) Tryz.func6
    (ChangeSpec.witness_shaped (enc := enc) (C := Tryz.checked) (os := os) (X := fun w _ => laidMetH Tryz.prog Rows.trailSeesRow.laid w) false (World.doorLaid Tryz.prog 26 os) #[.agg #[.slice none 0 0, .slice none 0 0], .slice none 0 0] 8 rfl (World.shaped_of_RefB (by kernel_rfl) (by kernel_rfl)) (by kernel_rfl) (by kernel_rfl) (by kernel_rfl) (trailSees_door os _)) ?_
  intro W base args ds gs before hval0 hW _ _ hL _
  have hval : ∀ (j : Nat) t v, Tryz.f6.params[j]? = some t → args[j]? = some v → Value.okWide Tryz.prog W .any base t v := hval0
  refine AM.law_contract (P := Tryz.prog) (G := AM.gW) (ts := [25,41]) (S := [3,4,22,23,24,25,41,73,74,75,76,77,79,80]) trailSees_plain trailSees_laidOut (by kernel_rfl) (by decide) ?_ (bt := 4) (by kernel_rfl) Tryz.underlying4 rfl ?_ AM.trailsees_given (AM.gW_pin hL) hval hW
  · intro t ht
    have hall : ([25,41].all fun u => Tryz.prog.readableRec u && decide (u < Tryz.prog.types.size)) = true := by kernel_rfl
    simpa using List.all_eq_true.1 hall t ht
  · intro H ds hd
    match ds, hd with
    | [d0, d1], _ => rfl

theorem trailSees_holds : Rows.TrailSeesSaid :=
  OpenClaim.holds_of_wide 6 Tryz.f6 rfl rfl rfl rfl rfl rfl rfl ⟨rfl, rfl, rfl, rfl, rfl⟩ rfl rfl rfl rfl rfl (by kernel_rfl) Tryz.func6 (by kernel_rfl)
    (of_decide_eq_true (by kernel_rfl)) (by unfold Func.isWrapper; first | (rw [if_pos (by decide +kernel)]; kernel_rfl) | (rw [if_neg (by decide +kernel)]; exact ⟨rfl, rfl⟩))
    (fun os started H enc _ => trailSees_lifted os started H enc)

/-- THE TIED CARD. -/
theorem trailSees_card : Rows.TrailSeesCardSaid :=
  Claim7.holds_tied_plain_at .later [] [.widerDeep] true (true, "08108539d62ff9559162353465bc937047b74ddfd967a16eb96e475fe13b938c") false
    trailSees_holds (fun _ h => by cases h) (by kernel_rfl) (fun _ h => by cases h) trailSees_row_tie rfl ⟨rfl, rfl⟩ (by kernel_rfl) rfl
    (fun f fn hf hfn => by
      obtain rfl : f = 6 := Option.some.inj ((show Tryz.prog.funcNamed "treenail/treenaillaw08.TrailSees" = some 6 by kernel_rfl).symm.trans hf) |>.symm
      obtain rfl : fn = Tryz.f6 := (Option.some.inj (Tryz.func6.symm.trans hfn)).symm
      exact ⟨by kernel_rfl, fun j t ht => by
        rw [Tryz.params6] at ht
        have hm : t ∈ [25,41] := by simpa using Array.mem_of_getElem? ht
        have hall : ([25,41].all fun u => !Tryz.prog.wantsStandIn u) = true := by kernel_rfl
        exact (show Tryz.prog.wantsStandIn t = false by simpa using List.all_eq_true.1 hall t hm)⟩)
    (by kernel_rfl)
#print axioms trailSees_card
end Go.Proofs.YtbbmfemplmelhaaGreatDoor
