/- Proved here: the law RuleGame returns true whatever its input, and leaves its input as it was; the listed package variable is tied to the program's text. Conditions: none. -/
import Derived.Test.YtjpphhcimpclpaaDoorZRuleGameF
import Derived.Test.YtjpphhcimpclpaaDoorRows
import Derived.Test.YtjpphhcimpclpaaDoorTie
import Derived.Test.YtjpphhcimpclpaaDoorCards
import Derived.ProofKit
import Derived.LaidMore
import Derived.OpenShut
import Derived.Stop.Joined
import Derived.SevenTiedAt
namespace Go.Proofs.YtjpphhcimpclpaaDoor
open Go.ChangeShapes Go.WideShapes Go.ChangeAt Go.WideElems Go.RowKit

theorem ruleGame_own : ownKnob Tryd.prog.godebug = none := by kernel_rfl
theorem ruleGame_laidOut : laidOutB Tryd.prog = true := by kernel_rfl
theorem ruleGame_plain : AM.plainB Tryd.prog [3,4,22,23,24,25,26,27,28,29,56,57,58,59,60,70,71] = true := by kernel_rfl

/-- The door's own heap meets the condition. -/
theorem ruleGame_door (os : Os) (args : Array Value) : laidMetH Tryd.prog Rows.ruleGameRow.laid ((World.doorLaid Tryd.prog 26 os).forCall (fun _ _ => 0) ⟨#[], args, []⟩).memory :=
  laidMetH_of_parts3 (fuel := 8) (laidMet_of_run' 8 (by kernel_rfl) (by kernel_rfl)) (by kernel_rfl) (by kernel_rfl)

set_option maxRecDepth 100000 in
theorem ruleGame_lifted (os : Os) (started : os.Started) (H : Type) (enc : TypeId × Value → H) :
    ReturnsInHanded {} Tryd.checked os 7 .any (fun w args => (Rows.ruleGameSpec.pre enc Tryd.prog Tryd.f7 [] false w args ∧ laidMetH Tryd.prog Rows.ruleGameRow.laid w) ∧ sizedMet enc Tryd.prog Tryd.f7 (OpenSpec.ofChange Rows.ruleGameSpec) false w args)
      (Rows.ruleGameSpec.post enc Tryd.prog Tryd.f7 false true false false) := by
  refine returnsInHanded_of_change_and (C := Tryd.checked) (X := fun w _ => laidMetH Tryd.prog Rows.ruleGameRow.laid w) (fun _ _ _ hh h => h.of_heap hh) ruleGame_own started (by kernel_rfl) Tryd.func7
    (ChangeSpec.witness_shaped (enc := enc) (C := Tryd.checked) (os := os) (X := fun w _ => laidMetH Tryd.prog Rows.ruleGameRow.laid w) false (World.doorLaid Tryd.prog 26 os) #[.agg #[.slice none 0 0, .slice none 0 0], .agg #[.int .i64 0, .int .i64 0, .int .i64 0, .int .i64 0, .int .i64 0, .int .i64 0, .int .i64 0, .int .i64 0, .int .i64 0, .int .i64 0, .int .i64 0, .int .i64 0, .int .i64 0, .int .i64 0, .int .i64 0, .int .i64 0, .int .i64 0, .int .i64 0, .int .i64 0, .int .i64 0, .int .i64 0, .int .i64 0, .int .i64 0, .int .i64 0, .int .i64 0, .int .i64 0, .int .i64 0, .int .i64 0, .int .i64 0, .int .i64 0, .int .i64 0, .int .i64 0, .int .i64 0, .int .i64 0, .int .i64 0, .int .i64 0, .int .i64 0, .int .i64 0, .int .i64 0, .int .i64 0, .int .i64 0, .int .i64 0, .int .i64 0, .int .i64 0, .int .i64 0, .int .i64 0, .int .i64 0, .int .i64 0, .int .i64 0], .int .i64 0] 8 rfl (World.shaped_of_RefB (by kernel_rfl) (by kernel_rfl)) (by kernel_rfl) (by kernel_rfl) (by kernel_rfl) (ruleGame_door os _)) ?_
  intro W base args ds gs before hval0 hW _ _ hL _
  have hval : ∀ (j : Nat) t v, Tryd.f7.params[j]? = some t → args[j]? = some v → Value.okWide Tryd.prog W .any base t v := hval0
  refine AM.law_contract (P := Tryd.prog) (G := AM.gW) (ts := [25,29,3]) (S := [3,4,22,23,24,25,26,27,28,29,56,57,58,59,60,70,71]) ruleGame_plain ruleGame_laidOut (by kernel_rfl) (by decide) ?_ (bt := 4) (by kernel_rfl) Tryd.underlying4 rfl ?_ AM.game_given (AM.gW_pin hL) hval hW
  · intro t ht
    have hall : ([25,29,3].all fun u => Tryd.prog.readableRec u && decide (u < Tryd.prog.types.size)) = true := by kernel_rfl
    simpa using List.all_eq_true.1 hall t ht
  · intro H ds hd
    match ds, hd with
    | [d0, d1, d2], _ => rfl

theorem ruleGame_holds : Rows.RuleGameSaid :=
  OpenClaim.holds_of_wide 7 Tryd.f7 rfl rfl rfl rfl rfl rfl rfl ⟨rfl, rfl, rfl, rfl, rfl⟩ rfl rfl rfl rfl rfl (by kernel_rfl) Tryd.func7 (by kernel_rfl)
    (of_decide_eq_true (by kernel_rfl)) (by unfold Func.isWrapper; first | (rw [if_pos (by decide +kernel)]; kernel_rfl) | (rw [if_neg (by decide +kernel)]; exact ⟨rfl, rfl⟩))
    (fun os started H enc _ => ruleGame_lifted os started H enc)

/-- THE TIED CARD. -/
theorem ruleGame_card : Rows.RuleGameCardSaid :=
  Claim7.holds_tied_plain_at .later [] [.widerDeep] true (true, "dc7de72cdcca6b48d21a631e33d732f1320867a395b20b33f382ae848b06b371") false
    ruleGame_holds (fun _ h => by cases h) (by kernel_rfl) (fun _ h => by cases h) ruleGame_row_tie rfl ⟨rfl, rfl⟩ (by kernel_rfl) rfl
    (fun f fn hf hfn => by
      obtain rfl : f = 7 := Option.some.inj ((show Tryd.prog.funcNamed "treenail/treenaillaw14.RuleGame" = some 7 by kernel_rfl).symm.trans hf) |>.symm
      obtain rfl : fn = Tryd.f7 := (Option.some.inj (Tryd.func7.symm.trans hfn)).symm
      exact ⟨by kernel_rfl, fun j t ht => by
        rw [Tryd.params7] at ht
        have hm : t ∈ [25,29,3] := by simpa using Array.mem_of_getElem? ht
        have hall : ([25,29,3].all fun u => !Tryd.prog.wantsStandIn u) = true := by kernel_rfl
        exact (show Tryd.prog.wantsStandIn t = false by simpa using List.all_eq_true.1 hall t hm)⟩)
    (by kernel_rfl)
#print axioms ruleGame_card
end Go.Proofs.YtjpphhcimpclpaaDoor
