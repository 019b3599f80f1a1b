/- Proved here: the law ClockGoes returns true whatever its input, and leaves its input as it was. Conditions: none. -/
import Derived.Test.YtbbmfemplmelhaaZClockFullC
import Derived.Test.YtbbmfemplmelhaaRows
import Derived.ProofKit
namespace Go.Proofs.Ytbbmfemplmelhaa
open Go.ChangeShapes Go.WideShapes Go.ChangeAt Go.RowKit

theorem clockGoes_own : ownKnob Try.prog.godebug = none := by kernel_rfl
theorem clockGoes_laidOut : laidOutB Try.prog = true := by kernel_rfl
theorem clockGoes_plain : AM.plainB Try.prog [3, 28] = true := by kernel_rfl

set_option maxRecDepth 100000 in
theorem clockGoes_lifted (os : Os) (started : os.Started) (H : Type) (enc : TypeId × Value → H) :
    ReturnsInHanded {} Try.checked os 5 .any (Rows.clockGoesSpec.pre6 enc Try.prog Try.f5 Rows.clockGoesRow.domain false) (Rows.clockGoesSpec.post enc Try.prog Try.f5 false true false false) := by
  refine returnsInHanded_of_change (C := Try.checked) clockGoes_own started (by kernel_rfl) Try.func5
    (ChangeSpec.witness6 (enc := enc) (C := Try.checked) false ⟨#[], #[.int .i64 0, .slice none 0 0], []⟩ 8 (by kernel_rfl) (by kernel_rfl) (by kernel_rfl) (by kernel_rfl)) ?_
  intro W base args ds gs before hval0 hW hcnd _
  have hval : ∀ (j : Nat) t v, Try.f5.params[j]? = some t → args[j]? = some v → Value.okWide Try.prog W .any base t v := hval0
  refine AM.law_contract (P := Try.prog) (G := AM.gK) (ts := [3, 28]) (S := [3, 28]) clockGoes_plain clockGoes_laidOut (by kernel_rfl) (by decide) ?_ (bt := 4) (by kernel_rfl) Try.underlying4 rfl ?_ AM.goes_given AM.gK_pin hval hW
  · intro t ht
    have hall : ([3, 28].all fun u => Try.prog.readableRec u && decide (u < Try.prog.types.size)) = true := by kernel_rfl
    simpa using List.all_eq_true.1 hall t ht
  · intro H ds hd
    match ds, hd with
    | [d0, d1], _ => rfl

theorem clockGoes_holds : Rows.ClockGoesSaid :=
  OpenClaim.holds_of_wide 5 Try.f5 rfl rfl rfl rfl rfl rfl rfl ⟨rfl, rfl, rfl, rfl, rfl⟩ rfl rfl rfl rfl rfl (by kernel_rfl) Try.func5 (by kernel_rfl)
    (of_decide_eq_true (by kernel_rfl)) (by unfold Func.isWrapper; first | (rw [if_pos (by decide +kernel)]; kernel_rfl) | (rw [if_neg (by decide +kernel)]; exact ⟨rfl, rfl⟩))
    (fun os started H enc _ => clockGoes_lifted os started H enc)
#print axioms clockGoes_holds
end Go.Proofs.Ytbbmfemplmelhaa
