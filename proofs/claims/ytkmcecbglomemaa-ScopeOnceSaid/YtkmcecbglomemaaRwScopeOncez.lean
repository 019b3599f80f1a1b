/- Proved here: the law ScopeOnce returns true whatever its input, and leaves its input as it was. Conditions: none. -/
import Derived.Test.YtkmcecbglomemaaZScopeOnceF
import Derived.Test.YtkmcecbglomemaaRows
import Derived.ProofKit
namespace Go.Proofs.Ytkmcecbglomemaa
open Go.ChangeShapes Go.WideShapes Go.ChangeAt Go.RowKit

theorem scopeOnce_own : ownKnob Try.prog.godebug = none := by kernel_rfl
theorem scopeOnce_laidOut : laidOutB Try.prog = true := by kernel_rfl
theorem scopeOnce_plain : AM.plainB Try.prog [3, 4, 22, 23, 34, 35, 48, 49] = true := by kernel_rfl

set_option maxRecDepth 100000 in
theorem scopeOnce_lifted (os : Os) (started : os.Started) (H : Type) (enc : TypeId × Value → H) :
    ReturnsInHanded {} Try.checked os 4 .any (Rows.scopeOnceSpec.pre6 enc Try.prog Try.f4 Rows.scopeOnceRow.domain false) (Rows.scopeOnceSpec.post enc Try.prog Try.f4 false true false false) := by
  refine returnsInHanded_of_change (C := Try.checked) scopeOnce_own started (by kernel_rfl) Try.func4
    (ChangeSpec.witness6 (enc := enc) (C := Try.checked) false ⟨#[], #[.slice none 0 0, .slice none 0 0], []⟩ 8 (by kernel_rfl) (by kernel_rfl) (by kernel_rfl) (by kernel_rfl)) ?_
  intro W base args ds gs before hval0 hW hcnd _
  have hval : ∀ (j : Nat) t v, Try.f4.params[j]? = some t → args[j]? = some v → Value.okWide Try.prog W .any base t v := hval0
  refine AM.law_contract (P := Try.prog) (G := AM.gK) (ts := [22, 23]) (S := [3, 4, 22, 23, 34, 35, 48, 49]) scopeOnce_plain scopeOnce_laidOut (by kernel_rfl) (by decide) ?_ (bt := 4) (by kernel_rfl) Try.underlying4 rfl ?_ AM.once_given AM.gK_pin hval hW
  · intro t ht
    have hall : ([22, 23].all fun u => Try.prog.readableRec u && decide (u < Try.prog.types.size)) = true := by kernel_rfl
    simpa using List.all_eq_true.1 hall t ht
  · intro H ds hd
    match ds, hd with
    | [d0, d1], _ => rfl

theorem scopeOnce_holds : Rows.ScopeOnceSaid :=
  OpenClaim.holds_of_wide 4 Try.f4 rfl rfl rfl rfl rfl rfl rfl ⟨rfl, rfl, rfl, rfl, rfl⟩ rfl rfl rfl rfl rfl (by kernel_rfl) Try.func4 (by kernel_rfl)
    (of_decide_eq_true (by kernel_rfl)) (by unfold Func.isWrapper; first | (rw [if_pos (by decide +kernel)]; kernel_rfl) | (rw [if_neg (by decide +kernel)]; exact ⟨rfl, rfl⟩))
    (fun os started H enc _ => scopeOnce_lifted os started H enc)
#print axioms scopeOnce_holds
end Go.Proofs.Ytkmcecbglomemaa
