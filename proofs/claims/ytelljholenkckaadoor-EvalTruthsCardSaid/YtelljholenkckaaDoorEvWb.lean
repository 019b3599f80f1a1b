/- The laws of numbers and truths, of typed cells. -/
import Derived.Test.YtelljholenkckaaDoorEvW
import Derived.Test.YtelljholenkckaaDoorEvOb
set_option linter.unusedVariables false
set_option linter.unusedSimpArgs false
namespace Go.Proofs.YtelljholenkckaaDoor.AM
open Go Go.Proofs

theorem numbers_given (xss : List (List PV)) (hl : xss.length = [24, 25].length) (ht : ∀ (j : Nat) t xs, [24, 25][j]? = some t → xss[j]? = some xs → ∃ fuel, Ty Tryd.prog fuel t xs) :
    ACalls Tryd.prog gW 3 (List.zipWith (argA Tryd.prog) [24, 25] xss) [] fun r h' => r = .b true ∧ h' = [] := by
  match xss, hl, ht with
  | [x0, x1], _, ht =>
    obtain ⟨_, h0⟩ := ht 0 24 x0 rfl rfl
    obtain ⟨_, h1⟩ := ht 1 25 x1 rfl rfl
    obtain ⟨t, e0⟩ := arg_term h0
    obtain ⟨v, _, hv, e1⟩ := arg_vec h1
    simp only [List.zipWith_cons_cons, List.zipWith_nil_left, e0, e1]
    exact numbers_law t v hv []

theorem truths_given (xss : List (List PV)) (hl : xss.length = [24, 25].length) (ht : ∀ (j : Nat) t xs, [24, 25][j]? = some t → xss[j]? = some xs → ∃ fuel, Ty Tryd.prog fuel t xs) :
    ACalls Tryd.prog gW 5 (List.zipWith (argA Tryd.prog) [24, 25] xss) [] fun r h' => r = .b true ∧ h' = [] := by
  match xss, hl, ht with
  | [x0, x1], _, ht =>
    obtain ⟨_, h0⟩ := ht 0 24 x0 rfl rfl
    obtain ⟨_, h1⟩ := ht 1 25 x1 rfl rfl
    obtain ⟨t, e0⟩ := arg_term h0
    obtain ⟨v, _, hv, e1⟩ := arg_vec h1
    simp only [List.zipWith_cons_cons, List.zipWith_nil_left, e0, e1]
    exact truths_law t v hv []
end Go.Proofs.YtelljholenkckaaDoor.AM
