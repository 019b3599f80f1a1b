/- The laws of right terms and of variables that do not stand in a term, of typed cells. -/
import Derived.Test.YtelljholenkckaaDoorEvW
import Derived.Test.YtelljholenkckaaDoorEvZ
set_option linter.unusedVariables false
set_option linter.unusedSimpArgs false
namespace Go.Proofs.YtelljholenkckaaDoor.AM
open Go Go.Proofs

theorem total_given (xss : List (List PV)) (hl : xss.length = [24, 25].length) (ht : ∀ (j : Nat) t xs, [24, 25][j]? = some t → xss[j]? = some xs → ∃ fuel, Ty Tryd.prog fuel t xs) :
    ACalls Tryd.prog gW 6 (List.zipWith (argA Tryd.prog) [24, 25] xss) [] fun r h' => r = .b true ∧ h' = [] := by
  match xss, hl, ht with
  | [x0, x1], _, ht =>
    obtain ⟨_, h0⟩ := ht 0 24 x0 rfl rfl
    obtain ⟨_, h1⟩ := ht 1 25 x1 rfl rfl
    obtain ⟨t, e0⟩ := arg_term h0
    obtain ⟨v, _, hv, e1⟩ := arg_vec h1
    simp only [List.zipWith_cons_cons, List.zipWith_nil_left, e0, e1]
    exact total_law t v hv []

theorem others_given (xss : List (List PV)) (hl : xss.length = [24, 25, 48].length) (ht : ∀ (j : Nat) t xs, [24, 25, 48][j]? = some t → xss[j]? = some xs → ∃ fuel, Ty Tryd.prog fuel t xs) :
    ACalls Tryd.prog gW 7 (List.zipWith (argA Tryd.prog) [24, 25, 48] xss) [] fun r h' => r = .b true ∧ h' = [] := by
  match xss, hl, ht with
  | [x0, x1, x2], _, ht =>
    obtain ⟨_, h0⟩ := ht 0 24 x0 rfl rfl
    obtain ⟨_, h1⟩ := ht 1 25 x1 rfl rfl
    obtain ⟨_, h2⟩ := ht 2 48 x2 rfl rfl
    obtain ⟨t, e0⟩ := arg_term h0
    obtain ⟨v, _, hv, e1⟩ := arg_vec h1
    obtain ⟨a, b, e2⟩ := arg_two h2
    simp only [List.zipWith_cons_cons, List.zipWith_nil_left, e0, e1, e2]
    exact others_law t v a b hv []
end Go.Proofs.YtelljholenkckaaDoor.AM
