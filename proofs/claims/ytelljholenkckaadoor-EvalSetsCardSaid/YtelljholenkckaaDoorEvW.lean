/- What the listed variable gives; numbers as arguments; the law of values with another one, of typed cells. -/
import Derived.Test.YtelljholenkckaaDoorEvV
import Derived.Test.YtelljholenkckaaDoorAmS
import Derived.Test.YtelljholenkckaaDoorRows
set_option linter.unusedVariables false
set_option linter.unusedSimpArgs false
namespace Go.Proofs.YtelljholenkckaaDoor.AM
open Go Go.Proofs Go.ChangeShapes Go.WideShapes Go.RowKit

theorem words_plain : plainB Tryd.prog [3, 9, 66, 67] = true := by kernel_rfl

theorem gW_pin {W : World} (h : laidMetH Tryd.prog [("treenail/term.words", Rows.laid_treenail_term_words)] W) : ∀ g cells, gW g = some cells → PinRel W (fun _ => False) cells g 0 := by
  intro g cells hg
  unfold gW at hg
  split at hg
  · rename_i e
    cases hg
    subst e
    rw [MakeChecks.laidMetH_plain _ _ _ (by kernel_rfl)] at h
    obtain ⟨ps, ⟨g0, t0, cs0, f0, p0, q0, hg0, ht0, hv0, hd0, _⟩, _⟩ := h
    have e : cellsD (Rows.laid_treenail_term_words : DataW Unit) = wcells := by kernel_rfl
    rw [← e]
    exact laid_pin words_plain (name := "treenail/term.words") (t0 := 67) (by kernel_rfl) (by kernel_rfl) (by decide) (by rw [e]; unfold wcells; simp) ⟨g0, t0, cs0, f0, _, _, p0, hg0, ht0, hv0, hd0⟩
  · cases hg

def vec4 (a b c d : Int) : Int → Int := fun i => if i = 0 then a else if i = 1 then b else if i = 2 then c else d

theorem arg_vec {fuel : Nat} {xs : List PV} (h : Ty Tryd.prog fuel 25 xs) : ∃ v : Int → Int, (∀ i, InRange .i64 (v i)) ∧ argA Tryd.prog 25 xs = aV v := by
  obtain ⟨l, hl, hr, rfl⟩ := ty_intarr T25 T3 h
  match l, hl, hr with
  | [a, b, c, d], _, hr =>
    refine ⟨vec4 a b c d, fun i => ?_, ?_⟩
    · unfold vec4; split; · exact hr _ (by simp)
      split; · exact hr _ (by simp)
      split <;> exact hr _ (by simp)
    · rw [argA_at T25]; simp [TI.isAgg, vec4]

theorem arg_num {fuel : Nat} {xs : List PV} (h : Ty Tryd.prog fuel 3 xs) : ∃ n : Int, InRange .i64 n ∧ argA Tryd.prog 3 xs = .i n := by
  obtain ⟨n, hn, rfl⟩ := ty_int T3 h
  exact ⟨n, hn, by rw [argA_at T3]; simp [TI.isAgg]⟩

theorem sets_given (xss : List (List PV)) (hl : xss.length = [25, 3, 3].length) (ht : ∀ (j : Nat) t xs, [25, 3, 3][j]? = some t → xss[j]? = some xs → ∃ fuel, Ty Tryd.prog fuel t xs) :
    ACalls Tryd.prog gW 4 (List.zipWith (argA Tryd.prog) [25, 3, 3] xss) [] fun r h' => r = .b true ∧ h' = [] := by
  match xss, hl, ht with
  | [x0, x1, x2], _, ht =>
    obtain ⟨_, h0⟩ := ht 0 25 x0 rfl rfl
    obtain ⟨_, h1⟩ := ht 1 3 x1 rfl rfl
    obtain ⟨_, h2⟩ := ht 2 3 x2 rfl rfl
    obtain ⟨v, _, e0⟩ := arg_vec h0
    obtain ⟨k, _, e1⟩ := arg_num h1
    obtain ⟨x, _, e2⟩ := arg_num h2
    simp only [List.zipWith_cons_cons, List.zipWith_nil_left, e0, e1, e2]
    exact sets_law v k x []
end Go.Proofs.YtelljholenkckaaDoor.AM
