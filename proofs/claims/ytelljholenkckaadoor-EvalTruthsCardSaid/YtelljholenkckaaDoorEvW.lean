/- What the listed variable gives; numbers as arguments; the law of values with another one, of typed cells. -/
import Derived.Test.YtelljholenkckaaDoorEvV
import Derived.Test.YtelljholenkckaaDoorAmS
import Derived.Test.YtelljholenkckaaDoorRows
set_option linter.unusedVariables false
set_option linter.unusedSimpArgs false
namespace Go.Proofs.YtelljholenkckaaDoor.AM
open Go Go.Proofs Go.ChangeShapes Go.WideShapes Go.RowKit

theorem words_plain : plainB Tryd.prog [3, 9, 66, 67] = true := by kernel_rfl

theorem gW_pin {W : World} (h : laidMetH Tryd.prog [("treenail/term.words", Rows.laid_treenail_term_words)] W) : ∀ g cells, gW g = some cells → PinRel W (fun _ => False) cells g 0 := by
  intro g cells hg
  unfold gW at hg
  split at hg
  · rename_i e
    cases hg
    subst e
    rw [MakeChecks.laidMetH_plain _ _ _ (by kernel_rfl)] at h
    obtain ⟨ps, ⟨g0, t0, cs0, f0, p0, q0, hg0, ht0, hv0, hd0, _⟩, _⟩ := h
    have e : cellsD (Rows.laid_treenail_term_words : DataW Unit) = wcells := by kernel_rfl
    rw [← e]
    exact laid_pin words_plain (name := "treenail/term.words") (t0 := 67) (by kernel_rfl) (by kernel_rfl) (by decide) (by rw [e]; unfold wcells; simp) ⟨g0, t0, cs0, f0, _, _, p0, hg0, ht0, hv0, hd0⟩
  · cases hg

def vec4 (a b c d : Int) : Int → Int := fun i => if i = 0 then a else if i = 1 then b else if i = 2 then c else d

theorem vec4_num {a b c d : Int} (h : inV (vec4 a b c d) = true) : ∀ i, Num (vec4 a b c d i) := by
  have e0 : vec4 a b c d 0 = a := by simp [vec4]
  have e1 : vec4 a b c d 1 = b := by simp [vec4]
  have e2 : vec4 a b c d 2 = c := by simp [vec4]
  have e3 : vec4 a b c d 3 = d := by simp [vec4]
  unfold inV at h
  rw [e0, e1, e2, e3] at h
  simp only [inM, Bool.and_eq_true, decide_eq_true_eq] at h
  intro i
  unfold vec4 Num
  split
  · exact ⟨by omega, by omega⟩
  · split
    · exact ⟨by omega, by omega⟩
    · split <;> exact ⟨by omega, by omega⟩

theorem arg_vec {fuel : Nat} {xs : List PV} (h : Ty Tryd.prog fuel 25 xs) : ∃ v : Int → Int, (∀ i, InRange .i64 (v i)) ∧ (inV v = true → ∀ i, Num (v i)) ∧ argA Tryd.prog 25 xs = aV v := by
  obtain ⟨l, hl, hr, rfl⟩ := ty_intarr T25 T3 h
  match l, hl, hr with
  | [a, b, c, d], _, hr =>
    refine ⟨vec4 a b c d, fun i => ?_, vec4_num, ?_⟩
    · unfold vec4; split; · exact hr _ (by simp)
      split; · exact hr _ (by simp)
      split <;> exact hr _ (by simp)
    · rw [argA_at T25]; simp [TI.isAgg, vec4]

theorem arg_num {fuel : Nat} {xs : List PV} (h : Ty Tryd.prog fuel 3 xs) : ∃ n : Int, InRange .i64 n ∧ argA Tryd.prog 3 xs = .i n := by
  obtain ⟨n, hn, rfl⟩ := ty_int T3 h
  exact ⟨n, hn, by rw [argA_at T3]; simp [TI.isAgg]⟩

/-- Typed cells of a term are a term. -/
theorem term_of : ∀ (fuel : Nat) (xs : List PV), Ty Tryd.prog fuel 24 xs → ∃ t : Tm, xs = eT t
  | 0, xs, h => h.elim
  | fuel + 1, xs, h => by
    obtain ⟨m, rows, e, hl, rfl, hf⟩ := ty_struct T24 h
    match rows, hl with
    | [r0, r1, r2], _ =>
      have h0 : Ty Tryd.prog m 3 r0 := hf 0 _ r0 rfl rfl
      have h1 : Ty Tryd.prog m 3 r1 := hf 1 _ r1 rfl rfl
      have h2 : Ty Tryd.prog m 22 r2 := hf 2 _ r2 rfl rfl
      obtain ⟨o, _, rfl⟩ := ty_int T3 h0
      obtain ⟨n, _, rfl⟩ := ty_int T3 h1
      obtain ⟨m', rows, e2, rfl, hr⟩ := ty_slice T22 h2
      have key : ∀ rows : List (List PV), (∀ row ∈ rows, Ty Tryd.prog m' 24 row) → ∃ ks : List Tm, rows = ks.map eT := by
        intro rows
        induction rows with
        | nil => intro _; exact ⟨[], rfl⟩
        | cons r rs ih =>
          intro hh
          obtain ⟨t, ht⟩ := term_of m' r (hh r (by simp))
          obtain ⟨ks, hks⟩ := ih fun row hrow => hh row (by simp [hrow])
          exact ⟨t :: ks, by rw [ht, hks]; rfl⟩
      obtain ⟨ks, hks⟩ := key rows hr
      refine ⟨.mk o n ks, ?_⟩
      rw [hks]
      simp [eT]
termination_by fuel => fuel
decreasing_by omega

theorem arg_term {fuel : Nat} {xs : List PV} (h : Ty Tryd.prog fuel 24 xs) : ∃ t : Tm, argA Tryd.prog 24 xs = aT t := by
  obtain ⟨t, rfl⟩ := term_of fuel xs h
  refine ⟨t, ?_⟩
  rw [argA_at T24, eT_eq]
  rfl

theorem arg_two {fuel : Nat} {xs : List PV} (h : Ty Tryd.prog fuel 48 xs) : ∃ a b : Int, argA Tryd.prog 48 xs = .agg [.i a, .i b] := by
  obtain ⟨l, hl, hr, rfl⟩ := ty_intarr T48 T3 h
  match l, hl with
  | [a, b], _ => exact ⟨a, b, by rw [argA_at T48]; rfl⟩

theorem sets_given (xss : List (List PV)) (hl : xss.length = [25, 3, 3].length) (ht : ∀ (j : Nat) t xs, [25, 3, 3][j]? = some t → xss[j]? = some xs → ∃ fuel, Ty Tryd.prog fuel t xs) :
    ACalls Tryd.prog gW 4 (List.zipWith (argA Tryd.prog) [25, 3, 3] xss) [] fun r h' => r = .b true ∧ h' = [] := by
  match xss, hl, ht with
  | [x0, x1, x2], _, ht =>
    obtain ⟨_, h0⟩ := ht 0 25 x0 rfl rfl
    obtain ⟨_, h1⟩ := ht 1 3 x1 rfl rfl
    obtain ⟨_, h2⟩ := ht 2 3 x2 rfl rfl
    obtain ⟨v, _, _, e0⟩ := arg_vec h0
    obtain ⟨k, _, e1⟩ := arg_num h1
    obtain ⟨x, _, e2⟩ := arg_num h2
    simp only [List.zipWith_cons_cons, List.zipWith_nil_left, e0, e1, e2]
    exact sets_law v k x []
end Go.Proofs.YtelljholenkckaaDoor.AM
