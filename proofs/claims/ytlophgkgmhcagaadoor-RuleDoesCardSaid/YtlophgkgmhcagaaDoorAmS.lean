/- The abstract machine, part S: what typed cells are, told by the facts of their types. -/
import Derived.Test.YtlophgkgmhcagaaDoorAmO
import Derived.Test.YtlophgkgmhcagaaDoorAmR
set_option linter.unusedVariables false
set_option linter.unusedSimpArgs false
namespace Go.Proofs.YtlophgkgmhcagaaDoor.AM
open Go

section
variable {P : Program}

theorem ty_int {k : IntKind} {a b : Nat} {z : Option (List PV)} {t fuel : Nat} {xs : List PV} (ht : tinfo P t = some ⟨.int k, a, b, z⟩) (h : Ty P fuel t xs) : ∃ n, InRange k n ∧ xs = [.int k n] := by
  obtain ⟨_, d, _, h2, h3, _⟩ := tinfo_some ht
  have := kind_int h3; subst this
  cases fuel with
  | zero => exact h.elim
  | succ m => unfold Ty at h; rw [h2] at h; exact h

theorem ty_bool {a b : Nat} {z : Option (List PV)} {t fuel : Nat} {xs : List PV} (ht : tinfo P t = some ⟨.bool, a, b, z⟩) (h : Ty P fuel t xs) : ∃ x, xs = [.bool x] := by
  obtain ⟨_, d, _, h2, h3, _⟩ := tinfo_some ht
  have := kind_bool h3; subst this
  cases fuel with
  | zero => exact h.elim
  | succ m => unfold Ty at h; rw [h2] at h; exact h

theorem ty_slice {e a b : Nat} {z : Option (List PV)} {t fuel : Nat} {xs : List PV} (ht : tinfo P t = some ⟨.slice e, a, b, z⟩) (h : Ty P fuel t xs) : ∃ (m : Nat) (rows : List (List PV)), fuel = m + 1 ∧ xs = [.sl rows] ∧ ∀ row ∈ rows, Ty P m e row := by
  obtain ⟨_, d, _, h2, h3, _⟩ := tinfo_some ht
  have := kind_slice h3; subst this
  cases fuel with
  | zero => exact h.elim
  | succ m => unfold Ty at h; rw [h2] at h; obtain ⟨rows, h1, h2⟩ := h; exact ⟨m, rows, rfl, h1, h2⟩

theorem ty_array {n e a b : Nat} {z : Option (List PV)} {t fuel : Nat} {xs : List PV} (ht : tinfo P t = some ⟨.array n e, a, b, z⟩) (h : Ty P fuel t xs) : ∃ (m : Nat) (rows : List (List PV)), fuel = m + 1 ∧ rows.length = n ∧ xs = rows.flatMap id ∧ ∀ row ∈ rows, Ty P m e row := by
  obtain ⟨_, d, _, h2, h3, _⟩ := tinfo_some ht
  have := kind_array h3; subst this
  cases fuel with
  | zero => exact h.elim
  | succ m => unfold Ty at h; rw [h2] at h; obtain ⟨rows, h1, h2, h3⟩ := h; exact ⟨m, rows, rfl, h1, h2, h3⟩

theorem ty_struct {fs : List (Nat × Nat × Nat)} {a b : Nat} {z : Option (List PV)} {t fuel : Nat} {xs : List PV} (ht : tinfo P t = some ⟨.struct fs, a, b, z⟩) (h : Ty P fuel t xs) :
    ∃ (m : Nat) (rows : List (List PV)), fuel = m + 1 ∧ rows.length = fs.length ∧ xs = rows.flatMap id ∧ ∀ (i : Nat) f row, fs[i]? = some f → rows[i]? = some row → Ty P m f.2.2 row := by
  obtain ⟨_, d, _, h2, h3, _⟩ := tinfo_some ht
  obtain ⟨F, rfl, h4⟩ := kind_struct h3
  cases fuel with
  | zero => exact h.elim
  | succ m =>
    unfold Ty at h
    rw [h2] at h
    obtain ⟨rows, g1, g2, g3⟩ := h
    refine ⟨m, rows, rfl, by rw [h4]; simpa using g1, g2, fun i f row hf hr => ?_⟩
    rw [h4] at hf
    simp only [List.getElem?_map, Option.map_eq_some_iff] at hf
    obtain ⟨fd, hfd, rfl⟩ := hf
    exact g3 i fd row (by simpa using hfd) hr

/-- Rows of numbers. -/
theorem ty_ints {k : IntKind} {a b : Nat} {z : Option (List PV)} {e m : Nat} (ht : tinfo P e = some ⟨.int k, a, b, z⟩) : ∀ (rows : List (List PV)), (∀ row ∈ rows, Ty P m e row) → ∃ l : List Int, l.length = rows.length ∧ (∀ n ∈ l, InRange k n) ∧ rows = l.map fun n => [.int k n]
  | [], _ => ⟨[], rfl, by simp, rfl⟩
  | r :: rows, h => by
    obtain ⟨n, hn, rfl⟩ := ty_int ht (h r (by simp))
    obtain ⟨l, h1, h2, h3⟩ := ty_ints ht rows fun row hr => h row (by simp [hr])
    exact ⟨n :: l, by simp [h1], by simpa using ⟨hn, h2⟩, by simp [h3]⟩

theorem flat_ints {k : IntKind} (l : List Int) : (l.map fun n => [PV.int k n]).flatMap id = l.map (.int k) := by
  induction l with
  | nil => rfl
  | cons x r ih => simp only [List.map_cons, List.flatMap_cons, ih]; rfl

/-- An array of numbers. -/
theorem ty_intarr {k : IntKind} {a b a' b' n e t fuel : Nat} {z z' : Option (List PV)} {xs : List PV} (hta : tinfo P t = some ⟨.array n e, a, b, z⟩) (ht : tinfo P e = some ⟨.int k, a', b', z'⟩) (h : Ty P fuel t xs) :
    ∃ l : List Int, l.length = n ∧ (∀ x ∈ l, InRange k x) ∧ xs = l.map (.int k) := by
  obtain ⟨m, rows, rfl, h1, rfl, h3⟩ := ty_array hta h
  obtain ⟨l, g1, g2, g3⟩ := ty_ints ht rows h3
  exact ⟨l, by omega, g2, by rw [g3, flat_ints]⟩

theorem argA_at {i : TI} {t : Nat} (ht : tinfo P t = some i) (xs : List PV) : argA P t xs = if i.isAgg then .agg (xs.map .p) else match xs with | x :: _ => .p x | [] => .undef := by
  obtain ⟨_, d, _, h2, h3, _⟩ := tinfo_some ht
  have : aggT P t = i.isAgg := by
    unfold aggT TI.isAgg
    rw [h2, ← h3]
    cases d <;> rfl
  unfold argA
  rw [this]
  cases xs <;> rfl
end
end Go.Proofs.YtlophgkgmhcagaaDoor.AM
