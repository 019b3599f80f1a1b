/- Terms, as trees. -/
-- TYPES: 3 4 22 24 25 31
import Derived.Test.YtelljholenkckaaDoorAmU
import Derived.Test.YtelljholenkckaaDoorAmT
set_option linter.unusedVariables false
set_option linter.unusedSimpArgs false
namespace Go.Proofs.YtelljholenkckaaDoor.AM
open Go Go.Proofs

inductive Tm where
  | mk (op n : Int) (kids : List Tm)

namespace Tm
def op : Tm → Int | .mk o _ _ => o
def n : Tm → Int | .mk _ n _ => n
def kids : Tm → List Tm | .mk _ _ k => k
end Tm

def eT : Tm → List PV
  | .mk o n ks => [.int .i64 o, .int .i64 n, .sl (ks.map eT)]

theorem eT_eq (t : Tm) : eT t = [.int .i64 t.op, .int .i64 t.n, .sl (t.kids.map eT)] := by
  cases t; simp [eT, Tm.op, Tm.n, Tm.kids]

theorem Tm.kid_lt {t k : Tm} (h : k ∈ t.kids) : SizeOf.sizeOf k < SizeOf.sizeOf t := by
  cases t with
  | mk o n ks =>
    have := List.sizeOf_lt_of_mem h
    simp only [Tm.kids, Tm.mk.sizeOf_spec] at *
    omega

theorem Tm.ind {p : Tm → Prop} (h : ∀ t, (∀ k ∈ t.kids, p k) → p t) (t : Tm) : p t :=
  h t fun k hk => Tm.ind h k
termination_by SizeOf.sizeOf t
decreasing_by exact Tm.kid_lt hk

abbrev aT (t : Tm) : AV := .agg [.i t.op, .i t.n, .p (.sl (t.kids.map eT))]

/-- As deep as d at most, and no term of more than 100 kids. -/
inductive Tm.Ok : Nat → Tm → Prop where
  | mk (d : Nat) (t : Tm) (hk : t.kids.length ≤ 100) (h : ∀ k ∈ t.kids, Tm.Ok d k) : Tm.Ok (d + 1) t

/-- A property of terms that are not too large. -/
theorem Tm.Ok.ind {p : Nat → Tm → Prop} (h : ∀ d t, t.kids.length ≤ 100 → (∀ k ∈ t.kids, Tm.Ok d k ∧ p d k) → p (d + 1) t) {d : Nat} {t : Tm} (ht : Tm.Ok d t) : p d t := by
  induction ht with
  | mk d t hk hh ih => exact h d t hk fun k hm => ⟨hh k hm, ih k hm⟩

def Tm.depth : Tm → Nat
  | .mk _ _ ks => (ks.map Tm.depth).foldl max 0 + 1

theorem Tm.depth_eq (t : Tm) : t.depth = (t.kids.map Tm.depth).foldl max 0 + 1 := by
  cases t; simp [Tm.depth, Tm.kids]

theorem foldl_max_le {l : List Nat} {d : Nat} (h : ∀ x ∈ l, x ≤ d) : ∀ a, a ≤ d → l.foldl max a ≤ d := by
  induction l with
  | nil => intro a ha; exact ha
  | cons x r ih => intro a ha; exact ih (fun y hy => h y (by simp [hy])) _ (by have := h x (by simp); omega)

theorem Tm.Ok.depth_le {d : Nat} {t : Tm} (h : Tm.Ok d t) : t.depth ≤ d := by
  refine Tm.Ok.ind (p := fun d t => t.depth ≤ d) (fun d t hk hh => ?_) h
  rw [Tm.depth_eq]
  have := foldl_max_le (l := t.kids.map Tm.depth) (d := d) (fun x hx => by
    obtain ⟨k, hm, rfl⟩ := List.mem_map.mp hx
    exact (hh k hm).2) 0 (Nat.zero_le _)
  omega

theorem take_succ_map {α β : Type} (f : β → α → β) (l : List α) (i : Nat) (x : α) (b : β) (hx : l[i]? = some x) : (l.take (i + 1)).foldl f b = f ((l.take i).foldl f b) x := by
  rw [List.take_add_one, hx]; simp

theorem take_all {α : Type} (l : List α) : l.take l.length = l := List.take_length

theorem row_of {l : List Tm} {i : Nat} {k : Tm} (h : l[i]? = some k) : (l.map eT)[i]? = some (eT k) := by simp [h]

end Go.Proofs.YtelljholenkckaaDoor.AM
