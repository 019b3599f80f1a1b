/- The abstract machine, part R: what is told of empty slices holds of nil ones. -/
import Derived.Test.YtlophgkgmhcagaaDoorAmQ
set_option linter.unusedVariables false
set_option linter.unusedSimpArgs false
namespace Go.Proofs.YtlophgkgmhcagaaDoor.AM
open Go

mutual
def nrm : PV → PV
  | .nils => .sl []
  | .sl rows => .sl (nrmRows rows)
  | .int k n => .int k n
  | .bool b => .bool b
  | .str s => .str s
  | .nilp => .nilp
  | .nilf => .nilf
def nrmRow : List PV → List PV
  | [] => []
  | x :: r => nrm x :: nrmRow r
def nrmRows : List (List PV) → List (List PV)
  | [] => []
  | x :: r => nrmRow x :: nrmRows r
end

theorem nrmRow_map : ∀ l : List PV, nrmRow l = l.map nrm
  | [] => rfl
  | x :: r => by simp only [nrmRow, List.map_cons, nrmRow_map r]
theorem nrmRows_map : ∀ l : List (List PV), nrmRows l = l.map nrmRow
  | [] => rfl
  | x :: r => by simp only [nrmRows, List.map_cons, nrmRows_map r]

theorem get2_nrm (rows : List (List PV)) (i j : Nat) : get2 (nrmRows rows) i j = (get2 rows i j).map nrm := by
  unfold get2
  rw [nrmRows_map, List.getElem?_map]
  cases rows[i]? with
  | none => rfl
  | some r => simp [nrmRow_map]

theorem PRel.nrm {w : World} {o : Nat → Prop} {x : PV} {v : Value} (h : PRel w o x v) : PRel w o (AM.nrm x) v := by
  induction h with
  | int k n h => exact .int k n h
  | bool b => exact .bool b
  | str s h => exact .str s h
  | nils => exact .slz none 0
  | nilp => exact .nilp
  | nilf => exact .nilf
  | slz A c => exact .slz A c
  | sl rows blk off c sz f hc hn ho hb hsz hcell hrec ih =>
    have hl : (nrmRows rows).length = rows.length := by rw [nrmRows_map, List.length_map]
    have := PRel.sl (w := w) (own := o) (nrmRows rows) blk off c sz f (by omega) (by omega) ho hb (fun row hr => by
      rw [nrmRows_map] at hr
      obtain ⟨r, hr2, rfl⟩ := List.mem_map.mp hr
      rw [nrmRow_map, List.length_map]
      exact hsz r hr2) (fun i j x hx => by
        rw [get2_nrm] at hx
        obtain ⟨y, hy, rfl⟩ := Option.map_eq_some_iff.mp hx
        exact hcell i j y hy) (fun i j x hx => by
        rw [get2_nrm] at hx
        obtain ⟨y, hy, rfl⟩ := Option.map_eq_some_iff.mp hx
        exact ih i j y hy)
    rw [hl] at this
    exact this

mutual
def nrmA : AV → AV
  | .p x => .p (nrm x)
  | .agg l => .agg (nrmAs l)
  | .tup l => .tup (nrmAs l)
  | .ref b g o s l => .ref b g o s l
  | .ptr b g o => .ptr b g o
  | .pin c => .pin c
  | .fn f l => .fn f l
def nrmAs : List AV → List AV
  | [] => []
  | x :: r => nrmA x :: nrmAs r
end

theorem nrmAs_map : ∀ l : List AV, nrmAs l = l.map nrmA
  | [] => rfl
  | x :: r => by simp only [nrmAs, List.map_cons, nrmAs_map r]

section
variable {P : Program} {G : Nat → Option (List PV)} {ι : Nat → Nat × Nat} {h : Heap} {w : World}

theorem VRel.nrm {x : AV} {v : Value} (hx : VRel ι h w x v) : VRel ι h w (nrmA x) v := by
  induction hx with
  | p x v hx => exact .p _ _ hx.nrm
  | agg cells vs hl hv ih =>
    simp only [nrmA, nrmAs_map]
    refine .agg _ _ (by simpa using hl) fun i x v hx hv' => ?_
    rw [List.getElem?_map] at hx
    obtain ⟨y, hy, rfl⟩ := Option.map_eq_some_iff.mp hx
    exact ih i y v hy hv'
  | tup cells vs hl hv ih =>
    simp only [nrmA, nrmAs_map]
    refine .tup _ _ (by simpa using hl) fun i x v hx hv' => ?_
    rw [List.getElem?_map] at hx
    obtain ⟨y, hy, rfl⟩ := Option.map_eq_some_iff.mp hx
    exact ih i y v hy hv'
  | fn f cells vs hl hv ih => exact .fn f cells vs hl hv
  | ref b g off sz len A c hn hb hg hv => exact .ref b g off sz len A c hn hb hg hv
  | ptr b g off A hb hg hv => exact .ptr b g off A hb hg hv
  | pin cells blk off hv => exact .pin cells blk off hv

theorem ACalls.nrm {f : FuncId} {args : List AV} {K : AV → Heap → Prop} (hc : ACalls P G f (nrmAs args) h K) : ACalls P G f args h K :=
  fun ι w vs hS hv => hc ι w vs hS ⟨by rw [nrmAs_map, List.length_map]; exact hv.1, fun i x v hx hv' => by
    rw [nrmAs_map, List.getElem?_map] at hx
    obtain ⟨y, hy, rfl⟩ := Option.map_eq_some_iff.mp hx
    exact (hv.2 i y v hy hv').nrm⟩
end
end Go.Proofs.YtlophgkgmhcagaaDoor.AM
