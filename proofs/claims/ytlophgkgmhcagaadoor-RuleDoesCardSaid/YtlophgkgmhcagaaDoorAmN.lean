/- The abstract machine, part N: what a row's arguments read as; laws. -/
import Derived.Test.YtlophgkgmhcagaaDoorAmM
import Derived.ProofKit
import Derived.LaidMore
import Derived.OpenShut
import Derived.Stop.Joined
set_option linter.unusedVariables false
set_option linter.unusedSimpArgs false
namespace Go.Proofs.YtlophgkgmhcagaaDoor.AM
open Go Go.ChangeShapes Go.WideShapes Go.RowKit

mutual
/-- The cells of a datum. -/
def cellsD {H : Type} : DataW H → List PV
  | .lit (.bool b) => [.bool b]
  | .lit (.int k n) => [.int k n]
  | .lit (.string l) => [.str ⟨l.toArray⟩]
  | .lit _ => []
  | .nil => [.sl []]
  | .slice elems _ => [.sl (rowsD elems)]
  | .agg parts => partsD parts
  | .ptr _ => []
  | .iface _ _ => []
  | .map _ => []
  | .held _ => []
def rowsD {H : Type} : List (DataW H) → List (List PV)
  | [] => []
  | d :: r => cellsD d :: rowsD r
def partsD {H : Type} : List (DataW H) → List PV
  | [] => []
  | d :: r => cellsD d ++ partsD r
end

/-- Types that are read as plain data, and lie in a row. -/
def plainT (P : Program) (S : List Nat) (t : Nat) : Bool :=
  match P.underlying t with
  | some .bool | some (.int _) | some .string => P.cellsOf t == 1
  | some (.slice e) => S.contains e && decide (0 < P.cellsOf e) && P.cellsOf t == 1
  | some (.array n e) => S.contains e && P.cellsOf t == n * P.cellsOf e
  | some (.struct fs) => fs.toList.all (fun f => S.contains f.type) &&
      (fs.toList.foldl (fun (acc : Option Nat) f => acc.bind fun o => if f.offset == o then some (o + P.cellsOf f.type) else none) (some 0) == some (P.cellsOf t))
  | _ => false

def plainB (P : Program) (S : List Nat) : Bool := S.all (plainT P S)

/-- Typed cells. -/
def Ty (P : Program) : Nat → Nat → List PV → Prop
  | 0, _, _ => False
  | fuel + 1, t, xs =>
    match P.underlying t with
    | some .bool => ∃ b, xs = [.bool b]
    | some (.int k) => ∃ n, InRange k n ∧ xs = [.int k n]
    | some .string => ∃ s, xs = [.str s]
    | some (.slice e) => ∃ rows, xs = [.sl rows] ∧ ∀ row ∈ rows, Ty P fuel e row
    | some (.array n e) => ∃ rows : List (List PV), rows.length = n ∧ xs = rows.flatMap id ∧ ∀ row ∈ rows, Ty P fuel e row
    | some (.struct fs) => ∃ rows : List (List PV), rows.length = fs.size ∧ xs = rows.flatMap id ∧ ∀ (i : Nat) f row, fs[i]? = some f → rows[i]? = some row → Ty P fuel f.type row
    | _ => False

def LR (w : World) (xs : List PV) (cs : List Value) : Prop := xs.length = cs.length ∧ ∀ (i : Nat) x v, xs[i]? = some x → cs[i]? = some v → PRel w (fun _ => False) x v

section
variable {P : Program} {w : World} {H : Type} {enc : TypeId × Value → H} {spare : Nat → Bool} {held : Bool}

theorem mapM_some' {α β : Type} {f : α → Option β} : ∀ {l : List α} {r : List β}, l.mapM f = some r → r.length = l.length ∧ ∀ (i : Nat) x y, l[i]? = some x → r[i]? = some y → f x = some y
  | [], r, h => by simp at h; subst h; simp
  | a :: l, r, h => by
    simp only [List.mapM_cons] at h
    cases ha : f a with
    | none => simp [ha] at h
    | some b =>
      cases hl : l.mapM f with
      | none => simp [ha, hl] at h
      | some bs =>
        simp [ha, hl] at h
        subst h
        obtain ⟨l1, l2⟩ := mapM_some' hl
        refine ⟨by simp [l1], fun i x y hx hy => ?_⟩
        cases i with
        | zero => simp at hx hy; rw [← hx, ← hy]; exact ha
        | succ i => simp at hx hy; exact l2 i x y hx hy

theorem LR.append {xs ys : List PV} {cs ds : List Value} (h1 : LR w xs cs) (h2 : LR w ys ds) : LR w (xs ++ ys) (cs ++ ds) := by
  refine ⟨by simp [h1.1, h2.1], fun i x v hx hv => ?_⟩
  by_cases hi : i < xs.length
  · rw [List.getElem?_append_left hi] at hx
    rw [List.getElem?_append_left (by rw [← h1.1]; exact hi)] at hv
    exact h1.2 i x v hx hv
  · rw [List.getElem?_append_right (by omega)] at hx
    rw [List.getElem?_append_right (by rw [← h1.1]; omega), ← h1.1] at hv
    exact h2.2 _ x v hx hv

theorem rowsD_get (ds : List (DataW H)) : ∀ i : Nat, (rowsD ds)[i]? = (ds[i]?).map cellsD := by
  induction ds with
  | nil => intro i; simp [rowsD]
  | cons d r ih => intro i; cases i with
    | zero => simp [rowsD]
    | succ i => simp [rowsD, ih]

theorem rowsD_length (ds : List (DataW H)) : (rowsD ds).length = ds.length := by
  induction ds with
  | nil => rfl
  | cons d r ih => simp [rowsD, ih]

theorem partsD_eq (ds : List (DataW H)) : partsD ds = (rowsD ds).flatMap id := by
  induction ds with
  | nil => rfl
  | cons d r ih => simp [partsD, rowsD, ih]

/-- Rows that lie behind each other. -/
theorem LR.rows : ∀ (rows : List (List PV)) (sizes : List Nat) (cs : List Value), rows.length = sizes.length → cs.length = sizes.foldl (· + ·) 0 →
    (∀ (i : Nat) row n, rows[i]? = some row → sizes[i]? = some n → LR w row ((cs.drop ((sizes.take i).foldl (· + ·) 0)).take n)) → LR w (rows.flatMap id) cs := by
  have hf : ∀ (l : List Nat) (a : Nat), l.foldl (· + ·) a = a + l.foldl (· + ·) 0 := by
    intro l
    induction l with
    | nil => intro a; rfl
    | cons x r ih => intro a; simp only [List.foldl_cons]; rw [ih, ih (0 + x)]; omega
  intro rows
  induction rows with
  | nil =>
    intro sizes cs hl hc _
    cases sizes with
    | nil => simp at hc; subst hc; exact ⟨rfl, fun i x v hx => by simp at hx⟩
    | cons => simp at hl
  | cons row rest ih =>
    intro sizes cs hl hc h
    cases sizes with
    | nil => simp at hl
    | cons n ns =>
      simp only [List.foldl_cons] at hc
      rw [hf] at hc
      have h0 := h 0 row n rfl rfl
      simp at h0
      have hrest : LR w (rest.flatMap id) (cs.drop n) := by
        refine ih ns (cs.drop n) (by simpa using hl) (by simp; omega) fun i r m hr hm => ?_
        have := h (i + 1) r m (by simpa using hr) (by simpa using hm)
        simp only [List.take_succ_cons, List.foldl_cons] at this
        rw [hf] at this
        rw [List.drop_drop]
        simpa using this
      have := h0.append hrest
      simpa using this

theorem cells?_some {a : Addr} {n : Nat} {cs : List Value} (h : w.cells? 0 a n = some cs) : cs.length = n ∧ ∀ (i : Nat) v, cs[i]? = some v → w.cell? (a.add i) = some v := by
  unfold World.cells? at h
  simp only [Nat.zero_le, if_true] at h
  obtain ⟨l1, l2⟩ := mapM_some' h
  refine ⟨by simpa using l1, fun i v hv => ?_⟩
  have hi : i < n := by have := getElem?_lt hv; simp at l1; omega
  exact l2 i i v (by simp [hi]) hv

theorem trodPV {S : List Nat} (hS : plainB P S = true) : ∀ (fuel t : Nat) (cs : List Value) (x : DataW H × List MemPlace), t ∈ S → DataW.trod enc P w 0 spare held fuel t cs = some x →
    LR w (cellsD x.1) cs ∧ Ty P fuel t (cellsD x.1) ∧ cs.length = P.cellsOf t := by
  have hpl : ∀ t ∈ S, plainT P S t = true := by simpa [plainB] using hS
  intro fuel
  induction fuel with
  | zero => intro t cs x _ h; simp [DataW.trod] at h
  | succ fuel ih =>
    intro t cs x ht h
    have hp := hpl t ht
    unfold plainT at hp
    unfold Ty
    have one : ∀ (y : PV) (v : Value), PRel w (fun _ => False) y v → LR w [y] [v] := by
      intro y v hy
      refine ⟨rfl, fun i x v hx hv => ?_⟩
      cases i with
      | zero => simp at hx hv; rw [← hx, ← hv]; exact hy
      | succ i => simp at hx
    cases hu : P.underlying t with
    | none => rw [hu] at hp; simp at hp
    | some d =>
      rw [hu] at hp
      cases d with
      | bool =>
        simp only [beq_iff_eq] at hp
        obtain ⟨b, rfl, rfl⟩ := DataW.trod_bool hu h
        exact ⟨one _ _ (.bool b), ⟨b, rfl⟩, hp.symm⟩
      | int k =>
        simp only [beq_iff_eq] at hp
        obtain ⟨n, rfl, rfl, hw⟩ := DataW.trod_int hu h
        have hr : InRange k n := by
          simp only [Lit.wf] at hw
          unfold InRange
          simpa using hw
        exact ⟨one _ _ (.int _ _ hr), ⟨n, hr, rfl⟩, hp.symm⟩
      | string =>
        simp only [beq_iff_eq] at hp
        obtain ⟨s, rfl, rfl, hs⟩ := DataW.trod_string hu h
        have hm : s.size ≤ 9223372036854775807 := by unfold maxLen at hs; omega
        have e : (⟨s.data.toList.toArray⟩ : ByteArray) = s := by simp
        refine ⟨?_, ⟨_, rfl⟩, hp.symm⟩
        simp only [cellsD, e]
        exact one _ _ (.str s hm)
      | slice e =>
        simp only [Bool.and_eq_true, beq_iff_eq, decide_eq_true_eq, List.contains_iff_mem] at hp
        obtain ⟨⟨he, hpos⟩, h1⟩ := hp
        rcases DataW.trod_slice hu h with ⟨rfl, rfl⟩ | ⟨a, len, cap, elems, rest, m, hm, rfl, rfl, _, hlc, hcm, m1, m2, _⟩
        · exact ⟨one _ _ (.slz _ _), ⟨[], rfl, by simp⟩, h1.symm⟩
        · have : m = fuel := by omega
          subst this
          have hrow : ∀ (i : Nat) y, elems[i]? = some y → ∃ rc, w.cells? 0 (a.add (i * P.cellsOf e)) (P.cellsOf e) = some rc ∧ LR w (cellsD y.1) rc ∧ Ty P m e (cellsD y.1) := by
            intro i y hy
            have hi : i < len := by have := getElem?_lt hy; omega
            have := m2 i hi
            rw [hy] at this
            obtain ⟨rc, hrc, ht'⟩ := Option.bind_eq_some_iff.mp this
            obtain ⟨q1, q2, _⟩ := ih e rc y he ht'
            exact ⟨rc, hrc, q1, q2⟩
          have hrg : ∀ i : Nat, (rowsD (elems.map (·.1)))[i]? = (elems[i]?).map fun y => cellsD y.1 := by
            intro i; rw [rowsD_get]; simp
            cases elems[i]? <;> rfl
          have hrl : (rowsD (elems.map (·.1))).length = len := by rw [rowsD_length]; simp [m1]
          have hmem : ∀ row ∈ rowsD (elems.map (·.1)), ∃ (i : Nat) (y : DataW H × List MemPlace), elems[i]? = some y ∧ cellsD y.1 = row := by
            intro row hr
            obtain ⟨i, hi, rfl⟩ := List.getElem_of_mem hr
            have h1 : (rowsD (elems.map (·.1)))[i]? = some ((rowsD (elems.map (·.1)))[i]) := List.getElem?_eq_getElem hi
            rw [hrg] at h1
            obtain ⟨y, hy, hye⟩ := Option.map_eq_some_iff.mp h1
            exact ⟨i, y, hy, hye⟩
          have hcd : cellsD (DataW.slice (elems.map (·.1)) (rest.map (·.1))) = [.sl (rowsD (elems.map (fun y : DataW H × List MemPlace => y.1)))] := by simp only [cellsD]
          show LR w (cellsD (DataW.slice (elems.map (·.1)) (rest.map (·.1)))) _ ∧ (∃ rows, cellsD (DataW.slice (elems.map (·.1)) (rest.map (·.1))) = [.sl rows] ∧ ∀ row ∈ rows, Ty P m e row) ∧ _
          rw [hcd]
          refine ⟨one (.sl (rowsD (elems.map (fun y : DataW H × List MemPlace => y.1)))) _ ?_, ⟨_, rfl, fun row hr => ?_⟩, h1.symm⟩
          · by_cases hz : len = 0
            · have : rowsD (elems.map (·.1)) = [] := List.eq_nil_of_length_eq_zero (by omega)
              rw [this, hz]
              exact .slz _ _
            · obtain ⟨y0, hy0⟩ : ∃ y, elems[0]? = some y := ⟨elems[0]'(by omega), by simp⟩
              obtain ⟨rc0, hrc0, _, _⟩ := hrow 0 y0 hy0
              obtain ⟨c1, c2⟩ := cells?_some hrc0
              have hc0 : w.cell? a = some (rc0[0]'(by omega)) := by
                have := c2 0 (rc0[0]'(by omega)) (by simp)
                simpa [Addr.add] using this
              have hspot : a.spot = none := by
                unfold World.cell? at hc0
                split at hc0
                · split at hc0
                  · cases hc0
                  · rename_i hs; simpa using hs
                · cases hc0
              obtain ⟨blk, off, sp⟩ := a
              simp only at hspot
              subst hspot
              have hb := block_lt_of_cell hc0
              have hf : ∀ q : Nat × Nat, ∃ v, ∀ x, get2 (rowsD (elems.map (·.1))) q.1 q.2 = some x → w.cell? ⟨blk, off + (q.1 * P.cellsOf e + q.2), none⟩ = some v ∧ PRel w (fun _ => False) x v := by
                intro q
                cases hq : get2 (rowsD (elems.map (·.1))) q.1 q.2 with
                | none => exact ⟨undef, fun x hx => by cases hx⟩
                | some x =>
                  unfold get2 at hq
                  obtain ⟨row, hr1, hr2⟩ := Option.bind_eq_some_iff.mp hq
                  rw [hrg] at hr1
                  obtain ⟨y, hy, rfl⟩ := Option.map_eq_some_iff.mp hr1
                  obtain ⟨rc, hrc, ⟨l1, l2⟩, _⟩ := hrow q.1 y hy
                  obtain ⟨d1, d2⟩ := cells?_some hrc
                  have hj : q.2 < rc.length := by have := getElem?_lt hr2; omega
                  refine ⟨rc[q.2], fun x' hx' => ?_⟩
                  cases hx'
                  refine ⟨?_, l2 q.2 x rc[q.2] hr2 (by simp)⟩
                  have := d2 q.2 rc[q.2] (by simp)
                  rw [Addr.add_lit, Addr.add_lit] at this
                  rw [← Nat.add_assoc]
                  exact this
              obtain ⟨f, hf⟩ := Classical.axiomOfChoice hf
              have := PRel.sl (w := w) (own := fun _ => False) (rowsD (elems.map (·.1))) blk off cap (P.cellsOf e) (fun i j => f (i, j)) (by omega) (by unfold maxLen at hcm; omega) (fun h => h) hb
                (fun row hr => by
                  obtain ⟨i, y, hy, hye⟩ := hmem row hr
                  obtain ⟨rc, hrc, ⟨l1, _⟩, _⟩ := hrow i y hy
                  rw [← hye, l1, (cells?_some hrc).1])
                (fun i j x hx => (hf (i, j) x hx).1) (fun i j x hx => (hf (i, j) x hx).2)
              rwa [hrl] at this
          · obtain ⟨i, y, hy, hye⟩ := hmem row hr
            obtain ⟨rc, hrc, _, q⟩ := hrow i y hy
            rw [← hye]; exact q
      | array n e =>
        simp only [Bool.and_eq_true, beq_iff_eq, List.contains_iff_mem] at hp
        obtain ⟨he, hc⟩ := hp
        obtain ⟨xs, m, hm, rfl, hlen, m1, m2⟩ := DataW.trod_array hu h
        have : m = fuel := by omega
        subst this
        have hrg : ∀ i : Nat, (rowsD (xs.map (·.1)))[i]? = (xs[i]?).map fun y => cellsD y.1 := by
          intro i; rw [rowsD_get]; simp
          cases xs[i]? <;> rfl
        have hrl : (rowsD (xs.map (·.1))).length = n := by rw [rowsD_length]; simp [m1]
        have hrow : ∀ (i : Nat) y, xs[i]? = some y → LR w (cellsD y.1) ((cs.drop (i * P.cellsOf e)).take (P.cellsOf e)) ∧ Ty P m e (cellsD y.1) := by
          intro i y hy
          have hi : i < n := by have := getElem?_lt hy; omega
          obtain ⟨q1, q2, _⟩ := ih e _ y he ((m2 i hi).trans hy)
          exact ⟨q1, q2⟩
        refine ⟨?_, ⟨rowsD (xs.map (·.1)), hrl, by simp only [cellsD, partsD_eq], fun row hr => ?_⟩, hlen⟩
        · simp only [cellsD, partsD_eq]
          have hsum : ∀ m : Nat, (List.replicate m (P.cellsOf e)).foldl (· + ·) 0 = m * P.cellsOf e := by
            intro m
            have hf : ∀ (l : List Nat) (a : Nat), l.foldl (· + ·) a = a + l.foldl (· + ·) 0 := by
              intro l
              induction l with
              | nil => intro a; rfl
              | cons x r ih => intro a; simp only [List.foldl_cons]; rw [ih, ih (0 + x)]; omega
            induction m with
            | zero => simp
            | succ m ih => rw [List.replicate_succ, List.foldl_cons, hf, ih, Nat.succ_mul]; omega
          refine LR.rows _ (List.replicate n (P.cellsOf e)) cs (by simp [hrl]) (by rw [hsum, hlen, hc]) fun i row k hr hk => ?_
          rw [hrg] at hr
          obtain ⟨y, hy, rfl⟩ := Option.map_eq_some_iff.mp hr
          have hi : i < n := by have := getElem?_lt hy; omega
          rw [List.getElem?_replicate, if_pos hi] at hk
          cases hk
          rw [List.take_replicate, show min i n = i by omega, hsum]
          exact (hrow i y hy).1
        · obtain ⟨i, hi, rfl⟩ := List.getElem_of_mem hr
          have h1 : (rowsD (xs.map (·.1)))[i]? = some ((rowsD (xs.map (·.1)))[i]) := List.getElem?_eq_getElem hi
          rw [hrg] at h1
          obtain ⟨y, hy, hye⟩ := Option.map_eq_some_iff.mp h1
          rw [← hye]; exact (hrow i y hy).2
      | struct fs =>
        rw [Bool.and_eq_true, List.all_eq_true, beq_iff_eq] at hp
        obtain ⟨hfs0, hoff⟩ := hp
        have hfs : ∀ f ∈ fs.toList, f.type ∈ S := fun f hf => by simpa using hfs0 f hf
        obtain ⟨xs, m, hm, rfl, hlen, m1, m2⟩ := DataW.trod_struct hu h
        have : m = fuel := by omega
        subst this
        have hrg : ∀ i : Nat, (rowsD (xs.map (·.1)))[i]? = (xs[i]?).map fun y => cellsD y.1 := by
          intro i; rw [rowsD_get]; simp
          cases xs[i]? <;> rfl
        have hrl : (rowsD (xs.map (·.1))).length = fs.toList.length := by rw [rowsD_length]; simp [m1]
        have hrow : ∀ (i : Nat) y f, xs[i]? = some y → fs.toList[i]? = some f → LR w (cellsD y.1) ((cs.drop f.offset).take (P.cellsOf f.type)) ∧ Ty P m f.type (cellsD y.1) := by
          intro i y f hy hf
          obtain ⟨q1, q2, _⟩ := ih f.type _ y (hfs f (List.mem_of_getElem? hf)) ((m2 i f (by simpa using hf)).trans hy)
          exact ⟨q1, q2⟩
        -- the offsets are sums
        have hgen : ∀ (l : List Field) (o tot : Nat), l.foldl (fun (acc : Option Nat) f => acc.bind fun o => if f.offset == o then some (o + P.cellsOf f.type) else none) (some o) = some tot →
            tot = o + (l.map fun f => P.cellsOf f.type).foldl (· + ·) 0 ∧ ∀ (i : Nat) f, l[i]? = some f → f.offset = o + ((l.map fun f => P.cellsOf f.type).take i).foldl (· + ·) 0 := by
          have hf : ∀ (l : List Nat) (a : Nat), l.foldl (· + ·) a = a + l.foldl (· + ·) 0 := by
            intro l
            induction l with
            | nil => intro a; rfl
            | cons x r ih => intro a; simp only [List.foldl_cons]; rw [ih, ih (0 + x)]; omega
          have hnone : ∀ l : List Field, l.foldl (fun (acc : Option Nat) f => acc.bind fun o => if f.offset == o then some (o + P.cellsOf f.type) else none) none = none := by
            intro l; induction l with
            | nil => rfl
            | cons f r ih => simpa using ih
          intro l
          induction l with
          | nil => intro o tot h; simp at h; subst h; simp
          | cons f r ihl =>
            intro o tot h
            simp only [List.foldl_cons, Option.bind_some] at h
            split at h
            · rename_i ho
              obtain ⟨e1, e2⟩ := ihl _ _ h
              refine ⟨by simp only [List.map_cons, List.foldl_cons]; rw [hf]; omega, fun i g hg => ?_⟩
              cases i with
              | zero => simp at hg ho; subst hg; simpa using ho
              | succ i =>
                simp at hg
                have := e2 i g hg
                simp only [List.map_cons, List.take_succ_cons, List.foldl_cons]
                rw [hf]; omega
            · rw [hnone] at h; cases h
        obtain ⟨g1, g2⟩ := hgen fs.toList 0 _ hoff
        refine ⟨?_, ⟨rowsD (xs.map (·.1)), by simpa using hrl, by simp only [cellsD, partsD_eq], fun i f row hf hr => ?_⟩, hlen⟩
        · simp only [cellsD, partsD_eq]
          refine LR.rows _ (fs.toList.map fun f => P.cellsOf f.type) cs (by simpa using hrl) (by omega) fun i row k hr hk => ?_
          rw [hrg] at hr
          obtain ⟨y, hy, rfl⟩ := Option.map_eq_some_iff.mp hr
          simp only [List.getElem?_map, Option.map_eq_some_iff] at hk
          obtain ⟨f, hf, rfl⟩ := hk
          have := g2 i f hf
          rw [Nat.zero_add] at this
          rw [← this]
          exact (hrow i y f hy hf).1
        · rw [hrg] at hr
          obtain ⟨y, hy, rfl⟩ := Option.map_eq_some_iff.mp hr
          exact (hrow i y f hy (by simpa using hf)).2
      | _ => simp at hp

end
end Go.Proofs.YtlophgkgmhcagaaDoor.AM
