/- Proved here, in parts, for one law: The abstract machine, part N: what a row's arguments read as; laws. The abstract machine, part O: a law is a function that always answers true. The abstract machine, part S: what typed cells are, told by the facts of their types. What the listed variable gives; processes as arguments. The abstract machine, part X: ground runs: an evaluator of abstract states, and that what it says is so. The law of all rules of a process. Plain: how many rules a node has, and what they need. Contracts: the step of a catch that goes. Contracts: what operators make of numbers. Right terms, and what they are. Contracts: the number that a right term is. Contracts: the truth that a right term is. Contracts: the truth that a right term is, second part. Contracts: whether values are numbers. Contracts: what is asked of a term; Number, Truth. Contracts: which flow a splitting Xor takes, as the document tells it. Contracts: the steps of an Xor, as the document tells them. Contracts: the steps of a node of data, as the document tells them. Contracts: the steps of a node, as the document tells them. Contracts: whether it is a state, as the document tells it. Contracts: all steps of a state, as the document tells them. Contract: all steps of a state, as the document tells them. Contract: whether numbers are within a channel's bounds. Contract: whether it is a state, as the program tells it. Contract: whether it is a state, as the program tells it. Plain: a step of a free rule does what the rule does. Plain: each free rule that goes has its step. Conditions: none. -/
import Derived.Test.YtjpphhcimpclpaaDoorZRuleGameC
import Derived.ProofKit
import Derived.LaidMore
import Derived.OpenShut
import Derived.Stop.Joined
import Derived.Test.YtjpphhcimpclpaaDoorRows
import Derived.IntWalk

section
set_option linter.unusedVariables false
set_option linter.unusedSimpArgs false
namespace Go.Proofs.YtjpphhcimpclpaaDoor.AM
open Go Go.ChangeShapes Go.WideShapes Go.RowKit

mutual
/-- The cells of a datum. -/
def cellsD {H : Type} : DataW H → List PV
  | .lit (.bool b) => [.bool b]
  | .lit (.int k n) => [.int k n]
  | .lit (.string l) => [.str ⟨l.toArray⟩]
  | .lit _ => []
  | .nil => [.sl []]
  | .slice elems _ => [.sl (rowsD elems)]
  | .agg parts => partsD parts
  | .ptr _ => []
  | .iface _ _ => []
  | .map _ => []
  | .held _ => []
def rowsD {H : Type} : List (DataW H) → List (List PV)
  | [] => []
  | d :: r => cellsD d :: rowsD r
def partsD {H : Type} : List (DataW H) → List PV
  | [] => []
  | d :: r => cellsD d ++ partsD r
end

/-- Types that are read as plain data, and lie in a row. -/
def plainT (P : Program) (S : List Nat) (t : Nat) : Bool :=
  match P.underlying t with
  | some .bool | some (.int _) | some .string => P.cellsOf t == 1
  | some (.slice e) => S.contains e && decide (0 < P.cellsOf e) && P.cellsOf t == 1
  | some (.array n e) => S.contains e && P.cellsOf t == n * P.cellsOf e
  | some (.struct fs) => fs.toList.all (fun f => S.contains f.type) &&
      (fs.toList.foldl (fun (acc : Option Nat) f => acc.bind fun o => if f.offset == o then some (o + P.cellsOf f.type) else none) (some 0) == some (P.cellsOf t))
  | _ => false

def plainB (P : Program) (S : List Nat) : Bool := S.all (plainT P S)

/-- Typed cells. -/
def Ty (P : Program) : Nat → Nat → List PV → Prop
  | 0, _, _ => False
  | fuel + 1, t, xs =>
    match P.underlying t with
    | some .bool => ∃ b, xs = [.bool b]
    | some (.int k) => ∃ n, InRange k n ∧ xs = [.int k n]
    | some .string => ∃ s, xs = [.str s]
    | some (.slice e) => ∃ rows, xs = [.sl rows] ∧ ∀ row ∈ rows, Ty P fuel e row
    | some (.array n e) => ∃ rows : List (List PV), rows.length = n ∧ xs = rows.flatMap id ∧ ∀ row ∈ rows, Ty P fuel e row
    | some (.struct fs) => ∃ rows : List (List PV), rows.length = fs.size ∧ xs = rows.flatMap id ∧ ∀ (i : Nat) f row, fs[i]? = some f → rows[i]? = some row → Ty P fuel f.type row
    | _ => False

def LR (w : World) (xs : List PV) (cs : List Value) : Prop := xs.length = cs.length ∧ ∀ (i : Nat) x v, xs[i]? = some x → cs[i]? = some v → PRel w (fun _ => False) x v

section
variable {P : Program} {w : World} {H : Type} {enc : TypeId × Value → H} {spare : Nat → Bool} {held : Bool}

theorem mapM_some' {α β : Type} {f : α → Option β} : ∀ {l : List α} {r : List β}, l.mapM f = some r → r.length = l.length ∧ ∀ (i : Nat) x y, l[i]? = some x → r[i]? = some y → f x = some y
  | [], r, h => by simp at h; subst h; simp
  | a :: l, r, h => by
    simp only [List.mapM_cons] at h
    cases ha : f a with
    | none => simp [ha] at h
    | some b =>
      cases hl : l.mapM f with
      | none => simp [ha, hl] at h
      | some bs =>
        simp [ha, hl] at h
        subst h
        obtain ⟨l1, l2⟩ := mapM_some' hl
        refine ⟨by simp [l1], fun i x y hx hy => ?_⟩
        cases i with
        | zero => simp at hx hy; rw [← hx, ← hy]; exact ha
        | succ i => simp at hx hy; exact l2 i x y hx hy

theorem LR.append {xs ys : List PV} {cs ds : List Value} (h1 : LR w xs cs) (h2 : LR w ys ds) : LR w (xs ++ ys) (cs ++ ds) := by
  refine ⟨by simp [h1.1, h2.1], fun i x v hx hv => ?_⟩
  by_cases hi : i < xs.length
  · rw [List.getElem?_append_left hi] at hx
    rw [List.getElem?_append_left (by rw [← h1.1]; exact hi)] at hv
    exact h1.2 i x v hx hv
  · rw [List.getElem?_append_right (by omega)] at hx
    rw [List.getElem?_append_right (by rw [← h1.1]; omega), ← h1.1] at hv
    exact h2.2 _ x v hx hv

theorem rowsD_get (ds : List (DataW H)) : ∀ i : Nat, (rowsD ds)[i]? = (ds[i]?).map cellsD := by
  induction ds with
  | nil => intro i; simp [rowsD]
  | cons d r ih => intro i; cases i with
    | zero => simp [rowsD]
    | succ i => simp [rowsD, ih]

theorem rowsD_length (ds : List (DataW H)) : (rowsD ds).length = ds.length := by
  induction ds with
  | nil => rfl
  | cons d r ih => simp [rowsD, ih]

theorem partsD_eq (ds : List (DataW H)) : partsD ds = (rowsD ds).flatMap id := by
  induction ds with
  | nil => rfl
  | cons d r ih => simp [partsD, rowsD, ih]

/-- Rows that lie behind each other. -/
theorem LR.rows : ∀ (rows : List (List PV)) (sizes : List Nat) (cs : List Value), rows.length = sizes.length → cs.length = sizes.foldl (· + ·) 0 →
    (∀ (i : Nat) row n, rows[i]? = some row → sizes[i]? = some n → LR w row ((cs.drop ((sizes.take i).foldl (· + ·) 0)).take n)) → LR w (rows.flatMap id) cs := by
  have hf : ∀ (l : List Nat) (a : Nat), l.foldl (· + ·) a = a + l.foldl (· + ·) 0 := by
    intro l
    induction l with
    | nil => intro a; rfl
    | cons x r ih => intro a; simp only [List.foldl_cons]; rw [ih, ih (0 + x)]; omega
  intro rows
  induction rows with
  | nil =>
    intro sizes cs hl hc _
    cases sizes with
    | nil => simp at hc; subst hc; exact ⟨rfl, fun i x v hx => by simp at hx⟩
    | cons => simp at hl
  | cons row rest ih =>
    intro sizes cs hl hc h
    cases sizes with
    | nil => simp at hl
    | cons n ns =>
      simp only [List.foldl_cons] at hc
      rw [hf] at hc
      have h0 := h 0 row n rfl rfl
      simp at h0
      have hrest : LR w (rest.flatMap id) (cs.drop n) := by
        refine ih ns (cs.drop n) (by simpa using hl) (by simp; omega) fun i r m hr hm => ?_
        have := h (i + 1) r m (by simpa using hr) (by simpa using hm)
        simp only [List.take_succ_cons, List.foldl_cons] at this
        rw [hf] at this
        rw [List.drop_drop]
        simpa using this
      have := h0.append hrest
      simpa using this

theorem cells?_some {a : Addr} {n : Nat} {cs : List Value} (h : w.cells? 0 a n = some cs) : cs.length = n ∧ ∀ (i : Nat) v, cs[i]? = some v → w.cell? (a.add i) = some v := by
  unfold World.cells? at h
  simp only [Nat.zero_le, if_true] at h
  obtain ⟨l1, l2⟩ := mapM_some' h
  refine ⟨by simpa using l1, fun i v hv => ?_⟩
  have hi : i < n := by have := getElem?_lt hv; simp at l1; omega
  exact l2 i i v (by simp [hi]) hv

theorem trodPV {S : List Nat} (hS : plainB P S = true) : ∀ (fuel t : Nat) (cs : List Value) (x : DataW H × List MemPlace), t ∈ S → DataW.trod enc P w 0 spare held fuel t cs = some x →
    LR w (cellsD x.1) cs ∧ Ty P fuel t (cellsD x.1) ∧ cs.length = P.cellsOf t := by
  have hpl : ∀ t ∈ S, plainT P S t = true := by simpa [plainB] using hS
  intro fuel
  induction fuel with
  | zero => intro t cs x _ h; simp [DataW.trod] at h
  | succ fuel ih =>
    intro t cs x ht h
    have hp := hpl t ht
    unfold plainT at hp
    unfold Ty
    have one : ∀ (y : PV) (v : Value), PRel w (fun _ => False) y v → LR w [y] [v] := by
      intro y v hy
      refine ⟨rfl, fun i x v hx hv => ?_⟩
      cases i with
      | zero => simp at hx hv; rw [← hx, ← hv]; exact hy
      | succ i => simp at hx
    cases hu : P.underlying t with
    | none => rw [hu] at hp; simp at hp
    | some d =>
      rw [hu] at hp
      cases d with
      | bool =>
        simp only [beq_iff_eq] at hp
        obtain ⟨b, rfl, rfl⟩ := DataW.trod_bool hu h
        exact ⟨one _ _ (.bool b), ⟨b, rfl⟩, hp.symm⟩
      | int k =>
        simp only [beq_iff_eq] at hp
        obtain ⟨n, rfl, rfl, hw⟩ := DataW.trod_int hu h
        have hr : InRange k n := by
          simp only [Lit.wf] at hw
          unfold InRange
          simpa using hw
        exact ⟨one _ _ (.int _ _ hr), ⟨n, hr, rfl⟩, hp.symm⟩
      | string =>
        simp only [beq_iff_eq] at hp
        obtain ⟨s, rfl, rfl, hs⟩ := DataW.trod_string hu h
        have hm : s.size ≤ 9223372036854775807 := by unfold maxLen at hs; omega
        have e : (⟨s.data.toList.toArray⟩ : ByteArray) = s := by simp
        refine ⟨?_, ⟨_, rfl⟩, hp.symm⟩
        simp only [cellsD, e]
        exact one _ _ (.str s hm)
      | slice e =>
        simp only [Bool.and_eq_true, beq_iff_eq, decide_eq_true_eq, List.contains_iff_mem] at hp
        obtain ⟨⟨he, hpos⟩, h1⟩ := hp
        rcases DataW.trod_slice hu h with ⟨rfl, rfl⟩ | ⟨a, len, cap, elems, rest, m, hm, rfl, rfl, _, hlc, hcm, m1, m2, _⟩
        · exact ⟨one _ _ (.slz _ _), ⟨[], rfl, by simp⟩, h1.symm⟩
        · have : m = fuel := by omega
          subst this
          have hrow : ∀ (i : Nat) y, elems[i]? = some y → ∃ rc, w.cells? 0 (a.add (i * P.cellsOf e)) (P.cellsOf e) = some rc ∧ LR w (cellsD y.1) rc ∧ Ty P m e (cellsD y.1) := by
            intro i y hy
            have hi : i < len := by have := getElem?_lt hy; omega
            have := m2 i hi
            rw [hy] at this
            obtain ⟨rc, hrc, ht'⟩ := Option.bind_eq_some_iff.mp this
            obtain ⟨q1, q2, _⟩ := ih e rc y he ht'
            exact ⟨rc, hrc, q1, q2⟩
          have hrg : ∀ i : Nat, (rowsD (elems.map (·.1)))[i]? = (elems[i]?).map fun y => cellsD y.1 := by
            intro i; rw [rowsD_get]; simp
            cases elems[i]? <;> rfl
          have hrl : (rowsD (elems.map (·.1))).length = len := by rw [rowsD_length]; simp [m1]
          have hmem : ∀ row ∈ rowsD (elems.map (·.1)), ∃ (i : Nat) (y : DataW H × List MemPlace), elems[i]? = some y ∧ cellsD y.1 = row := by
            intro row hr
            obtain ⟨i, hi, rfl⟩ := List.getElem_of_mem hr
            have h1 : (rowsD (elems.map (·.1)))[i]? = some ((rowsD (elems.map (·.1)))[i]) := List.getElem?_eq_getElem hi
            rw [hrg] at h1
            obtain ⟨y, hy, hye⟩ := Option.map_eq_some_iff.mp h1
            exact ⟨i, y, hy, hye⟩
          have hcd : cellsD (DataW.slice (elems.map (·.1)) (rest.map (·.1))) = [.sl (rowsD (elems.map (fun y : DataW H × List MemPlace => y.1)))] := by simp only [cellsD]
          show LR w (cellsD (DataW.slice (elems.map (·.1)) (rest.map (·.1)))) _ ∧ (∃ rows, cellsD (DataW.slice (elems.map (·.1)) (rest.map (·.1))) = [.sl rows] ∧ ∀ row ∈ rows, Ty P m e row) ∧ _
          rw [hcd]
          refine ⟨one (.sl (rowsD (elems.map (fun y : DataW H × List MemPlace => y.1)))) _ ?_, ⟨_, rfl, fun row hr => ?_⟩, h1.symm⟩
          · by_cases hz : len = 0
            · have : rowsD (elems.map (·.1)) = [] := List.eq_nil_of_length_eq_zero (by omega)
              rw [this, hz]
              exact .slz _ _
            · obtain ⟨y0, hy0⟩ : ∃ y, elems[0]? = some y := ⟨elems[0]'(by omega), by simp⟩
              obtain ⟨rc0, hrc0, _, _⟩ := hrow 0 y0 hy0
              obtain ⟨c1, c2⟩ := cells?_some hrc0
              have hc0 : w.cell? a = some (rc0[0]'(by omega)) := by
                have := c2 0 (rc0[0]'(by omega)) (by simp)
                simpa [Addr.add] using this
              have hspot : a.spot = none := by
                unfold World.cell? at hc0
                split at hc0
                · split at hc0
                  · cases hc0
                  · rename_i hs; simpa using hs
                · cases hc0
              obtain ⟨blk, off, sp⟩ := a
              simp only at hspot
              subst hspot
              have hb := block_lt_of_cell hc0
              have hf : ∀ q : Nat × Nat, ∃ v, ∀ x, get2 (rowsD (elems.map (·.1))) q.1 q.2 = some x → w.cell? ⟨blk, off + (q.1 * P.cellsOf e + q.2), none⟩ = some v ∧ PRel w (fun _ => False) x v := by
                intro q
                cases hq : get2 (rowsD (elems.map (·.1))) q.1 q.2 with
                | none => exact ⟨undef, fun x hx => by cases hx⟩
                | some x =>
                  unfold get2 at hq
                  obtain ⟨row, hr1, hr2⟩ := Option.bind_eq_some_iff.mp hq
                  rw [hrg] at hr1
                  obtain ⟨y, hy, rfl⟩ := Option.map_eq_some_iff.mp hr1
                  obtain ⟨rc, hrc, ⟨l1, l2⟩, _⟩ := hrow q.1 y hy
                  obtain ⟨d1, d2⟩ := cells?_some hrc
                  have hj : q.2 < rc.length := by have := getElem?_lt hr2; omega
                  refine ⟨rc[q.2], fun x' hx' => ?_⟩
                  cases hx'
                  refine ⟨?_, l2 q.2 x rc[q.2] hr2 (by simp)⟩
                  have := d2 q.2 rc[q.2] (by simp)
                  rw [Addr.add_lit, Addr.add_lit] at this
                  rw [← Nat.add_assoc]
                  exact this
              obtain ⟨f, hf⟩ := Classical.axiomOfChoice hf
              have := PRel.sl (w := w) (own := fun _ => False) (rowsD (elems.map (·.1))) blk off cap (P.cellsOf e) (fun i j => f (i, j)) (by omega) (by unfold maxLen at hcm; omega) (fun h => h) hb
                (fun row hr => by
                  obtain ⟨i, y, hy, hye⟩ := hmem row hr
                  obtain ⟨rc, hrc, ⟨l1, _⟩, _⟩ := hrow i y hy
                  rw [← hye, l1, (cells?_some hrc).1])
                (fun i j x hx => (hf (i, j) x hx).1) (fun i j x hx => (hf (i, j) x hx).2)
              rwa [hrl] at this
          · obtain ⟨i, y, hy, hye⟩ := hmem row hr
            obtain ⟨rc, hrc, _, q⟩ := hrow i y hy
            rw [← hye]; exact q
      | array n e =>
        simp only [Bool.and_eq_true, beq_iff_eq, List.contains_iff_mem] at hp
        obtain ⟨he, hc⟩ := hp
        obtain ⟨xs, m, hm, rfl, hlen, m1, m2⟩ := DataW.trod_array hu h
        have : m = fuel := by omega
        subst this
        have hrg : ∀ i : Nat, (rowsD (xs.map (·.1)))[i]? = (xs[i]?).map fun y => cellsD y.1 := by
          intro i; rw [rowsD_get]; simp
          cases xs[i]? <;> rfl
        have hrl : (rowsD (xs.map (·.1))).length = n := by rw [rowsD_length]; simp [m1]
        have hrow : ∀ (i : Nat) y, xs[i]? = some y → LR w (cellsD y.1) ((cs.drop (i * P.cellsOf e)).take (P.cellsOf e)) ∧ Ty P m e (cellsD y.1) := by
          intro i y hy
          have hi : i < n := by have := getElem?_lt hy; omega
          obtain ⟨q1, q2, _⟩ := ih e _ y he ((m2 i hi).trans hy)
          exact ⟨q1, q2⟩
        refine ⟨?_, ⟨rowsD (xs.map (·.1)), hrl, by simp only [cellsD, partsD_eq], fun row hr => ?_⟩, hlen⟩
        · simp only [cellsD, partsD_eq]
          have hsum : ∀ m : Nat, (List.replicate m (P.cellsOf e)).foldl (· + ·) 0 = m * P.cellsOf e := by
            intro m
            have hf : ∀ (l : List Nat) (a : Nat), l.foldl (· + ·) a = a + l.foldl (· + ·) 0 := by
              intro l
              induction l with
              | nil => intro a; rfl
              | cons x r ih => intro a; simp only [List.foldl_cons]; rw [ih, ih (0 + x)]; omega
            induction m with
            | zero => simp
            | succ m ih => rw [List.replicate_succ, List.foldl_cons, hf, ih, Nat.succ_mul]; omega
          refine LR.rows _ (List.replicate n (P.cellsOf e)) cs (by simp [hrl]) (by rw [hsum, hlen, hc]) fun i row k hr hk => ?_
          rw [hrg] at hr
          obtain ⟨y, hy, rfl⟩ := Option.map_eq_some_iff.mp hr
          have hi : i < n := by have := getElem?_lt hy; omega
          rw [List.getElem?_replicate, if_pos hi] at hk
          cases hk
          rw [List.take_replicate, show min i n = i by omega, hsum]
          exact (hrow i y hy).1
        · obtain ⟨i, hi, rfl⟩ := List.getElem_of_mem hr
          have h1 : (rowsD (xs.map (·.1)))[i]? = some ((rowsD (xs.map (·.1)))[i]) := List.getElem?_eq_getElem hi
          rw [hrg] at h1
          obtain ⟨y, hy, hye⟩ := Option.map_eq_some_iff.mp h1
          rw [← hye]; exact (hrow i y hy).2
      | struct fs =>
        rw [Bool.and_eq_true, List.all_eq_true, beq_iff_eq] at hp
        obtain ⟨hfs0, hoff⟩ := hp
        have hfs : ∀ f ∈ fs.toList, f.type ∈ S := fun f hf => by simpa using hfs0 f hf
        obtain ⟨xs, m, hm, rfl, hlen, m1, m2⟩ := DataW.trod_struct hu h
        have : m = fuel := by omega
        subst this
        have hrg : ∀ i : Nat, (rowsD (xs.map (·.1)))[i]? = (xs[i]?).map fun y => cellsD y.1 := by
          intro i; rw [rowsD_get]; simp
          cases xs[i]? <;> rfl
        have hrl : (rowsD (xs.map (·.1))).length = fs.toList.length := by rw [rowsD_length]; simp [m1]
        have hrow : ∀ (i : Nat) y f, xs[i]? = some y → fs.toList[i]? = some f → LR w (cellsD y.1) ((cs.drop f.offset).take (P.cellsOf f.type)) ∧ Ty P m f.type (cellsD y.1) := by
          intro i y f hy hf
          obtain ⟨q1, q2, _⟩ := ih f.type _ y (hfs f (List.mem_of_getElem? hf)) ((m2 i f (by simpa using hf)).trans hy)
          exact ⟨q1, q2⟩
        -- the offsets are sums
        have hgen : ∀ (l : List Field) (o tot : Nat), l.foldl (fun (acc : Option Nat) f => acc.bind fun o => if f.offset == o then some (o + P.cellsOf f.type) else none) (some o) = some tot →
            tot = o + (l.map fun f => P.cellsOf f.type).foldl (· + ·) 0 ∧ ∀ (i : Nat) f, l[i]? = some f → f.offset = o + ((l.map fun f => P.cellsOf f.type).take i).foldl (· + ·) 0 := by
          have hf : ∀ (l : List Nat) (a : Nat), l.foldl (· + ·) a = a + l.foldl (· + ·) 0 := by
            intro l
            induction l with
            | nil => intro a; rfl
            | cons x r ih => intro a; simp only [List.foldl_cons]; rw [ih, ih (0 + x)]; omega
          have hnone : ∀ l : List Field, l.foldl (fun (acc : Option Nat) f => acc.bind fun o => if f.offset == o then some (o + P.cellsOf f.type) else none) none = none := by
            intro l; induction l with
            | nil => rfl
            | cons f r ih => simpa using ih
          intro l
          induction l with
          | nil => intro o tot h; simp at h; subst h; simp
          | cons f r ihl =>
            intro o tot h
            simp only [List.foldl_cons, Option.bind_some] at h
            split at h
            · rename_i ho
              obtain ⟨e1, e2⟩ := ihl _ _ h
              refine ⟨by simp only [List.map_cons, List.foldl_cons]; rw [hf]; omega, fun i g hg => ?_⟩
              cases i with
              | zero => simp at hg ho; subst hg; simpa using ho
              | succ i =>
                simp at hg
                have := e2 i g hg
                simp only [List.map_cons, List.take_succ_cons, List.foldl_cons]
                rw [hf]; omega
            · rw [hnone] at h; cases h
        obtain ⟨g1, g2⟩ := hgen fs.toList 0 _ hoff
        refine ⟨?_, ⟨rowsD (xs.map (·.1)), by simpa using hrl, by simp only [cellsD, partsD_eq], fun i f row hf hr => ?_⟩, hlen⟩
        · simp only [cellsD, partsD_eq]
          refine LR.rows _ (fs.toList.map fun f => P.cellsOf f.type) cs (by simpa using hrl) (by omega) fun i row k hr hk => ?_
          rw [hrg] at hr
          obtain ⟨y, hy, rfl⟩ := Option.map_eq_some_iff.mp hr
          simp only [List.getElem?_map, Option.map_eq_some_iff] at hk
          obtain ⟨f, hf, rfl⟩ := hk
          have := g2 i f hf
          rw [Nat.zero_add] at this
          rw [← this]
          exact (hrow i y f hy hf).1
        · rw [hrg] at hr
          obtain ⟨y, hy, rfl⟩ := Option.map_eq_some_iff.mp hr
          exact (hrow i y f hy (by simpa using hf)).2
      | _ => simp at hp

end
end Go.Proofs.YtjpphhcimpclpaaDoor.AM
end

section
set_option linter.unusedVariables false
set_option linter.unusedSimpArgs false
namespace Go.Proofs.YtjpphhcimpclpaaDoor.AM
open Go Go.ChangeShapes Go.WideShapes Go.RowKit

def aggT (P : Program) (t : Nat) : Bool := match P.underlying t with | some (.struct _) | some (.array _ _) => true | _ => false

/-- An argument out of its cells. -/
def argA (P : Program) (t : Nat) (xs : List PV) : AV :=
  if aggT P t then .agg (xs.map .p) else match xs with | x :: _ => .p x | [] => .undef

section
variable {P : Program} {G : Nat → Option (List PV)} {H : Type} {enc : TypeId × Value → H}

/-- 'ChangeSpec.post' where all that was there is as it was. (After the guide's 'post_of_below', howto/extra-small.md, section 9.) -/
theorem post_of_below {f : Func} {s : ChangeSpec} {apart fresh handsOn again : Bool} {W W' : World} {args : Array Value} {v : Value} {ds gs : List (DataW H)} {before pa pv : List MemPlace}
    (hW : DataW.Whole enc P f.params.toList s.vars apart W args.toList ds gs before)
    (hres : ∀ (b : Nat) (sp : Nat → Bool) (hd : Bool), DataW.TrodAll enc P W' b sp hd f.resultTypes.toList (v.resultList f.resultTypes.size) (s.fn H (ds ++ gs)).results [])
    (hargs : ∀ sp : Nat → Bool, (∀ p ∈ before, sp p.block = true) → DataW.TrodAll enc P W' 0 sp true f.params.toList args.toList (s.fn H (ds ++ gs)).args pa)
    (hvars : ∀ sp : Nat → Bool, (∀ p ∈ before, sp p.block = true) → DataW.TrodVars enc P W' sp s.vars (s.fn H (ds ++ gs)).vars pv)
    (hps : before = pa ++ pv) (hb : Below W.heap.size W W')
    (hok : ∀ (j : Nat) (t : TypeId) (r : Value), f.resultTypes[j]? = some t → (v.resultList f.resultTypes.size)[j]? = some r → Value.okWide P W' .any 0 t r) :
    s.post enc P f apart fresh handsOn again W args v W' := by
  have hlt : ∀ p ∈ before, p.block < W.heap.size := fun p hp => hW.lt p hp
  have hold : ∀ p ∈ before, (fun b => decide (b < W.heap.size)) p.block = true := fun p hp => by simpa using hlt p hp
  refine ⟨ds, gs, before, [], pa, pv, hW, hres _ _ _, hargs _ hold, hvars _ hold, World.keptBut_mono (fun p hp => ⟨hp, ?_⟩) (hb.frame (· ∈ before)), fun _ => ?_⟩
  · rw [hps, List.mem_append] at hp
    exact Or.inr hp
  · obtain ⟨_, _, _, _, _, hz, hn⟩ := hW
    refine ⟨hok, _, _, ([] ++ pa) ++ pv, ⟨[] ++ pa, pv, trodAll_append (hargs _ (fun _ _ => rfl)) (hres _ _ _), hvars _ (fun _ _ => rfl), rfl, ?_, ?_⟩, ?_⟩
    · intro b off hp
      have hin : MemPlace.cell b off ∈ before := by rw [hps]; simpa using hp
      rw [hb.frozen (hlt _ hin)]
      exact hz b off hin
    · intro ha
      have := hn ha
      rw [hps] at this
      simpa using this
    · intro p hp _
      rw [hps]
      simpa using hp

theorem own_nil {ι : Nat → Nat × Nat} {k : Nat} : ¬ own ι [] k := fun ⟨b, bk, h, _⟩ => by simp at h

theorem PRel.weak {w : World} {o : Nat → Prop} {x : PV} {v : Value} (h : PRel w (fun _ => False) x v) (ho : ∀ k, ¬ o k) : PRel w o x v :=
  h.mono (Nat.le_refl _) fun k _ _ => ⟨rfl, ho k⟩

theorem arg_rel {W : World} {S : List Nat} (hS : plainB P S = true) {t : Nat} (ht : t ∈ S) {sp : Nat → Bool} {held : Bool} {v : Value} {d : DataW H} {ps : List MemPlace} (hd : DataW.Trod enc P W 0 sp held t v d ps)
    {r : Reach} {b0 : Nat} (hok : Value.okWide P W r b0 t v) (ι : Nat → Nat × Nat) : VRel ι [] W (argA P t (cellsD d)) v ∧ ∃ fuel, Ty P fuel t (cellsD d) := by
  obtain ⟨fuel, hf⟩ := hd
  obtain ⟨⟨l1, l2⟩, hty, hlen⟩ := trodPV hS fuel t _ _ ht hf
  refine ⟨?_, fuel, hty⟩
  unfold argA aggT
  unfold Value.okWide at hok
  have hpl : plainT P S t = true := by
    have : ∀ t ∈ S, plainT P S t = true := by simpa [plainB] using hS
    exact this t ht
  unfold plainT at hpl
  have agg : ∀ cs, v = .agg cs → VRel ι [] W (.agg ((cellsD d).map .p)) v := by
    intro cs hc
    subst hc
    refine .agg _ _ (by simpa [Value.cells] using l1) fun i x u hx hu => ?_
    simp only [List.getElem?_map, Option.map_eq_some_iff] at hx
    obtain ⟨y, hy, rfl⟩ := hx
    exact .p _ _ ((l2 i y u hy (by simpa [Value.cells] using hu)).weak fun _ => own_nil)
  cases hu : P.underlying t with
  | none => rw [hu] at hpl; simp at hpl
  | some D =>
    rw [hu] at hok hpl
    have one : P.cellsOf t = 1 → (∀ cs, v ≠ .agg cs) → VRel ι [] W (match cellsD d with | x :: _ => .p x | [] => .undef) v := by
      intro h1 hna
      have hc : v.cells = #[v] := by cases v <;> first | rfl | exact absurd rfl (hna _)
      rw [hc] at l1 l2
      match hq : cellsD d, l1, l2 with
      | [x], l1, l2 => exact .p _ _ ((l2 0 x v rfl rfl).weak fun _ => own_nil)
      | [], l1, _ => simp at l1
      | _ :: _ :: _, l1, _ => simp at l1
    cases D with
    | struct fs => obtain ⟨cs, hc, _⟩ := hok; simpa using agg cs hc
    | array n e => obtain ⟨cs, hc, _⟩ := hok; simpa using agg cs hc
    | bool => simpa using one (by simpa using hpl) (fun cs e => by subst e; simp [Cell.okWide, hu, Cell.ok] at hok)
    | int k => simpa using one (by simpa using hpl) (fun cs e => by subst e; simp [Cell.okWide, hu, Cell.ok] at hok)
    | string => simpa using one (by simpa using hpl) (fun cs e => by subst e; simp [Cell.okWide, hu, Cell.ok] at hok)
    | slice e => 
      have h1 : P.cellsOf t = 1 := by simp only [Bool.and_eq_true, beq_iff_eq] at hpl; exact hpl.2
      simpa using one h1 (fun cs e => by subst e; simp [Cell.okWide, hu, Cell.ok] at hok)
    | _ => simp at hpl

theorem args_rel {W : World} {S : List Nat} (hS : plainB P S = true) {sp : Nat → Bool} {held : Bool} {r : Reach} {b0 : Nat} (ι : Nat → Nat × Nat) :
    ∀ (ts : List Nat) (vs : List Value) (ds : List (DataW H)) (ps : List MemPlace), (∀ t ∈ ts, t ∈ S) → DataW.TrodAll enc P W 0 sp held ts vs ds ps →
      (∀ (j : Nat) t v, ts[j]? = some t → vs[j]? = some v → Value.okWide P W r b0 t v) →
      ds.length = ts.length ∧ vs.length = ts.length ∧ (∀ (j : Nat) t v d, ts[j]? = some t → vs[j]? = some v → ds[j]? = some d → VRel ι [] W (argA P t (cellsD d)) v ∧ ∃ fuel, Ty P fuel t (cellsD d))
  | [], [], [], ps, _, h, _ => ⟨rfl, rfl, fun j t v d ht => by simp at ht⟩
  | t :: ts, v :: vs, d :: ds, ps, hin, h, hok => by
    obtain ⟨p, q, h1, h2, rfl⟩ := h
    obtain ⟨l1, l2, l3⟩ := args_rel hS ι ts vs ds q (fun t ht => hin t (by simp [ht])) h2 (fun j t v ht hv => hok (j + 1) t v (by simpa using ht) (by simpa using hv))
    refine ⟨by simp [l1], by simp [l2], fun j t' v' d' ht hv hd => ?_⟩
    cases j with
    | zero =>
      simp at ht hv hd
      subst ht; subst hv; subst hd
      exact arg_rel hS (hin t (by simp)) h1 (hok 0 t v rfl rfl) ι
    | succ j => simp at ht hv hd; exact l3 j t' v' d' ht hv hd
  | [], [], _ :: _, _, _, h, _ => h.elim
  | [], _ :: _, _, _, _, h, _ => h.elim
  | _ :: _, [], _, _, _, h, _ => h.elim
  | _ :: _, _ :: _, [], _, _, h, _ => h.elim

theorem args_stay {W W' : World} (hl : laidOutB P = true) (hb : Below W.heap.size W W') {sp' : Nat → Bool} : ∀ (ts : List Nat) (vs : List Value) (ds : List (DataW H)) (ps : List MemPlace),
    (∀ t ∈ ts, P.readableRec t = true ∧ t < P.types.size) → DataW.TrodAll enc P W 0 (fun _ => true) true ts vs ds ps → (∀ p ∈ ps, p.block < W.heap.size) → (∀ p ∈ ps, sp' p.block = true) →
      DataW.TrodAll enc P W' 0 sp' true ts vs ds ps
  | [], [], [], ps, _, h, _, _ => h
  | t :: ts, v :: vs, d :: ds, ps, hin, h, hlt, hsp => by
    obtain ⟨p, q, h1, h2, rfl⟩ := h
    obtain ⟨r1, r2⟩ := hin t (by simp)
    exact ⟨p, q, WideElems.Trod_stays hl r1 r2 h1 (fun x hx => hb.same (hlt x (by simp [hx]))) (fun x hx => hsp x (by simp [hx])),
      args_stay hl hb ts vs ds q (fun t ht => hin t (by simp [ht])) h2 (fun x hx => hlt x (by simp [hx])) (fun x hx => hsp x (by simp [hx])), rfl⟩
  | [], [], _ :: _, _, _, h, _, _ => h.elim
  | [], _ :: _, _, _, _, h, _, _ => h.elim
  | _ :: _, [], _, _, _, h, _, _ => h.elim
  | _ :: _, _ :: _, [], _, _, h, _, _ => h.elim

/-- **A LAW**: from what abstract calls of it come to, what its row asks of each call. -/
theorem law_contract {f : FuncId} {fn : Func} {S : List Nat} (hS : plainB P S = true) (hl : laidOutB P = true) {ts : List Nat} (hts : fn.params.toList = ts) (hin : ∀ t ∈ ts, t ∈ S) (hrd : ∀ t ∈ ts, P.readableRec t = true ∧ t < P.types.size)
    {bt : Nat} (hres : fn.resultTypes = #[bt]) (hbt : P.underlying bt = some .bool)
    {s : ChangeSpec} (hsv : s.vars = []) (hsf : ∀ (H : Type) (ds : List (DataW H)), ds.length = ts.length → s.fn H ds = { results := [.lit (.bool true)], args := ds })
    (hlaw : ∀ xss : List (List PV), xss.length = ts.length → (∀ (j : Nat) t xs, ts[j]? = some t → xss[j]? = some xs → ∃ fuel, Ty P fuel t xs) →
      ACalls P G f (List.zipWith (argA P) ts xss) [] fun r h' => r = .b true ∧ h' = [])
    {apart fresh handsOn again : Bool} {W : World} (hG : ∀ g cells, G g = some cells → PinRel W (fun _ => False) cells g 0) {base : Nat} {args : Array Value} {ds gs : List (DataW H)} {before : List MemPlace}
    (hval : ∀ (j : Nat) t v, fn.params[j]? = some t → args[j]? = some v → Value.okWide P W .any base t v)
    (hW : DataW.Whole enc P fn.params.toList s.vars apart W args.toList ds gs before) :
    Calls P f args W fun e W' => ∃ v, e = .returned v ∧ s.post enc P fn apart fresh handsOn again W args v W' := by
  have hW' := hW
  obtain ⟨p, q, hA, hV, hps, hfz, hnd⟩ := hW
  rw [hsv] at hV
  obtain ⟨rfl, rfl⟩ := trodVars_none hV
  rw [hts] at hA
  obtain ⟨l1, l2, l3⟩ := args_rel hS (fun _ => (0, 0)) ts args.toList ds p hin hA (fun j t v ht hv => hval j t v (by rw [← hts] at ht; simpa using ht) (by simpa using hv))
  have hSim : SimH P G (fun _ => (0, 0)) [] W := ⟨⟨fun b bk hb => by simp at hb, fun b b' bk bk' hb => by simp at hb⟩, fun g cells hg => (hG g cells hg).mono (Nat.le_refl _) fun k _ _ => ⟨rfl, own_nil⟩⟩
  have hcall := hlaw (ds.map cellsD) (by simp [l1]) (fun j t xs ht hx => by
    simp only [List.getElem?_map, Option.map_eq_some_iff] at hx
    obtain ⟨d, hd, rfl⟩ := hx
    have hj : j < args.toList.length := by have := getElem?_lt ht; omega
    exact (l3 j t args.toList[j] d ht (List.getElem?_eq_getElem hj) hd).2) (fun _ => (0, 0)) W args hSim ⟨by simp [l1]; simpa using l2.symm, fun i x v hx hv => by
      simp only [List.getElem?_zipWith, List.getElem?_map] at hx
      cases ht : ts[i]? with
      | none => simp [ht] at hx
      | some t =>
        cases hd : ds[i]? with
        | none => simp [ht, hd] at hx
        | some d =>
          simp [ht, hd] at hx
          rw [← hx]
          exact (l3 i t v d ht (by simpa using hv) hd).1⟩
  refine hcall.mono fun e W' ⟨v, r, h', ι', he, ⟨hr, hh⟩, hS', hv, hev⟩ => ⟨v, he, ?_⟩
  subst hr
  subst hh
  have := hv.bool_inv
  subst this
  have hb : Below W.heap.size W W' := ⟨hev.os, hev.tape, hev.output, hev.size, fun k hk => (hev.keep k hk own_nil).1⟩
  have hbefore : before = p := by simpa using hps
  have hfn : s.fn H (ds ++ []) = { results := [.lit (.bool true)], args := ds } := by rw [List.append_nil]; exact hsf H ds l1
  have hlt : ∀ x ∈ before, x.block < W.heap.size := fun x hx => hW'.lt x hx
  refine post_of_below (pa := p) (pv := []) hW' (fun b sp hd => ?_) (fun sp hsp => ?_) (fun sp _ => ?_) (by simpa using hps) hb ?_
  · rw [hfn, hres]
    exact trodAll_mk1 (shut_bool hbt true)
  · rw [hfn, hts]
    exact args_stay hl hb ts args.toList ds p hrd hA (fun x hx => hlt x (by rw [hbefore]; exact hx)) (fun x hx => hsp x (by rw [hbefore]; exact hx))
  · rw [hfn, hsv]; rfl
  · exact ok_one hres rfl (okWide_bool_mk hbt true)

/-- A listed variable, as a place of lasting cells. -/
theorem laid_pin {W : World} {S : List Nat} (hS : plainB P S = true) {name : String} {D : DataW Unit} {g0 t0 : Nat} (hg : P.globalNamed name = some g0) (ht : (P.globals[g0]?).map (·.type) = some t0) (hin : t0 ∈ S)
    (hpos : cellsD D ≠ []) (h : ∃ g t cs fuel sp held p, P.globalNamed name = some g ∧ (P.globals[g]?).map (·.type) = some t ∧ W.var? P name = some cs ∧ DataW.trod (fun _ => ()) P W 0 sp held fuel t cs.toList = some (D, p)) :
    PinRel W (fun _ => False) (cellsD D) g0 0 := by
  obtain ⟨g, t, cs, fuel, sp, held, p, e1, e2, e3, e4⟩ := h
  obtain rfl := Option.some.inj (hg.symm.trans e1)
  obtain rfl := Option.some.inj (ht.symm.trans e2)
  obtain ⟨⟨l1, l2⟩, _, _⟩ := trodPV hS fuel t0 _ _ hin e4
  have hcell : ∀ i : Nat, W.cell? ⟨g0, i, none⟩ = cs[i]? := fun i => World.var?_cell e1 e3 i
  refine ⟨fun h => h, ?_, fun j x hx => ?_⟩
  · have h0 : 0 < cs.toList.length := by
      rw [← l1]; exact List.length_pos_iff.mpr hpos
    have hc : W.cell? ⟨g0, 0, none⟩ = some (cs[0]'(by simpa using h0)) := by rw [hcell]; simp
    exact block_lt_of_cell hc
  · have hj : j < cs.toList.length := Nat.lt_of_lt_of_eq (getElem?_lt hx) l1
    refine ⟨cs.toList[j], by rw [Nat.zero_add, hcell]; simp, l2 j x _ hx (by simp)⟩

end
end Go.Proofs.YtjpphhcimpclpaaDoor.AM
end

section
set_option linter.unusedVariables false
set_option linter.unusedSimpArgs false
namespace Go.Proofs.YtjpphhcimpclpaaDoor.AM
open Go

section
variable {P : Program}

theorem ty_int {k : IntKind} {a b : Nat} {z : Option (List PV)} {t fuel : Nat} {xs : List PV} (ht : tinfo P t = some ⟨.int k, a, b, z⟩) (h : Ty P fuel t xs) : ∃ n, InRange k n ∧ xs = [.int k n] := by
  obtain ⟨_, d, _, h2, h3, _⟩ := tinfo_some ht
  have := kind_int h3; subst this
  cases fuel with
  | zero => exact h.elim
  | succ m => unfold Ty at h; rw [h2] at h; exact h

theorem ty_bool {a b : Nat} {z : Option (List PV)} {t fuel : Nat} {xs : List PV} (ht : tinfo P t = some ⟨.bool, a, b, z⟩) (h : Ty P fuel t xs) : ∃ x, xs = [.bool x] := by
  obtain ⟨_, d, _, h2, h3, _⟩ := tinfo_some ht
  have := kind_bool h3; subst this
  cases fuel with
  | zero => exact h.elim
  | succ m => unfold Ty at h; rw [h2] at h; exact h

theorem ty_slice {e a b : Nat} {z : Option (List PV)} {t fuel : Nat} {xs : List PV} (ht : tinfo P t = some ⟨.slice e, a, b, z⟩) (h : Ty P fuel t xs) : ∃ (m : Nat) (rows : List (List PV)), fuel = m + 1 ∧ xs = [.sl rows] ∧ ∀ row ∈ rows, Ty P m e row := by
  obtain ⟨_, d, _, h2, h3, _⟩ := tinfo_some ht
  have := kind_slice h3; subst this
  cases fuel with
  | zero => exact h.elim
  | succ m => unfold Ty at h; rw [h2] at h; obtain ⟨rows, h1, h2⟩ := h; exact ⟨m, rows, rfl, h1, h2⟩

theorem ty_array {n e a b : Nat} {z : Option (List PV)} {t fuel : Nat} {xs : List PV} (ht : tinfo P t = some ⟨.array n e, a, b, z⟩) (h : Ty P fuel t xs) : ∃ (m : Nat) (rows : List (List PV)), fuel = m + 1 ∧ rows.length = n ∧ xs = rows.flatMap id ∧ ∀ row ∈ rows, Ty P m e row := by
  obtain ⟨_, d, _, h2, h3, _⟩ := tinfo_some ht
  have := kind_array h3; subst this
  cases fuel with
  | zero => exact h.elim
  | succ m => unfold Ty at h; rw [h2] at h; obtain ⟨rows, h1, h2, h3⟩ := h; exact ⟨m, rows, rfl, h1, h2, h3⟩

theorem ty_struct {fs : List (Nat × Nat × Nat)} {a b : Nat} {z : Option (List PV)} {t fuel : Nat} {xs : List PV} (ht : tinfo P t = some ⟨.struct fs, a, b, z⟩) (h : Ty P fuel t xs) :
    ∃ (m : Nat) (rows : List (List PV)), fuel = m + 1 ∧ rows.length = fs.length ∧ xs = rows.flatMap id ∧ ∀ (i : Nat) f row, fs[i]? = some f → rows[i]? = some row → Ty P m f.2.2 row := by
  obtain ⟨_, d, _, h2, h3, _⟩ := tinfo_some ht
  obtain ⟨F, rfl, h4⟩ := kind_struct h3
  cases fuel with
  | zero => exact h.elim
  | succ m =>
    unfold Ty at h
    rw [h2] at h
    obtain ⟨rows, g1, g2, g3⟩ := h
    refine ⟨m, rows, rfl, by rw [h4]; simpa using g1, g2, fun i f row hf hr => ?_⟩
    rw [h4] at hf
    simp only [List.getElem?_map, Option.map_eq_some_iff] at hf
    obtain ⟨fd, hfd, rfl⟩ := hf
    exact g3 i fd row (by simpa using hfd) hr

/-- Rows of numbers. -/
theorem ty_ints {k : IntKind} {a b : Nat} {z : Option (List PV)} {e m : Nat} (ht : tinfo P e = some ⟨.int k, a, b, z⟩) : ∀ (rows : List (List PV)), (∀ row ∈ rows, Ty P m e row) → ∃ l : List Int, l.length = rows.length ∧ (∀ n ∈ l, InRange k n) ∧ rows = l.map fun n => [.int k n]
  | [], _ => ⟨[], rfl, by simp, rfl⟩
  | r :: rows, h => by
    obtain ⟨n, hn, rfl⟩ := ty_int ht (h r (by simp))
    obtain ⟨l, h1, h2, h3⟩ := ty_ints ht rows fun row hr => h row (by simp [hr])
    exact ⟨n :: l, by simp [h1], by simpa using ⟨hn, h2⟩, by simp [h3]⟩

theorem flat_ints {k : IntKind} (l : List Int) : (l.map fun n => [PV.int k n]).flatMap id = l.map (.int k) := by
  induction l with
  | nil => rfl
  | cons x r ih => simp only [List.map_cons, List.flatMap_cons, ih]; rfl

/-- An array of numbers. -/
theorem ty_intarr {k : IntKind} {a b a' b' n e t fuel : Nat} {z z' : Option (List PV)} {xs : List PV} (hta : tinfo P t = some ⟨.array n e, a, b, z⟩) (ht : tinfo P e = some ⟨.int k, a', b', z'⟩) (h : Ty P fuel t xs) :
    ∃ l : List Int, l.length = n ∧ (∀ x ∈ l, InRange k x) ∧ xs = l.map (.int k) := by
  obtain ⟨m, rows, rfl, h1, rfl, h3⟩ := ty_array hta h
  obtain ⟨l, g1, g2, g3⟩ := ty_ints ht rows h3
  exact ⟨l, by omega, g2, by rw [g3, flat_ints]⟩

theorem argA_at {i : TI} {t : Nat} (ht : tinfo P t = some i) (xs : List PV) : argA P t xs = if i.isAgg then .agg (xs.map .p) else match xs with | x :: _ => .p x | [] => .undef := by
  obtain ⟨_, d, _, h2, h3, _⟩ := tinfo_some ht
  have : aggT P t = i.isAgg := by
    unfold aggT TI.isAgg
    rw [h2, ← h3]
    cases d <;> rfl
  unfold argA
  rw [this]
  all_goals (cases xs <;> rfl)
end
end Go.Proofs.YtjpphhcimpclpaaDoor.AM
end

section
set_option linter.unusedVariables false
set_option linter.unusedSimpArgs false
set_option maxRecDepth 4000
namespace Go.Proofs.YtjpphhcimpclpaaDoor.AM
open Go Go.Proofs Go.ChangeShapes Go.WideShapes Go.RowKit

theorem words_plain : plainB Tryd.prog [3, 9, 158, 159] = true := by kernel_rfl

theorem gW_pin {W : World} (h : laidMetH Tryd.prog [("treenail/term.words", Rows.laid_treenail_term_words)] W) : ∀ g cells, gW g = some cells → PinRel W (fun _ => False) cells g 0 := by
  intro g cells hg
  unfold gW at hg
  split at hg
  · rename_i e
    cases hg
    subst e
    rw [MakeChecks.laidMetH_plain _ _ _ (by kernel_rfl)] at h
    obtain ⟨ps, ⟨g0, t0, cs0, f0, p0, q0, hg0, ht0, hv0, hd0, _⟩, _⟩ := h
    have e : cellsD (Rows.laid_treenail_term_words : DataW Unit) = wcells := by kernel_rfl
    rw [← e]
    exact laid_pin words_plain (name := "treenail/term.words") (t0 := 159) (by kernel_rfl) (by kernel_rfl) (by decide) (by rw [e]; unfold wcells; simp) ⟨g0, t0, cs0, f0, _, _, p0, hg0, ht0, hv0, hd0⟩
  · cases hg

/-- Typed cells of a term are a term. -/
theorem term_of : ∀ (fuel : Nat) (xs : List PV), Ty Tryd.prog fuel 58 xs → ∃ t : Tm, xs = eT t
  | 0, xs, h => h.elim
  | fuel + 1, xs, h => by
    obtain ⟨m, rows, e, hl, rfl, hf⟩ := ty_struct T58 h
    match rows, hl with
    | [r0, r1, r2], _ =>
      have h0 : Ty Tryd.prog m 3 r0 := hf 0 _ r0 rfl rfl
      have h1 : Ty Tryd.prog m 3 r1 := hf 1 _ r1 rfl rfl
      have h2 : Ty Tryd.prog m 56 r2 := hf 2 _ r2 rfl rfl
      obtain ⟨o, _, rfl⟩ := ty_int T3 h0
      obtain ⟨n, _, rfl⟩ := ty_int T3 h1
      obtain ⟨m', rows, e2, rfl, hr⟩ := ty_slice T56 h2
      have key : ∀ rows : List (List PV), (∀ row ∈ rows, Ty Tryd.prog m' 58 row) → ∃ ks : List Tm, rows = ks.map eT := by
        intro rows
        induction rows with
        | nil => intro _; exact ⟨[], rfl⟩
        | cons r rs ih =>
          intro hh
          obtain ⟨t, ht⟩ := term_of m' r (hh r (by simp))
          obtain ⟨ks, hks⟩ := ih fun row hrow => hh row (by simp [hrow])
          exact ⟨t :: ks, by rw [ht, hks]; rfl⟩
      obtain ⟨ks, hks⟩ := key rows hr
      refine ⟨.mk o n ks, ?_⟩
      rw [hks]
      simp [eT]
termination_by fuel => fuel
decreasing_by omega

theorem rows_of {α : Type} {e : α → List PV} {p : List PV → Prop} (h : ∀ row, p row → ∃ a, row = e a) : ∀ rows : List (List PV), (∀ row ∈ rows, p row) → ∃ l : List α, rows = l.map e
  | [], _ => ⟨[], rfl⟩
  | r :: rs, hr => by
    obtain ⟨a, ha⟩ := h r (hr r (by simp))
    obtain ⟨l, hl⟩ := rows_of h rs fun row hrow => hr row (by simp [hrow])
    exact ⟨a :: l, by rw [ha, hl]; rfl⟩

theorem node_of {fuel : Nat} {xs : List PV} (h : Ty Tryd.prog fuel 60 xs) : ∃ k : Nd, xs = eN k := by
  obtain ⟨m, rows, e, hl, rfl, hf⟩ := ty_struct T60 h
  match rows, hl with
  | [r0, r1, r2], _ =>
    have h0 : Ty Tryd.prog m 3 r0 := hf 0 _ r0 rfl rfl
    have h1 : Ty Tryd.prog m 3 r1 := hf 1 _ r1 rfl rfl
    have h2 : Ty Tryd.prog m 58 r2 := hf 2 _ r2 rfl rfl
    obtain ⟨o, _, rfl⟩ := ty_int T3 h0
    obtain ⟨n, _, rfl⟩ := ty_int T3 h1
    obtain ⟨t, rfl⟩ := term_of _ _ h2
    exact ⟨⟨o, n, t⟩, by simp [eN, eT_eq]⟩

theorem flow_of {fuel : Nat} {xs : List PV} (h : Ty Tryd.prog fuel 71 xs) : ∃ k : Fl, xs = eF k := by
  obtain ⟨m, rows, e, hl, rfl, hf⟩ := ty_struct T71 h
  match rows, hl with
  | [r0, r1, r2, r3], _ =>
    have h0 : Ty Tryd.prog m 3 r0 := hf 0 _ r0 rfl rfl
    have h1 : Ty Tryd.prog m 3 r1 := hf 1 _ r1 rfl rfl
    have h2 : Ty Tryd.prog m 4 r2 := hf 2 _ r2 rfl rfl
    have h3 : Ty Tryd.prog m 58 r3 := hf 3 _ r3 rfl rfl
    obtain ⟨o, _, rfl⟩ := ty_int T3 h0
    obtain ⟨n, _, rfl⟩ := ty_int T3 h1
    obtain ⟨b, rfl⟩ := ty_bool T4 h2
    obtain ⟨t, rfl⟩ := term_of _ _ h3
    exact ⟨⟨o, n, b, t⟩, by simp [eF, eT_eq]⟩

theorem arg_net {fuel : Nat} {xs : List PV} (h : Ty Tryd.prog fuel 25 xs) : ∃ (ns : List Nd) (fl : List Fl), argA Tryd.prog 25 xs = aNet ns fl := by
  obtain ⟨m, rows, e, hl, rfl, hf⟩ := ty_struct T25 h
  match rows, hl with
  | [r0, r1], _ =>
    have h0 : Ty Tryd.prog m 22 r0 := hf 0 _ r0 rfl rfl
    have h1 : Ty Tryd.prog m 23 r1 := hf 1 _ r1 rfl rfl
    obtain ⟨m0, rows0, _, rfl, hr0⟩ := ty_slice T22 h0
    obtain ⟨m1, rows1, _, rfl, hr1⟩ := ty_slice T23 h1
    obtain ⟨ns, rfl⟩ := rows_of (fun row hrow => node_of hrow) rows0 hr0
    obtain ⟨fl, rfl⟩ := rows_of (fun row hrow => flow_of hrow) rows1 hr1
    exact ⟨ns, fl, by rw [argA_at T25]; rfl⟩
end Go.Proofs.YtjpphhcimpclpaaDoor.AM
end

section
set_option linter.unusedVariables false
set_option linter.unusedSimpArgs false
namespace Go.Proofs.YtjpphhcimpclpaaDoor.AM
open Go

/-! ### Equality, told by a program -/
mutual
def pvEq : PV → PV → Bool
  | .int k n, .int k' n' => decide (k = k') && decide (n = n')
  | .bool a, .bool b => a == b
  | .str s, .str t => decide (s = t)
  | .nils, .nils => true
  | .nilp, .nilp => true
  | .nilf, .nilf => true
  | .sl r, .sl r' => pvEqR r r'
  | _, _ => false
def pvEqL : List PV → List PV → Bool
  | [], [] => true
  | x :: r, y :: r' => pvEq x y && pvEqL r r'
  | _, _ => false
def pvEqR : List (List PV) → List (List PV) → Bool
  | [], [] => true
  | x :: r, y :: r' => pvEqL x y && pvEqR r r'
  | _, _ => false
end

mutual
theorem pvEq_eq : ∀ (x y : PV), pvEq x y = true → x = y
  | .int k n, y, h => by cases y <;> simp [pvEq] at h; rw [h.1, h.2]
  | .bool a, y, h => by cases y <;> simp [pvEq] at h; rw [h]
  | .str s, y, h => by cases y <;> simp [pvEq] at h; rw [h]
  | .nils, y, h => by cases y <;> simp [pvEq] at h; rfl
  | .nilp, y, h => by cases y <;> simp [pvEq] at h; rfl
  | .nilf, y, h => by cases y <;> simp [pvEq] at h; rfl
  | .sl r, y, h => by
    cases y with
    | sl r' => simp only [pvEq] at h; rw [pvEqR_eq r r' h]
    | _ => simp [pvEq] at h
theorem pvEqL_eq : ∀ (x y : List PV), pvEqL x y = true → x = y
  | [], y, h => by cases y <;> simp [pvEqL] at h; rfl
  | a :: r, y, h => by
    cases y with
    | nil => simp [pvEqL] at h
    | cons b r' => simp only [pvEqL, Bool.and_eq_true] at h; rw [pvEq_eq a b h.1, pvEqL_eq r r' h.2]
theorem pvEqR_eq : ∀ (x y : List (List PV)), pvEqR x y = true → x = y
  | [], y, h => by cases y <;> simp [pvEqR] at h; rfl
  | a :: r, y, h => by
    cases y with
    | nil => simp [pvEqR] at h
    | cons b r' => simp only [pvEqR, Bool.and_eq_true] at h; rw [pvEqL_eq a b h.1, pvEqR_eq r r' h.2]
end

mutual
def avEq : AV → AV → Bool
  | .p x, .p y => pvEq x y
  | .agg l, .agg l' => avEqL l l'
  | .tup l, .tup l' => avEqL l l'
  | .fn f l, .fn f' l' => decide (f = f') && avEqL l l'
  | .ref b g o s n, .ref b' g' o' s' n' => decide (b = b') && (decide (g = g') && (decide (o = o') && (decide (s = s') && decide (n = n'))))
  | .ptr b g o, .ptr b' g' o' => decide (b = b') && (decide (g = g') && decide (o = o'))
  | .pin c, .pin c' => pvEqL c c'
  | _, _ => false
def avEqL : List AV → List AV → Bool
  | [], [] => true
  | x :: r, y :: r' => avEq x y && avEqL r r'
  | _, _ => false
end

mutual
theorem avEq_eq : ∀ (x y : AV), avEq x y = true → x = y
  | .p x, y, h => by cases y <;> simp [avEq] at h; rw [pvEq_eq _ _ h]
  | .agg l, y, h => by cases y <;> simp [avEq] at h; rw [avEqL_eq _ _ h]
  | .tup l, y, h => by cases y <;> simp [avEq] at h; rw [avEqL_eq _ _ h]
  | .fn f l, y, h => by cases y <;> simp [avEq] at h; rw [h.1, avEqL_eq _ _ h.2]
  | .ref b g o s n, y, h => by cases y <;> simp [avEq] at h; obtain ⟨rfl, rfl, rfl, rfl, rfl⟩ := h; rfl
  | .ptr b g o, y, h => by cases y <;> simp [avEq] at h; obtain ⟨rfl, rfl, rfl⟩ := h; rfl
  | .pin c, y, h => by cases y <;> simp [avEq] at h; rw [pvEqL_eq _ _ h]
theorem avEqL_eq : ∀ (x y : List AV), avEqL x y = true → x = y
  | [], y, h => by cases y <;> simp [avEqL] at h; rfl
  | a :: r, y, h => by
    cases y with
    | nil => simp [avEqL] at h
    | cons b r' => simp only [avEqL, Bool.and_eq_true] at h; rw [avEq_eq a b h.1, avEqL_eq r r' h.2]
end

def heapEq : Heap → Heap → Bool
  | [], [] => true
  | none :: r, none :: r' => heapEq r r'
  | some ⟨g, c⟩ :: r, some ⟨g', c'⟩ :: r' => decide (g = g') && (avEqL c c' && heapEq r r')
  | _, _ => false

theorem heapEq_eq : ∀ (x y : Heap), heapEq x y = true → x = y
  | [], y, h => by cases y <;> simp [heapEq] at h; rfl
  | none :: r, y, h => by
    match y, h with
    | none :: r', h => simp only [heapEq] at h; rw [heapEq_eq r r' h]
    | some _ :: r', h => simp [heapEq] at h
    | [], h => simp [heapEq] at h
  | some ⟨g, c⟩ :: r, y, h => by
    match y, h with
    | some ⟨g', c'⟩ :: r', h =>
      simp only [heapEq, Bool.and_eq_true, decide_eq_true_eq] at h
      rw [h.1, avEqL_eq c c' h.2.1, heapEq_eq r r' h.2.2]
    | none :: r', h => simp [heapEq] at h
    | [], h => simp [heapEq] at h

mutual
def avltB (m : Nat) : AV → Bool
  | .p _ => true
  | .agg l => avltsB m l
  | .tup l => avltsB m l
  | .fn _ l => avltsB m l
  | .ref b _ _ _ _ => decide (b < m)
  | .ptr b _ _ => decide (b < m)
  | .pin _ => true
def avltsB (m : Nat) : List AV → Bool
  | [] => true
  | x :: r => avltB m x && avltsB m r
end

mutual
theorem avltB_lt {m : Nat} : ∀ x : AV, avltB m x = true → AVlt m x
  | .p x, _ => .p x
  | .agg l, h => .agg l (avltsB_lt l (by simpa [avltB] using h))
  | .tup l, h => .tup l (avltsB_lt l (by simpa [avltB] using h))
  | .fn f l, h => .fn f l (avltsB_lt l (by simpa [avltB] using h))
  | .ref b g o s n, h => .ref b g o s n (by simpa [avltB] using h)
  | .ptr b g o, h => .ptr b g o (by simpa [avltB] using h)
  | .pin c, _ => .pin c
theorem avltsB_lt {m : Nat} : ∀ l : List AV, avltsB m l = true → ∀ x ∈ l, AVlt m x
  | [], _ => fun x hx => by simp at hx
  | y :: r, h => fun x hx => by
    simp only [avltsB, Bool.and_eq_true] at h
    rcases List.mem_cons.mp hx with e | e
    · rw [e]; exact avltB_lt y h.1
    · exact avltsB_lt r h.2 x e
end

/-! ### What lasts, once more, as a program that the kernel can run -/
def mapO {α β : Type} (f : α → Option β) : List α → Option (List β)
  | [] => some []
  | x :: r => match f x, mapO f r with
    | some y, some ys => some (y :: ys)
    | _, _ => none

def purX (h : Heap) (n : Nat) : Nat → AV → Option PV
  | 0, x => match x with
    | .p .nils => some (.sl [])
    | .p x => some x
    | _ => none
  | fuel + 1, x => match x with
    | .p .nils => some (.sl [])
    | .p x => some x
    | .ref b g off sz len =>
      if len = 0 then some (.sl []) else
      match blkAt h b g with
      | some cells => if n ≤ b ∧ off + len * sz ≤ cells.length then (mapO (purX h n fuel) ((cells.drop off).take (len * sz))).map fun l => .sl (chunk sz len l) else none
      | none => none
    | _ => none

theorem pursX_of {h : Heap} {n fuel : Nat} (hp : ∀ x, pur h n fuel x = purX h n fuel x) : ∀ l, purs h n fuel l = mapO (purX h n fuel) l
  | [] => by unfold purs mapO; rfl
  | x :: r => by unfold purs mapO; rw [hp x, pursX_of hp r]; cases purX h n fuel x <;> cases mapO (purX h n fuel) r <;> rfl

theorem purX_eq (h : Heap) (n : Nat) : ∀ fuel x, pur h n fuel x = purX h n fuel x := by
  intro fuel
  induction fuel with
  | zero =>
    intro x
    cases x with
    | p y => cases y <;> (unfold pur purX; rfl)
    | _ => unfold pur purX; rfl
  | succ fuel ih =>
    intro x
    cases x with
    | p y => cases y <;> (unfold pur purX; rfl)
    | ref b g off sz len =>
      unfold pur purX
      dsimp only
      by_cases h0 : len = 0
      · rw [if_pos h0, if_pos h0]
      · rw [if_neg h0, if_neg h0]
        cases hb : blkAt h b g with
        | none => rfl
        | some cells =>
          dsimp only
          rw [pursX_of ih]
    | _ => unfold pur purX; rfl

def lastAX (h : Heap) (n : Nat) : AV → Option AV
  | .agg cells => (mapO (purX h n 5) cells).map fun l => .agg (l.map .p)
  | .ptr b g off => if b < n then some (.ptr b g off) else none
  | x => (purX h n 5 x).map .p

theorem lastAX_eq (h : Heap) (n : Nat) (x : AV) : lastA h n x = lastAX h n x := by
  cases x with
  | agg cells => unfold lastA lastAX; dsimp only; rw [pursX_of (purX_eq h n 5)]
  | ptr b g off => rfl
  | _ => unfold lastA lastAX; dsimp only; rw [purX_eq]

def lastVX (h : Heap) (n : Nat) : AV → Option AV
  | .tup vs => (mapO (lastAX h n) vs).map .tup
  | x => lastAX h n x

theorem lastAsX (h : Heap) (n : Nat) : ∀ l, lastAs h n l = mapO (lastAX h n) l
  | [] => by unfold lastAs mapO; rfl
  | x :: r => by unfold lastAs mapO; rw [lastAX_eq, lastAsX h n r]; cases lastAX h n x <;> cases mapO (lastAX h n) r <;> rfl

theorem lastVX_eq (h : Heap) (n : Nat) (x : AV) : lastV h n x = lastVX h n x := by
  cases x with
  | tup vs => unfold lastV lastVX; dsimp only; rw [lastAsX]
  | _ => unfold lastV lastVX; exact lastAX_eq h n _

/-! ### The evaluator -/
section
variable (P : Program) (G : Nat → Option (List PV)) (rl : List String)

abbrev Callee := FuncId → List AV → Heap → Option (AV × Heap)

def rExec (call : Callee) (o : Oper) (s : St) : Option (AV × Heap) :=
  match callOf o with
  | some (f, args) =>
    match evalA G s f, evals (evalA G s) args.toList with
    | some (.fn g caps), some xs => call g (xs ++ caps) s.heap
    | _, _ => none
  | none => opA P rl o (evalA G s) s.heap

def rOp (call : Callee) (ops : Array Oper) (o : Oper) (s : St) : Option St :=
  match wantA ops o s with
  | some true => match rExec P G rl call o s with
    | some (r, h') => some (({ s with heap := h' } : St).put o.dst r)
    | none => none
  | some false => some (s.put o.dst .undef)
  | none => none

def rOps (call : Callee) (ops : Array Oper) : List Oper → St → Option St
  | [], s => some s
  | o :: rest, s => match rOp P G rl call ops o s with
    | some s1 => rOps call ops rest s1
    | none => none

def rqOp (call : Callee) (ops : Array Oper) (o : Oper) (s : St) : Option St :=
  match wantA ops o s with
  | some true => match rExec P G rl call o s with
    | some (r, h') => if heapEq h' s.heap then some (s.put o.dst r) else none
    | none => none
  | some false => some (s.put o.dst .undef)
  | none => none

def rqOps (call : Callee) (ops : Array Oper) : List Oper → St → Option St
  | [], s => some s
  | o :: rest, s => match rqOp P G rl call ops o s with
    | some s1 => rqOps call ops rest s1
    | none => none

/-- All that the blocks that are laid by can hold. -/
def cands : List (List PV) → List Heap
  | [] => [[]]
  | z :: rest => (cands rest).flatMap fun R => [some ⟨0, []⟩ :: R, some ⟨1, z.map .p⟩ :: R]

/-- Operations that make a value out of values. -/
def constB (o : Oper) : Bool := match o.op with | .build _ _ | .buildSlice _ _ _ | .binOp _ _ _ _ _ | .unOp _ _ _ | .makeFunc _ _ _ | .index _ _ _ | .field _ _ _ => true | _ => false
def rConst (o : Oper) (fr : Nat → Option AV) (nt : Nat) : Option AV :=
  (opA P rl o (evalA G ⟨fr, nt, []⟩) []).bind fun q => if q.2.isEmpty then some q.1 else none

/-- What a quiet operation yields, whatever the blocks that are laid by can hold. -/
def rStab (call : Callee) (o : Oper) (fr : Nat → Option AV) (nt : Nat) (hp : Heap) (cs : List Heap) : Option AV :=
  match o.op with
  | .load t a => (evalA G ⟨fr, nt, hp⟩ a).bind fun x => loadA P hp t x
  | .indexAddr t a i => (evalA G ⟨fr, nt, hp⟩ a).bind fun x => (evalA G ⟨fr, nt, hp⟩ i).bind fun y => indexAddrA P hp t x y
  | .call ⟨.value f, args, _⟩ => match evalA G ⟨fr, nt, hp⟩ f, evals (evalA G ⟨fr, nt, hp⟩) args.toList, cs with
    | some (.fn g caps), some xs, R0 :: _ => match call g (xs ++ caps) (hp ++ R0) with
      | some (v, _) => if cs.all (fun R => match call g (xs ++ caps) (hp ++ R) with | some (v', h') => avEq v' v && heapEq h' (hp ++ R) | none => false) then some v else none
      | none => none
    | _, _, _ => none
  | _ => if constB o then rConst P G rl o fr nt else none

def rFree (o : Oper) (fr : Nat → Option AV) (nt : Nat) : Option AV :=
  (opA P rl o (evalA G ⟨fr, nt, []⟩) []).bind fun q => if q.2.isEmpty then some q.1 else none

def rTail (call : Callee) (ops : Array Oper) : List Nat → St → Option St
  | [], s => some s
  | k :: rest, s => match ops.toList[k]? with
    | none => none
    | some o =>
      if allocB o then none
      else if effB o then (match rOp P G rl call ops o s with
        | some s1 => rTail call ops rest s1
        | none => none)
      else if heapFree o && (wantA ops o s == some true) then
        (match rFree P G rl o s.fr s.nt with
        | some v => rTail call ops rest (s.put o.dst v)
        | none => none)
      else none

def rDraw (call : Callee) (ops : Array Oper) (fs : List Nat) (nt : Nat) (hp : Heap) (cs : List Heap) : List Nat → (Nat → Option AV) → Heap → Option St
  | [], fr, R => some ⟨fr, nt, hp ++ R⟩
  | k :: rest, fr, R => match ops.toList[k]? with
    | none => none
    | some o =>
      if allocB o then
        (match zeroB P o, R[slotB ops k]?, o.dst with
        | some z, some (some ⟨0, []⟩), some d => if d < nt then rDraw call ops fs nt hp cs rest (upd fr d (.ptr (hp.length + slotB ops k) 1 0)) (R.set (slotB ops k) (some ⟨1, z.map .p⟩)) else none
        | _, _, _ => none)
      else if effB o then rTail P G rl call ops (k :: rest) ⟨fr, nt, hp ++ R⟩
      else if wantA ops o ⟨fr, nt, hp⟩ == some true then
        (match (if (heapFree o || fs.contains k) = true then rFree P G rl o fr nt else rStab P G rl call o fr nt hp cs), o.dst with
        | some v, some d => if d < nt then rDraw call ops fs nt hp cs rest (upd fr d v) R else none
        | _, _ => none)
      else none

/-- Loads and places in slices: they may yield the same whatever the heap. -/
def plainB' (o : Oper) : Bool := match o.op with | .load _ _ | .indexAddr _ _ _ => true | _ => false
def freeL (ops : Array Oper) : List Nat := (List.range ops.size).filter fun k => match ops.toList[k]? with | some o => plainB' o | none => false

def rLoop (step : St → Option (Exit × St)) : Nat → St → Option (Exit × St)
  | 0, _ => none
  | n + 1, s => match step s with
    | some (.normal, s1) => rLoop step n s1
    | r => r

def rCode (call : Callee) (F : Nat) : Code → St → Option (Exit × St)
  | .skip, s => some (.normal, s)
  | .label _, s => some (.normal, s)
  | .region _ ops draw, s =>
    if draw then (if Region.lexB .any ops && (ops.toList.all fun o => !effB o) then (rqOps P G rl call ops ops.toList s).map fun s1 => (.normal, s1)
      else if lexR .any ops [] (List.range ops.size) (Array.replicate ops.size false) then (rDraw P G rl call ops [] s.nt s.heap (cands (zsB P ops)) (List.range ops.size) s.fr (List.replicate (zsB P ops).length (some ⟨0, []⟩))).map fun s1 => (.normal, s1)
      else if lexR .any ops (freeL ops) (List.range ops.size) (Array.replicate ops.size false) then (rDraw P G rl call ops (freeL ops) s.nt s.heap (cands (zsB P ops)) (List.range ops.size) s.fr (List.replicate (zsB P ops).length (some ⟨0, []⟩))).map fun s1 => (.normal, s1) else none)
    else (rOps P G rl call ops ops.toList s).map fun s1 => (.normal, s1)
  | .seq a b, s => match rCode call F a s with
    | some (.normal, s1) => rCode call F b s1
    | r => r
  | .cond c x y, s => match evalA G s c with
    | some (.p (.bool true)) => rCode call F x s
    | some (.p (.bool false)) => rCode call F y s
    | _ => none
  | .block id c, s => match rCode call F c s with
    | some (.exit i, s1) => if i = id then some (.normal, s1) else some (.exit i, s1)
    | r => r
  | .loop c, s => rLoop (rCode call F c) F s
  | .exit id, s => some (.exit id, s)
  | .ret, s => some (.ret, s)
  | _, _ => none

def keptB (h0 : Heap) (n : Nat) : Heap → Nat → Bool
  | [], _ => true
  | none :: r, i => keptB h0 n r (i + 1)
  | some bk :: r, i => ((match h0[i]? with | some (some bk') => heapEq [some bk'] [some bk] | _ => false) || avltsB n bk.cells) && keptB h0 n r (i + 1)

def rEnd (rs : List ResultVar) (h : Heap) (s : St) : Option (AV × Heap) :=
  match resA P s rs with
  | some r =>
    if h.length ≤ s.heap.length then
      match lastVX s.heap h.length r with
      | some r' => if keptB h h.length (s.heap.take h.length) 0 then some (r', s.heap.take h.length) else some (r, s.heap)
      | none => some (r, s.heap)
    else none
  | none => none

def rCall (F : Nat) : Nat → Callee
  | 0 => fun _ _ _ => none
  | n + 1 => fun f args h =>
    match P.funcs[f]? with
    | some fn =>
      match fn.body with
      | some c =>
        if fn.name == "runtime.NumGoroutine" then none
        else if args.length ≤ fn.ntmps then
          match rCode P G rl (rCall F n) F c (entry args fn.ntmps h) with
          | some (.normal, s) => rEnd P fn.results.toList h s
          | some (.ret, s) => rEnd P fn.results.toList h s
          | _ => none
        else none
      | none => none
    | none => none
end

section
variable {P : Program} {G : Nat → Option (List PV)} {rl : List String} {h0 : Heap}

def GoodC (P : Program) (G : Nat → Option (List PV)) (call : Callee) : Prop :=
  ∀ f args h r h', call f args h = some (r, h') → Enters P f ∧ ACalls P G f args h fun r0 h1 => r0 = r ∧ h1 = h'

variable {call : Callee}

theorem rExec_sound (hc : GoodC P G call) {o : Oper} {s : St} {r : AV} {h' : Heap} (h : rExec P G rl call o s = some (r, h')) {K : St → Prop} (hk : K (({ s with heap := h' } : St).put o.dst r)) : aexec P G rl o K s := by
  unfold rExec at h
  unfold aexec
  split at h
  · rename_i f args e
    rw [e]
    dsimp only
    split at h
    · rename_i g caps xs e1 e2
      rw [e1, e2]
      obtain ⟨h1, h2⟩ := hc _ _ _ _ _ h
      exact ⟨h1, h2.mono fun r0 h1 ⟨a, b⟩ => by subst a; subst b; exact hk⟩
    · cases h
  · rename_i e
    rw [e]
    dsimp only
    rw [h]
    exact hk

theorem rOps_sound (hc : GoodC P G call) {ops : Array Oper} : ∀ (l : List Oper) (s s' : St), rOps P G rl call ops l s = some s' → ∀ K : St → Prop, K s' → aops P G rl ops K l s
  | [], s, s', h, K, hk => by simp [rOps] at h; subst h; exact hk
  | o :: rest, s, s', h, K, hk => by
    unfold rOps at h
    split at h
    · rename_i s1 e
      have ih := rOps_sound hc rest s1 s' h K hk
      unfold rOp at e
      show aop P G rl ops o (aops P G rl ops K rest) s
      unfold aop
      split at e
      · rename_i hw
        rw [hw]
        split at e
        · rename_i r h' hx
          cases e
          exact ⟨fun _ => rExec_sound hc hx ih, fun e => (by cases e)⟩
        · cases e
      · rename_i hw
        rw [hw]
        cases e
        exact ⟨fun e => (by cases e), fun _ => ih⟩
      · cases e
    · cases h

theorem rqOps_sound (hc : GoodC P G call) {ops : Array Oper} : ∀ (l : List Oper) (s s' : St), rqOps P G rl call ops l s = some s' → ∀ K : St → Prop, K s' → aqops P G rl ops K l s
  | [], s, s', h, K, hk => by simp [rqOps] at h; subst h; exact hk
  | o :: rest, s, s', h, K, hk => by
    unfold rqOps at h
    split at h
    · rename_i s1 e
      have ih := rqOps_sound hc rest s1 s' h K hk
      unfold rqOp at e
      show aqop P G rl ops o (aqops P G rl ops K rest) s
      unfold aqop
      split at e
      · rename_i hw
        rw [hw]
        split at e
        · rename_i r h' hx
          split at e
          · rename_i hq
            cases e
            have := heapEq_eq _ _ hq
            subst this
            refine ⟨fun _ => ?_, fun e => (by cases e)⟩
            unfold rExec at hx
            unfold aquiet
            split at hx
            · rename_i f args e
              rw [e]
              dsimp only
              split at hx
              · rename_i g caps xs e1 e2
                rw [e1, e2]
                obtain ⟨h1, h2⟩ := hc _ _ _ _ _ hx
                exact ⟨h1, r, h2, ih⟩
              · cases hx
            · rename_i e
              rw [e]
              dsimp only
              rw [hx]
              exact ⟨rfl, ih⟩
          · cases e
        · cases e
      · rename_i hw
        rw [hw]
        cases e
        exact ⟨fun e => (by cases e), fun _ => ih⟩
      · cases e
    · cases h

theorem blkAt_ext {hp R : Heap} {b g : Nat} {cells : List AV} (hc : blkAt hp b g = some cells) : blkAt (hp ++ R) b g = some cells := by
  unfold blkAt at *
  have hlt : b < hp.length := by
    rcases Nat.lt_or_ge b hp.length with hl | hl
    · exact hl
    · rw [List.getElem?_eq_none hl] at hc; cases hc
  rw [List.getElem?_append_left hlt]; exact hc
theorem loadA_ext {hp R : Heap} {t : Nat} {x v : AV} (h : loadA P hp t x = some v) : loadA P (hp ++ R) t x = some v := by
  unfold loadA at *
  split at h
  · rename_i i b g off ht
    obtain ⟨cells, hc, hv⟩ := Option.bind_eq_some_iff.mp h
    have : blkAt (hp ++ R) b g = some cells := by
      unfold blkAt at *
      have hlt : b < hp.length := by
        rcases Nat.lt_or_ge b hp.length with hl | hl
        · exact hl
        · rw [List.getElem?_eq_none hl] at hc; cases hc
      rw [List.getElem?_append_left hlt]; exact hc
    simp only [this, Option.bind_some, hv]
  · exact h
  · cases h

theorem evalA_heap {fr : Nat → Option AV} {nt : Nat} {H H' : Heap} (x : Operand) : evalA G ⟨fr, nt, H⟩ x = evalA G ⟨fr, nt, H'⟩ x := by cases x <;> rfl

theorem cands_mem : ∀ (zs : List (List PV)) (R : Heap), R.length = zs.length → (∀ (j : Nat) (z : List PV), zs[j]? = some z → R[j]? = some (some ⟨0, []⟩) ∨ R[j]? = some (some ⟨1, z.map .p⟩)) → R ∈ cands zs
  | [], R, hl, _ => by simp [cands]; exact List.eq_nil_of_length_eq_zero (by simpa using hl)
  | z :: rest, R, hl, h => by
    match R, hl, h with
    | b :: R', hl, h =>
      have ih := cands_mem rest R' (by simpa using hl) fun j y hy => by simpa using h (j + 1) y (by simpa using hy)
      simp only [cands, List.mem_flatMap]
      refine ⟨R', ih, ?_⟩
      rcases h 0 z rfl with h0 | h0
      · simp at h0; subst h0; simp
      · simp at h0; subst h0; simp

theorem rFree_sound {ops : Array Oper} {o : Oper} {fr : Nat → Option AV} {nt : Nat} {H0 : Heap} {v : AV} (hf : heapFree o = true) (hw : wantA ops o ⟨fr, nt, H0⟩ = some true) (h : rFree P G rl o fr nt = some v) : StabF P G rl ops o v ⟨fr, nt, H0⟩ := fun H => by
  have hev : evalA G ⟨fr, nt, []⟩ = evalA G ⟨fr, nt, H⟩ := funext fun x => evalA_heap x
  refine .inl ⟨hw, ?_⟩
  unfold rFree at h
  obtain ⟨q, hq, h⟩ := Option.bind_eq_some_iff.mp h
  split at h
  · rename_i hem
    cases h
    obtain ⟨q1, q2⟩ := q
    have : q2 = [] := by simpa using hem
    subst this
    have hcall : callOf o = none := by
      unfold heapFree at hf; unfold callOf
      split <;> simp_all
    unfold AQ
    rw [hcall]
    dsimp only
    rw [← hev]
    exact opA_free (H' := H) hf hq
  · cases h

theorem indexAddrA_ext {hp R : Heap} {t : Nat} {x ix v : AV} (h : indexAddrA P hp t x ix = some v) : indexAddrA P (hp ++ R) t x ix = some v := by
  cases x with
  | ref b g off sz len =>
    by_cases hs : (blkAt hp b g).isSome = true
    · obtain ⟨cs, hcs⟩ := Option.isSome_iff_exists.mp hs
      have e : (blkAt (hp ++ R) b g).isSome = (blkAt hp b g).isSome := by rw [blkAt_ext hcs, hcs]
      rw [← h]
      unfold indexAddrA
      simp only [e]
    · exfalso
      unfold indexAddrA at h
      simp only [hs, Bool.false_eq_true, and_false, if_false] at h
      split at h
      · split at h <;> cases h
      · cases h
      · cases h
  | p y => cases y <;> exact h
  | _ => exact h
theorem indexAddrA_nil {H : Heap} {t : Nat} {x ix v : AV} (h : indexAddrA P [] t x ix = some v) : indexAddrA P H t x ix = some v := by
  cases x with
  | ref b g off sz len =>
    unfold indexAddrA at h
    split at h
    · split at h <;> cases h
    · simp only [blkAt, List.getElem?_nil, Option.isSome_none, Bool.false_eq_true, and_false, if_false] at h
      cases h
    · cases h
  | p y => cases y <;> exact h
  | _ => exact h
theorem opA_plain {o : Oper} (hf : plainB' o = true) {ρ : Operand → Option AV} {H' : Heap} {v : AV} (h : opA P rl o ρ [] = some (v, [])) : opA P rl o ρ H' = some (v, H') := by
  obtain ⟨dst, op, type, pos, after, guard⟩ := o
  cases op with
  | load t a =>
    simp only [opA] at *
    obtain ⟨x, hx, he⟩ := Option.bind_eq_some_iff.mp h
    obtain ⟨y, hy, he⟩ := Option.map_eq_some_iff.mp he
    cases he
    rw [hx]
    have : loadA P H' t x = some v := by
      have := loadA_ext (R := H') hy
      simpa using this
    simp only [Option.bind_some, this, Option.map_some]
  | indexAddr t a i =>
    simp only [opA] at *
    split at h
    · rename_i x i' hx hi
      obtain ⟨y, hy, he⟩ := Option.map_eq_some_iff.mp h
      cases he
      simp only [hx, hi, indexAddrA_nil hy, Option.map_some]
    · cases h
  | _ => cases hf
theorem rFree_sound' {ops : Array Oper} {o : Oper} {fr : Nat → Option AV} {nt : Nat} {H0 : Heap} {v : AV} (hf : heapFree o = true ∨ plainB' o = true) (hw : wantA ops o ⟨fr, nt, H0⟩ = some true) (h : rFree P G rl o fr nt = some v) : StabF P G rl ops o v ⟨fr, nt, H0⟩ := by
  rcases hf with hf | hf
  · exact rFree_sound hf hw h
  intro H
  have hev : evalA G ⟨fr, nt, []⟩ = evalA G ⟨fr, nt, H⟩ := funext fun x => evalA_heap x
  refine .inl ⟨hw, ?_⟩
  unfold rFree at h
  obtain ⟨q, hq, h⟩ := Option.bind_eq_some_iff.mp h
  split at h
  · rename_i hem
    cases h
    obtain ⟨q1, q2⟩ := q
    have : q2 = [] := by simpa using hem
    subst this
    have hcall : callOf o = none := by
      unfold plainB' at hf; unfold callOf
      split <;> simp_all
    unfold AQ
    rw [hcall]
    dsimp only
    rw [← hev]
    exact opA_plain (H' := H) hf hq
  · cases h
theorem freeL_plain {ops : Array Oper} (k : Nat) (o : Oper) (hk : (freeL ops).contains k = true) (ho : ops.toList[k]? = some o) : plainB' o = true := by
  unfold freeL at hk
  rw [List.contains_iff_mem, List.mem_filter] at hk
  have := hk.2
  rw [ho] at this
  exact this

theorem opA_const {o : Oper} (hf : constB o = true) {ρ : Operand → Option AV} {H' : Heap} {v : AV} (h : opA P rl o ρ [] = some (v, [])) : opA P rl o ρ H' = some (v, H') := by
  obtain ⟨dst, op, type, pos, after, guard⟩ := o
  cases op with
  | build t parts =>
    simp only [opA] at *
    split at h
    · split at h
      · rename_i hc
        obtain ⟨cs, hcs, he⟩ := Option.map_eq_some_iff.mp h
        cases he
        rw [if_pos hc, hcs]; rfl
      · cases h
    · split at h
      · rename_i hc
        obtain ⟨cs, hcs, he⟩ := Option.map_eq_some_iff.mp h
        cases he
        rw [if_pos hc, hcs]; rfl
      · cases h
    · cases h
  | buildSlice t len parts =>
    simp only [opA] at *
    split at h
    · rename_i e _ _ _ ht
      split at h
      · rename_i k size by' z he
        split at h
        · rename_i hc
          split at h
          · rename_i cs hcs
            rw [if_pos hc]
            split at h
            · rename_i h0
              cases h
              simp only [h0, if_true]
            · rename_i h0
              simp only [h0, if_false]
              split at h
              · simp at h
              · rename_i hr
                obtain ⟨l, hl, hq⟩ := Option.map_eq_some_iff.mp h
                cases hq
                rw [if_neg hr, hl]; rfl
          · cases h
        · cases h
      · cases h
    · cases h
  | binOp op t x y m =>
    simp only [opA] at *
    split at h
    · rename_i x' y' hx hy
      obtain ⟨r, hr, he⟩ := Option.map_eq_some_iff.mp h
      cases he
      simp only [hx, hy, hr, Option.map_some]
    · cases h
  | unOp op t x =>
    simp only [opA] at *
    obtain ⟨x', hx, h⟩ := Option.bind_eq_some_iff.mp h
    obtain ⟨r, hr, he⟩ := Option.map_eq_some_iff.mp h
    cases he
    simp only [hx, hr, Option.bind_some, Option.map_some]
  | makeFunc f first captured =>
    cases f with
    | func f =>
      simp only [opA] at *
      split at h
      · rename_i hc
        obtain ⟨r, hr, he⟩ := Option.map_eq_some_iff.mp h
        cases he
        rw [if_pos hc, hr]; rfl
      · cases h
    | _ => simp only [opA] at h; cases h
  | index t x ix =>
    simp only [opA] at *
    split at h
    · rename_i x' y' hx hy
      obtain ⟨r, hr, he⟩ := Option.map_eq_some_iff.mp h
      cases he
      simp only [hx, hy, hr, Option.map_some]
    · cases h
  | field t x f =>
    simp only [opA] at *
    obtain ⟨x', hx, h⟩ := Option.bind_eq_some_iff.mp h
    obtain ⟨r, hr, he⟩ := Option.map_eq_some_iff.mp h
    cases he
    simp only [hx, hr, Option.bind_some, Option.map_some]
  | _ => cases hf

theorem rStab_sound (hc : GoodC P G call) {ops : Array Oper} {o : Oper} {fr : Nat → Option AV} {nt : Nat} {hp : Heap} {v : AV} {cs : List Heap} (hw : wantA ops o ⟨fr, nt, hp⟩ = some true) (h : rStab P G rl call o fr nt hp cs = some v) (R : Heap) (hR : R ∈ cs) :
    YieldsA P G rl ops o v ⟨fr, nt, hp ++ R⟩ := by
  have hev : evalA G ⟨fr, nt, hp⟩ = evalA G ⟨fr, nt, hp ++ R⟩ := funext fun x => evalA_heap x
  refine .inl ⟨hw, ?_⟩
  unfold rStab at h
  split at h
  · rename_i t a ho
    obtain ⟨x, hx, hl⟩ := Option.bind_eq_some_iff.mp h
    unfold AQ callOf
    rw [ho]
    dsimp only
    unfold opA
    rw [ho]
    dsimp only
    rw [← evalA_heap (H := hp), hx]
    simp only [Option.bind_some, loadA_ext hl, Option.map_some]
  · rename_i t a i ho
    obtain ⟨x, hx, hl⟩ := Option.bind_eq_some_iff.mp h
    obtain ⟨y, hy, hl⟩ := Option.bind_eq_some_iff.mp hl
    unfold AQ callOf
    rw [ho]
    dsimp only
    unfold opA
    rw [ho]
    dsimp only
    rw [← evalA_heap (H := hp), hx, ← evalA_heap (H := hp), hy]
    simp only [indexAddrA_ext hl, Option.map_some]
  · rename_i f args ats ho
    split at h
    · rename_i g caps xs R0 rest hf hxs
      split at h
      · rename_i v0 h0 hq
        split at h
        · rename_i hall
          cases h
          have hr := List.all_eq_true.mp hall R hR
          split at hr
          · rename_i v' h' hq'
            simp only [Bool.and_eq_true] at hr
            have e1 := avEq_eq _ _ hr.1
            have e2 := heapEq_eq _ _ hr.2
            subst e1; subst e2
            obtain ⟨c1, c2⟩ := hc _ _ _ _ _ hq'
            unfold AQ callOf
            rw [ho]
            dsimp only
            exact ⟨g, caps, xs, by rw [← evalA_heap (H := hp)]; exact hf, by rw [← hev]; exact hxs, c1, c2⟩
          · cases hr
        · cases h
      · cases h
    · cases h
  · split at h
    · rename_i hf
      unfold rConst at h
      obtain ⟨q, hq, h⟩ := Option.bind_eq_some_iff.mp h
      split at h
      · rename_i hem
        cases h
        obtain ⟨q1, q2⟩ := q
        have : q2 = [] := by simpa using hem
        subst this
        have hcall : callOf o = none := by
          unfold constB at hf; unfold callOf
          split <;> simp_all
        have he0 : evalA G ⟨fr, nt, []⟩ = evalA G ⟨fr, nt, hp ++ R⟩ := funext fun x => evalA_heap x
        unfold AQ
        rw [hcall]
        dsimp only
        rw [← he0]
        exact opA_const (H' := hp ++ R) hf hq
      · cases h
    · cases h

theorem rTail_sound (hc : GoodC P G call) {ops : Array Oper} : ∀ (l : List Nat) (s s' : St), rTail P G rl call ops l s = some s' → ∀ K : St → Prop, K s' → arunT P G rl ops K l s
  | [], s, s', h, K, hk => by simp [rTail] at h; subst h; exact hk
  | k :: rest, s, s', h, K, hk => by
    unfold rTail at h
    split at h
    · cases h
    · rename_i o ho
      have ho' : ops[k]? = some o := by rw [← Array.getElem?_toList]; exact ho
      unfold arunT
      simp only [ho']
      split at h
      · cases h
      · rename_i ha
        split at h
        · rename_i he
          rw [if_pos he]
          split at h
          · rename_i s1 h1
            have ih := rTail_sound hc rest s1 s' h K hk
            exact ⟨by simpa using ha, rOps_sound hc [o] s s1 (by unfold rOps; rw [h1]; rfl) (arunT P G rl ops K rest) ih⟩
          · cases h
        · rename_i he
          rw [if_neg he]
          split at h
          · rename_i hcond
            simp only [Bool.and_eq_true, beq_iff_eq] at hcond
            split at h
            · rename_i v hv
              exact ⟨hcond.1, v, rFree_sound (H0 := s.heap) hcond.1 hcond.2 hv, rTail_sound hc rest _ s' h K hk⟩
            · cases h
          · cases h

theorem rDraw_sound (hc : GoodC P G call) {ops : Array Oper} {fs : List Nat} (hfs : ∀ k o, fs.contains k = true → ops.toList[k]? = some o → plainB' o = true) {nt : Nat} {hp : Heap} : ∀ (l : List Nat) (fr : Nat → Option AV) (R : Heap) (s' : St), rDraw P G rl call ops fs nt hp (cands (zsB P ops)) l fr R = some s' → ∀ K : St → Prop, K s' → arun P G rl ops fs hp.length (zsB P ops).length K l ⟨fr, nt, hp ++ R⟩
  | [], fr, R, s', h, K, hk => by simp [rDraw] at h; subst h; exact hk
  | k :: rest, fr, R, s', h, K, hk => by
    unfold rDraw at h
    split at h
    · cases h
    · rename_i o ho
      have ho' : ops[k]? = some o := by rw [← Array.getElem?_toList]; exact ho
      split at h
      · rename_i ha
        split at h
        · rename_i z d hz hs hd
          split at h
          · rename_i hlt
            exact arun_alloc ho ha hz hd hlt hs (rDraw_sound hc hfs rest _ _ s' h K hk)
          · cases h
        · cases h
      · rename_i ha
        split at h
        · rename_i he
          unfold arun
          simp only [ho']
          rw [if_neg ha, if_pos he]
          exact rTail_sound hc _ _ _ h K hk
        · rename_i he
          split at h
          · rename_i hw
            have hw := beq_iff_eq.mp hw
            split at h
            · rename_i v d hv hd
              split at h
              · rename_i hlt
                have ih := rDraw_sound hc hfs rest _ _ s' h K hk
                unfold arun
                simp only [ho']
                rw [if_neg ha, if_neg he]
                split at hv
                · rename_i hh
                  rw [if_pos hh]
                  refine ⟨v, rFree_sound' ((Bool.or_eq_true _ _ ▸ hh).imp id fun e => hfs k o e ho) hw hv, ?_⟩
                  rw [hd]; simp only [St.put, hlt, if_true]; exact ih
                · rename_i hh
                  rw [if_neg hh]
                  refine ⟨v, fun R' hR' => ?_, ?_⟩
                  · have : (hp ++ R).take hp.length = hp := by simp
                    simp only [this]
                    exact rStab_sound hc hw hv R' (cands_mem _ R' hR'.1 hR'.2)
                  · rw [hd]; simp only [St.put, hlt, if_true]; exact ih
              · cases h
            · cases h
          · cases h

theorem rCode_sound (hc : GoodC P G call) (F : Nat) : ∀ (c : Code) (s : St) (e : Exit) (s' : St), rCode P G rl call F c s = some (e, s') → ∀ Q : Exit → St → Prop, Q e s' → awp P G rl h0 c Q s := by
  intro c
  induction c with
  | skip => intro s e s' h Q hq; simp only [rCode, Option.some.injEq, Prod.mk.injEq] at h; obtain ⟨rfl, rfl⟩ := h; exact hq
  | label l => intro s e s' h Q hq; simp only [rCode, Option.some.injEq, Prod.mk.injEq] at h; obtain ⟨rfl, rfl⟩ := h; exact hq
  | region id ops draw =>
    intro s e s' h Q hq
    simp only [rCode] at h
    split at h
    · rename_i hd
      subst hd
      split at h
      · rename_i hl
        obtain ⟨s1, h1, h2⟩ := Option.map_eq_some_iff.mp h
        cases h2
        simp only [Bool.and_eq_true] at hl
        exact awp_draw hl.1 (rqOps_sound hc _ _ _ h1 _ hq)
      · split at h
        · rename_i hl
          obtain ⟨s1, h1, h2⟩ := Option.map_eq_some_iff.mp h
          cases h2
          exact awp_drawR (List.range ops.size) (zsB P ops).length (by simp) rfl hl (rDraw_sound hc (fun k o e => by simp at e) _ _ _ _ h1 _ hq)
        · split at h
          · rename_i hl
            obtain ⟨s1, h1, h2⟩ := Option.map_eq_some_iff.mp h
            cases h2
            exact awp_drawR (List.range ops.size) (zsB P ops).length (by simp) rfl hl (rDraw_sound hc freeL_plain _ _ _ _ h1 _ hq)
          · cases h
    · rename_i hd
      obtain ⟨s1, h1, h2⟩ := Option.map_eq_some_iff.mp h
      cases h2
      have : draw = false := by simpa using hd
      subst this
      exact awp_region (rOps_sound hc _ _ _ h1 _ hq)
  | seq a b iha ihb =>
    intro s e s' h Q hq
    simp only [rCode] at h
    split at h
    · rename_i s1 h1
      exact awp_cut (fun s2 => s2 = s1) (iha s .normal s1 h1 _ ⟨s1, .refl, rfl⟩) fun s2 e2 => by subst e2; exact ihb _ _ _ h _ hq
    · rename_i hn
      refine awp_cut (fun _ => False) (iha s e s' h _ ?_) fun _ hf => hf.elim
      cases e with
      | normal => exact (hn s' h).elim
      | _ => exact hq
  | cond c x y ihx ihy =>
    intro s e s' h Q hq
    simp only [rCode] at h
    split at h
    · rename_i hv; exact awp_cond (t := true) hv (fun _ => ihx _ _ _ h _ hq) (fun e => (by cases e))
    · rename_i hv; exact awp_cond (t := false) hv (fun e => (by cases e)) (fun _ => ihy _ _ _ h _ hq)
    · cases h
  | block id c ih =>
    intro s e s' h Q hq
    simp only [rCode] at h
    refine awp_block ?_
    split at h
    · rename_i i s1 h1
      refine ih _ _ _ h1 _ ?_
      simp only [blockA]
      split at h
      · rename_i hi; rw [if_pos hi]; cases h; exact hq
      · rename_i hi; rw [if_neg hi]; cases h; exact hq
    · rename_i hn
      refine ih _ _ _ h _ ?_
      cases e with
      | exit i => exact (hn i s' h).elim
      | _ => exact hq
  | loop c ih =>
    intro s e s' h Q hq
    simp only [rCode] at h
    refine awp_loop (fun n s1 => rLoop (rCode P G rl call F c) n s1 = some (e, s')) F s .refl h fun n s1 hn => ?_
    cases n with
    | zero => simp [rLoop] at hn
    | succ n =>
      unfold rLoop at hn
      split at hn
      · rename_i s2 h2
        exact ih _ _ _ h2 _ ⟨n, s2, Nat.lt_succ_self n, .refl, hn⟩
      · rename_i hno
        refine ih _ _ _ hn _ ?_
        cases e with
        | normal => exact (hno s' hn).elim
        | _ => exact hq
  | exit id => intro s e s' h Q hq; simp only [rCode, Option.some.injEq, Prod.mk.injEq] at h; obtain ⟨rfl, rfl⟩ := h; exact hq
  | ret => intro s e s' h Q hq; simp only [rCode, Option.some.injEq, Prod.mk.injEq] at h; obtain ⟨rfl, rfl⟩ := h; exact hq
  | _ => intro s e s' h; simp [rCode] at h

theorem keptB_spec {n : Nat} : ∀ (l : Heap) (i : Nat), keptB h0 n l i = true → ∀ (b : Nat) (bk : Blk), l[b]? = some (some bk) → h0[i + b]? = some (some bk) ∨ ∀ x ∈ bk.cells, AVlt n x
  | [], i, _, b, bk, h => by simp at h
  | none :: r, i, hk, b, bk, h => by
    simp only [keptB] at hk
    cases b with
    | zero => simp at h
    | succ b =>
      have := keptB_spec r (i + 1) hk b bk (by simpa using h)
      rwa [show i + 1 + b = i + (b + 1) by omega] at this
  | some bk0 :: r, i, hk, b, bk, h => by
    simp only [keptB, Bool.and_eq_true, Bool.or_eq_true] at hk
    cases b with
    | zero =>
      simp at h
      subst h
      rcases hk.1 with h1 | h1
      · left
        rw [Nat.add_zero]
        split at h1
        · rename_i bk' e
          have := heapEq_eq _ _ h1
          simp only [List.cons.injEq, Option.some.injEq, and_true] at this
          rw [e, this]
        · cases h1
      · exact .inr (avltsB_lt _ h1)
    | succ b =>
      have := keptB_spec r (i + 1) hk.2 b bk (by simpa using h)
      rwa [show i + 1 + b = i + (b + 1) by omega] at this

theorem rCall_good (hm : P.follows .mixedOrders = true) (F : Nat) : ∀ n, GoodC P G (rCall P G rl F n)
  | 0 => fun f args h r h' e => by simp [rCall] at e
  | n + 1 => fun f args h r h' e => by
    unfold rCall at e
    split at e
    case h_2 => cases e
    rename_i fn hf
    split at e
    case h_2 => cases e
    rename_i c hb
    split at e
    · cases e
    · rename_i hname
      split at e
      case isFalse => cases e
      rename_i hnt
      refine ⟨⟨fn, c, hf, hb, by simpa using hname⟩, ?_⟩
      have fin : ∀ (ex : Exit) (s : St), (ex = .normal ∨ ex = .ret) → rCode P G rl (rCall P G rl F n) F c (entry args fn.ntmps h) = some (ex, s) → rEnd P fn.results.toList h s = some (r, h') → ACalls P G f args h fun r0 h1 => r0 = r ∧ h1 = h' := by
        intro ex s hex hrun hend
        unfold rEnd at hend
        split at hend
        case h_2 => cases hend
        rename_i r1 hr1
        split at hend
        case isFalse => cases hend
        rename_i hlen
        have keepK : r1 = r → s.heap = h' → ACalls P G f args h fun r0 h1 => r0 = r ∧ h1 = h' := fun e1 e2 => by
          refine Sim.evoKeep (rl := rl) hm hf hb hnt (rCode_sound (rCall_good hm F n) F c _ _ _ hrun _ ⟨hex, hlen, ?_⟩)
          rw [hr1]; exact ⟨e1, e2⟩
        split at hend
        · rename_i r2 hr2
          split at hend
          · rename_i hkept
            cases hend
            have hk := keptB_spec _ _ hkept
            refine acalls_intro (rl := rl) hm hf hb hnt h.length (rCode_sound (rCall_good hm F n) F c _ _ _ hrun _ ⟨hex, Nat.le_refl _, hlen, r1, r, hr1, (lastVX_eq _ _ _).trans hr2, fun b bk hbk => ?_, rfl, rfl⟩)
            have := hk b bk hbk
            rwa [Nat.zero_add] at this
          · cases hend; exact keepK rfl rfl
        · cases hend; exact keepK rfl rfl
      split at e
      · rename_i s hrun; exact fin _ s (.inl rfl) hrun e
      · rename_i s hrun; exact fin _ s (.inr rfl) hrun e
      · cases e

/-- A ground run that comes to a truth, at whatever heap. -/
theorem ACalls.bool_lift {f : FuncId} {b : Bool} (h : ACalls P G f [] [] fun r h' => r = .b b ∧ h' = []) (H : Heap) : ACalls P G f [] H fun r h' => r = .b b ∧ h' = H := by
  intro ι w vs hS hv
  have hS0 : SimH P G ι [] w := ⟨⟨fun b bk hb => by simp at hb, fun b b' bk bk' hb => by simp at hb⟩, fun g cells hg => (hS.gr g cells hg).mono (Nat.le_refl _) fun k _ _ => ⟨rfl, own_nil⟩⟩
  refine (h ι w vs hS0 ⟨hv.1, fun i x v hx => by simp at hx⟩).mono ?_
  rintro e w' ⟨v, r, h', ι', he, ⟨rfl, rfl⟩, hS', hvr, hev⟩
  have hvb := hvr.bool_inv
  subst hvb
  have hk : ∀ k, k < w.heap.size → w'.heap[k]? = w.heap[k]? := fun k hk => (hev.keep k hk own_nil).1
  have hE : Evo H.length ι H w ι H w' := by
    refine ⟨hev.size, fun k hk' ho => ⟨hk k hk', ho⟩, Nat.le_refl _, fun b bk' hb hq => ⟨bk', hq, Nat.le_refl _, fun _ => ⟨rfl, id, fun cs ty fr hc => ?_⟩⟩, hev.os, hev.output, hev.tape⟩
    exact ⟨cs, ty, fr, by rw [hk _ (by have := Array.getElem?_eq_some_iff.mp hc; exact this.1)]; exact hc, rfl⟩
  have hH : HRel ι H w' := by
    refine ⟨fun b bk hb hne => ?_, hS.hr.inj⟩
    obtain ⟨c, ty, hc, hsz, hv⟩ := hS.hr.blk b bk hb hne
    exact ⟨c, ty, by rw [hk _ (Array.getElem?_eq_some_iff.mp hc).1]; exact hc, hsz, fun j x hx => by obtain ⟨v, p1, p2⟩ := hv j x hx; exact ⟨v, p1, p2.evo hE⟩⟩
  exact ⟨_, _, H, ι, he, ⟨rfl, rfl⟩, ⟨hH, fun g cells hg => (hS.gr g cells hg).mono hev.size fun k hk' ho => ⟨hk k hk', ho⟩⟩, .p _ _ (.bool b), hE⟩
end
end Go.Proofs.YtjpphhcimpclpaaDoor.AM
end

section
set_option linter.unusedVariables false
set_option linter.unusedSimpArgs false
set_option maxRecDepth 4000
set_option maxHeartbeats 4000000
namespace Go.Proofs.YtjpphhcimpclpaaDoor.AM
open Go Go.Proofs
set_option linter.defProp false in
attribute [local irreducible] awp aops aqops aeops arun arunT
variable {G : Nat → Option (List PV)}

theorem line_run : rCall Tryd.prog gW ["net.go:137"] 60 30 10 [] [] = some (.b true, []) := by kernel_rfl

theorem line_calls (h : Heap) : ACalls Tryd.prog gW 10 [] h (fun r h' => r = .b true ∧ h' = h) :=
  ACalls.bool_lift (rCall_good (rl := ["net.go:137"]) mixed 60 30 _ _ _ _ _ line_run).2 h

/- left out: not in this program -/

theorem ruOf_ok {fl : List Fl} {i : Nat} {kind : Int} : ∀ r ∈ ruOf fl i kind, r.needs.length ≤ fl.length + 1 ∧ r.gives.length ≤ fl.length + 1 := by
  have a := insN_le fl i
  have b := outsN_le fl i
  intro r hr
  unfold ruOf at hr
  split at hr
  · cases hr
  split at hr
  · obtain ⟨f, _, rfl⟩ := List.mem_map.mp hr
    have c := outsN_le fl (dstAt fl f)
    exact ⟨by simp only; omega, by simp only; omega⟩
  split at hr
  · rw [List.mem_singleton.mp hr]; exact ⟨by simp only; omega, by simp only; omega⟩
  split at hr
  · split at hr
    · obtain ⟨f, _, rfl⟩ := List.mem_map.mp hr
      exact ⟨by simp only; omega, by simp only [List.length_singleton]; omega⟩
    · obtain ⟨f, _, rfl⟩ := List.mem_map.mp hr
      exact ⟨by simp only [List.length_singleton]; omega, by simp only [List.length_singleton]; omega⟩
  · rw [List.mem_singleton.mp hr]; exact ⟨by simp only; omega, by simp only; omega⟩
theorem ruTo_ok {ns : List Nd} {fl : List Fl} : ∀ {j : Nat}, ∀ r ∈ ruTo ns fl j, r.needs.length ≤ fl.length + 1 ∧ r.gives.length ≤ fl.length + 1
  | 0, r, hr => by cases hr
  | j + 1, r, hr => by
    rcases List.mem_append.mp hr with hr | hr
    · exact ruTo_ok r hr
    · exact ruOf_ok r hr

/- left out: not in this program -/

/- left out: not in this program -/

end Go.Proofs.YtjpphhcimpclpaaDoor.AM
end

section
set_option linter.unusedVariables false
set_option linter.unusedSimpArgs false
namespace Go.Proofs.YtjpphhcimpclpaaDoor.AM
open Go Go.Proofs

theorem Right.event {ns : List Nd} {fl : List Fl} (h : Right ns fl) {i : Nat} (hi : i < ns.length) (hk : kindAt ns i = 7) : (insN fl i).length = 1 ∧ 2 ≤ (outsN fl i).length := by
  have := h.three hi
  unfold threeB at this
  simp only [hk] at this
  simp only [Int.reduceEq, reduceIte, Bool.or_eq_true, Bool.and_eq_true, beq_iff_eq, decide_eq_true_eq] at this
  omega
theorem Right.start {ns : List Nd} {fl : List Fl} (h : Right ns fl) {i : Nat} (hi : i < ns.length) (hk : kindAt ns i = 1) : (insN fl i).length = 0 ∧ (outsN fl i).length = 1 := by
  have := h.three hi
  unfold threeB at this
  simp only [hk] at this
  simp only [Int.reduceEq, reduceIte, Bool.or_eq_true, Bool.and_eq_true, beq_iff_eq, decide_eq_true_eq] at this
  omega
theorem Right.count {ns : List Nd} {fl : List Fl} (h : Right ns fl) {i : Nat} (hi : i < ns.length) :
    (kindAt ns i = 1 → (ruOf fl i (kindAt ns i)).length = 0) ∧ (kindAt ns i = 5 ∨ kindAt ns i = 7 → (ruOf fl i (kindAt ns i)).length = (insN fl i).length * (outsN fl i).length) ∧
    (kindAt ns i ≠ 1 → kindAt ns i ≠ 5 → kindAt ns i ≠ 7 → (ruOf fl i (kindAt ns i)).length = 1) := by
  refine ⟨fun hk => ?_, fun hk => ?_, fun k1 k5 k7 => ?_⟩
  · unfold ruOf; rw [if_pos hk]; rfl
  · rcases hk with hk | hk
    · unfold ruOf
      rw [if_neg (by omega), if_neg (by omega), if_neg (by omega), if_pos hk]
      rcases h.xor hi hk with ⟨a, b⟩ | ⟨a, b⟩
      · rw [if_pos (by omega), List.length_map, a, Nat.one_mul]
      · rw [if_neg (by omega), List.length_map, b, Nat.mul_one]
    · unfold ruOf
      rw [if_neg (by omega), if_pos hk, List.length_map, (h.event hi hk).1, Nat.one_mul]
  · unfold ruOf
    rw [if_neg k1, if_neg k7]
    split <;> rfl

end Go.Proofs.YtjpphhcimpclpaaDoor.AM
end

section
set_option linter.unusedVariables false
set_option linter.unusedSimpArgs false
set_option maxRecDepth 4000
set_option maxHeartbeats 4000000
namespace Go.Proofs.YtjpphhcimpclpaaDoor.AM
open Go Go.Proofs
set_option linter.defProp false in
attribute [local irreducible] awp aops aqops aeops arun arunT
variable {G : Nat → Option (List PV)}

/-- A state within all its bounds that the game looks at. -/
structure StOk (S : List Int) : Prop where
  held : Held S
  queue : ∀ i x, 44 ≤ i → i < 48 → S[i]? = some x → 0 ≤ x ∧ x ≤ 3

def qAt (S : List Int) (a : Int) : Int := S.getD (44 + a.toNat) 0
def ndA (ns : List Nd) (c : Int) : Int := match ns[c.toNat]? with | some k => k.a | none => 0

def catchG (ns : List Nd) (fl : List Fl) (S : List Int) (node arg c : Int) (fr : List Int) : List Sp :=
  if ndA ns c < 4 then (if qAt S (ndA ns c) = 0 then [] else moveG S ⟨node, arg, 3, c, 0, S.set (44 + (ndA ns c).toNat) (qAt S (ndA ns c) - 1)⟩ fr (outsN fl c))
  else moveG S ⟨node, arg, 4, c, 0, S⟩ fr (outsN fl c)

theorem takeA_sl0 {ns : List Nd} {fl : List Fl} {S : List Int} {lb n e bt : Nat} {z : Option (List PV)} : takeA ⟨.slice e, 1, bt, z⟩ (gmC ns fl S lb n) = some (.p (.sl (ns.map eN))) := rfl
theorem StOk.q {S : List Int} (h : StOk S) {k : Nat} (hk : k < 4) : S[44 + k]? = some (qAt S k) ∧ 0 ≤ qAt S k ∧ qAt S k ≤ 3 := by
  have hl := h.held.1
  have e : S[44 + k]? = some (qAt S k) := by
    unfold qAt
    rw [Int.toNat_natCast, List.getD_eq_getElem?_getD, List.getElem?_eq_getElem (by omega)]; rfl
  exact ⟨e, h.queue _ _ (by omega) (by omega) e⟩
theorem InF_outs {fl : List Fl} (hf : fl.length ≤ 40) (i : Int) : InF (outsN fl i) := by
  refine ⟨Nat.le_trans (outsN_le fl i) (by omega), fun f hm => ?_⟩
  obtain ⟨j, _, h1, rfl, _⟩ := pickF_mem hm
  omega
theorem InF_ins {fl : List Fl} (hf : fl.length ≤ 40) (i : Int) : InF (insN fl i) := by
  refine ⟨Nat.le_trans (insN_le fl i) (by omega), fun f hm => ?_⟩
  obtain ⟨j, _, h1, rfl, _⟩ := pickF_mem hm
  omega

theorem gmC_q {ns : List Nd} {fl : List Fl} {S : List Int} {lb n a : Nat} {q : Int} (hq : S[44 + a]? = some q) : (gmC ns fl S lb n).drop (46 + a) = .p (.int .i64 q) :: ((S.drop (44 + a + 1)).map AV.i ++ [.ref lb n 0 54 n]) := by
  rw [show 46 + a = 2 + (44 + a) by omega, gmC_at hq]

end Go.Proofs.YtjpphhcimpclpaaDoor.AM
end

section
set_option linter.unusedVariables false
set_option linter.unusedSimpArgs false
set_option maxRecDepth 4000
set_option maxHeartbeats 4000000
namespace Go.Proofs.YtjpphhcimpclpaaDoor.AM
open Go Go.Proofs
set_option linter.defProp false in
def TTEvI := And.intro T2 (And.intro T3 (And.intro T4 (And.intro T27 (And.intro T31 (And.intro T58 (And.intro T141 T142))))))
attribute [local irreducible] awp aops aqops
variable {G : Nat → Option (List PV)}

def Num (n : Int) : Prop := -1099511627776 ≤ n ∧ n ≤ 1099511627776

theorem abs_calls' {n : Int} (hn : -9223372036854775807 ≤ n ∧ n ≤ 9223372036854775807) (h : Heap) : ACalls Tryd.prog G 115 [.i n] h (fun r h' => r = .i (n.natAbs : Int) ∧ h' = h) := by
  have hw := IntWalk.i64_in (0 - n) (by omega)
  refine ACalls.mono (abs_calls n h) ?_
  rintro r h' ⟨rfl, rfl⟩
  refine ⟨?_, rfl⟩
  rw [hw]
  refine congrArg AV.i ?_
  split <;> omega

def prodS (a b : Int) : Int × Int := if b ≠ 0 ∧ 1099511627776 / b.natAbs < a.natAbs then (0, 40) else (a * b, 0)

theorem prod_num {a b : Int} (hb : b ≠ 0) (h : ¬ (1099511627776 / b.natAbs < a.natAbs)) : Num (a * b) := by
  have h1 : a.natAbs ≤ 1099511627776 / b.natAbs := Nat.le_of_not_lt h
  have h2 : a.natAbs * b.natAbs ≤ 1099511627776 := by
    have := Nat.mul_le_mul_right b.natAbs h1
    exact Nat.le_trans this (Nat.div_mul_le_self _ _)
  have h3 : (a * b).natAbs ≤ 1099511627776 := by rw [Int.natAbs_mul]; exact h2
  unfold Num; omega

theorem quo_abs {b : Int} (hb : b ≠ 0) : IntKind.i64.wrap ((1099511627776 : Int).tdiv (b.natAbs : Int)) = ((1099511627776 / b.natAbs : Nat) : Int) := by
  have e : (1099511627776 : Int).tdiv (b.natAbs : Int) = ((1099511627776 / b.natAbs : Nat) : Int) := by
    rw [show (1099511627776 : Int) = ((1099511627776 : Nat) : Int) from rfl, ← Int.ofNat_tdiv]
  have h1 : 1099511627776 / b.natAbs ≤ 1099511627776 := Nat.div_le_self _ _
  rw [e]
  generalize 1099511627776 / b.natAbs = q at *
  rw [IntWalk.i64_in _ (by omega)]

theorem product_calls {a b : Int} (ha : Num a) (hb : Num b) (h : Heap) : ACalls Tryd.prog G 108 [.i a, .i b] h (fun r h' => r = .tup [.i (prodS a b).1, .i (prodS a b).2] ∧ h' = h) := by
  unfold Num at ha hb
  by_cases hz : a = 0 ∨ b = 0
  · have f1 : (a == 0 || b == 0) = true := by rcases hz with e | e <;> simp [e]
    have e : prodS a b = (0, 0) := by
      unfold prodS
      rcases hz with e | e
      · subst e; simp
      · subst e; simp
    rw [e]
    refine acalls_pure (rl := []) mixed Tryd.func108 rfl (rs := [.tmp 4, .tmp 5]) rfl Tryd.ntmps108 (by simp) ?_
    repeat' (first | ((first | refine aops_nil ?_ | refine aqops_nil ?_); (try simp only [NB])) | ((repeat ((fail_if_success (refine hK _ ?_)); clear hK K)); refine hK _ ?_; clear hK K) | ((first | refine aops_k fun K1 hK1 => ?_ | refine aqops_k fun K1 hK1 => ?_ | refine awp_cond_k fun A B hA hB => ?_); simp only [S1, simprocAttr, TTEvI, f1]; first | (refine hK1 _ ?_; clear hK1 K1) | ((first | refine hA ?_ | refine hB ?_); clear hA hB A B) | (refine join_x (v := ?_) (fun hg hk9 => ?_) ?_; rotate_left; (focus (try ((try simp only [BN] at hg); simp only [S1, simprocAttr, TTEvI, f1, hg] at hk9 ⊢)); first | exact hk9); (refine hK1 _ ?_; clear hK1 K1)) | (((first | (refine ⟨fun hg => hA ?_, fun hg => hB ?_⟩ <;> clear hA hB A B) | refine ⟨fun hg => ?_, fun hg => ?_⟩) <;> (try simp only [BN2] at hg) <;> (try simp only [hg, cond_true, cond_false])) <;> (try (refine hK1 _ ?_; clear hK1 K1)) <;> (try simp only [BN3] at hg))) | (refine awp_seq_k fun K hK => ?_) | ((first | refine awp_region ?_ | refine awp_draw (by kernel_rfl) ?_ | refine awp_block ?_ | refine awp_exit ?_ | refine awp_skip ?_ | refine awp_ret ?_); (try simp only [NB, simprocAttr])))
    simp only [EndP, FinP, resA, resL, resA1, lastV, lastA, lastAs, pur, purs, take_app, List.take_length, S1, simprocAttr, TTEvI, Nat.le_add_right, Nat.le_refl]
  · have f0 : ¬ b = 0 := fun e => hz (.inr e)
    have f1 : (a == 0) = false := by simpa using fun e => hz (.inl e)
    have f2 : (b == 0) = false := by simpa using f0
    have f3 : ¬ ((b.natAbs : Int) = 0) := by omega
    have f4 := quo_abs f0
    refine acalls_pure (rl := []) mixed Tryd.func108 rfl (rs := [.tmp 4, .tmp 5]) rfl Tryd.ntmps108 (by simp) ?_
    repeat' (first | ((first | refine aops_nil ?_ | refine aqops_nil ?_); (try simp only [NB])) | ((repeat ((fail_if_success (refine hK _ ?_)); clear hK K)); refine hK _ ?_; clear hK K) | ((first | refine aops_k fun K1 hK1 => ?_ | refine aqops_k fun K1 hK1 => ?_ | refine awp_cond_k fun A B hA hB => ?_); simp only [S1, simprocAttr, TTEvI, f1, f2, f3, f4]; first | (refine hK1 _ ?_; clear hK1 K1) | ((first | refine hA ?_ | refine hB ?_); clear hA hB A B) | ((first | apply call_a E115 | apply call_q E115); exact (abs_calls' (by omega) _); (refine hK1 _ ?_; clear hK1 K1)) | (refine join_x (v := ?_) (fun hg hk9 => ?_) ?_; rotate_left; (focus (try ((try simp only [BN] at hg); simp only [S1, simprocAttr, TTEvI, f1, f2, f3, f4, hg] at hk9 ⊢)); first | exact hk9 | ((first | apply call_a E115 | apply call_q E115); exact (abs_calls' (by omega) _); exact hk9)); (refine hK1 _ ?_; clear hK1 K1)) | (((first | (refine ⟨fun hg => hA ?_, fun hg => hB ?_⟩ <;> clear hA hB A B) | refine ⟨fun hg => ?_, fun hg => ?_⟩) <;> (try simp only [BN2] at hg) <;> (try simp only [hg, cond_true, cond_false])) <;> (try (refine hK1 _ ?_; clear hK1 K1)) <;> (try simp only [BN3] at hg))) | (refine awp_seq_k fun K hK => ?_) | ((first | refine awp_region ?_ | refine awp_draw (by kernel_rfl) ?_ | refine awp_block ?_ | refine awp_exit ?_ | refine awp_skip ?_ | refine awp_ret ?_); (try simp only [NB, simprocAttr])))
    · simp only [EndP, FinP, resA, resL, resA1, lastV, lastA, lastAs, pur, purs, take_app, List.take_length, S1, simprocAttr, TTEvI, Nat.le_add_right, Nat.le_refl]
      have hq : 1099511627776 / b.natAbs < a.natAbs := by generalize 1099511627776 / b.natAbs = q at *; omega
      simp [prodS, f0, hq]
    · simp only [EndP, FinP, resA, resL, resA1, lastV, lastA, lastAs, pur, purs, take_app, List.take_length, S1, simprocAttr, TTEvI, Nat.le_add_right, Nat.le_refl]
      have hq : ¬ 1099511627776 / b.natAbs < a.natAbs := by generalize 1099511627776 / b.natAbs = q at *; omega
      have hn := prod_num f0 hq
      unfold Num at hn
      rw [IntWalk.i64_in _ (by omega)]
      simp [prodS, f0, hq]

def sumS (op a b : Int) : Int × Bool × Int :=
  if op = 10 then (0, a == b, 0) else if op = 11 then (0, decide (a < b), 0) else if op = 12 then (0, a == b || decide (a < b), 0)
  else if op = 8 then (if b = 0 then (0, false, 41) else (a.tdiv b, false, 0))
  else if op = 9 then (if b = 0 then (0, false, 41) else (a.tmod b, false, 0))
  else if op = 7 then ((prodS a b).1, false, (prodS a b).2)
  else if op = 6 then (if 1099511627776 < (a - b).natAbs then (0, false, 40) else (a - b, false, 0))
  else (if 1099511627776 < (a + b).natAbs then (0, false, 40) else (a + b, false, 0))

theorem tdiv_num {a b : Int} (ha : Num a) : Num (a.tdiv b) := by
  have : (a.tdiv b).natAbs ≤ a.natAbs := Int.natAbs_tdiv_le_natAbs a b
  unfold Num at *; omega
theorem tmod_num {a b : Int} (ha : Num a) : Num (a.tmod b) := by
  have : (a.tmod b).natAbs ≤ a.natAbs := by rw [Int.natAbs_tmod]; exact Nat.mod_le _ _
  unfold Num at *; omega
theorem fits_iff {n : Int} : inM n = true ↔ ¬ 1099511627776 < n.natAbs := by unfold inM; simp; omega

theorem reckon_add {a b : Int} (ha : Num a) (hb : Num b) (h : Heap) : ACalls Tryd.prog G 100 [.i 5, .i a, .i b] h (fun r h' => r = .tup [.i (sumS 5 a b).1, .i (sumS 5 a b).2.2] ∧ h' = h) := by
  unfold Num at *
  have w1 := IntWalk.i64_in (a + b) (by omega)
  refine acalls_pure (rl := []) mixed Tryd.func100 rfl (rs := [.tmp 6, .tmp 7]) rfl Tryd.ntmps100 (by simp) ?_
  repeat' (first | ((first | refine aops_nil ?_ | refine aqops_nil ?_); (try simp only [NB])) | ((repeat ((fail_if_success (refine hK _ ?_)); clear hK K)); refine hK _ ?_; clear hK K) | ((first | refine aops_k fun K1 hK1 => ?_ | refine aqops_k fun K1 hK1 => ?_ | refine awp_cond_k fun A B hA hB => ?_); simp only [S1, simprocAttr, TTEvI, w1]; first | (refine hK1 _ ?_; clear hK1 K1) | ((first | refine hA ?_ | refine hB ?_); clear hA hB A B) | ((first | apply call_a E37 | apply call_q E37); exact (fits_calls _ _); (refine hK1 _ ?_; clear hK1 K1)) | (((first | (refine ⟨fun hg => hA ?_, fun hg => hB ?_⟩ <;> clear hA hB A B) | refine ⟨fun hg => ?_, fun hg => ?_⟩) <;> (try simp only [BN2] at hg) <;> (try simp only [hg, cond_true, cond_false])) <;> (try (refine hK1 _ ?_; clear hK1 K1)) <;> (try simp only [BN3] at hg))) | (refine awp_seq_k fun K hK => ?_) | ((first | refine awp_region ?_ | refine awp_draw (by kernel_rfl) ?_ | refine awp_block ?_ | refine awp_exit ?_ | refine awp_skip ?_ | refine awp_ret ?_); (try simp only [NB, simprocAttr])))
  all_goals simp only [EndP, FinP, resA, resL, resA1, lastV, lastA, lastAs, pur, purs, take_app, List.take_length, S1, simprocAttr, TTEvI, Nat.le_add_right, Nat.le_refl]
  all_goals (try simp only [Bool.not_eq_true', Bool.not_eq_false'] at hg)
  all_goals (first
    | (have := fits_iff.mp hg; simp [sumS, this])
    | (have := Classical.byContradiction (fun e => Bool.false_ne_true (hg.symm.trans (fits_iff.mpr e))); simp [sumS, this]))

theorem reckon_sub {a b : Int} (ha : Num a) (hb : Num b) (h : Heap) : ACalls Tryd.prog G 100 [.i 6, .i a, .i b] h (fun r h' => r = .tup [.i (sumS 6 a b).1, .i (sumS 6 a b).2.2] ∧ h' = h) := by
  unfold Num at *
  have w1 := IntWalk.i64_in (a - b) (by omega)
  refine acalls_pure (rl := []) mixed Tryd.func100 rfl (rs := [.tmp 6, .tmp 7]) rfl Tryd.ntmps100 (by simp) ?_
  repeat' (first | ((first | refine aops_nil ?_ | refine aqops_nil ?_); (try simp only [NB])) | ((repeat ((fail_if_success (refine hK _ ?_)); clear hK K)); refine hK _ ?_; clear hK K) | ((first | refine aops_k fun K1 hK1 => ?_ | refine aqops_k fun K1 hK1 => ?_ | refine awp_cond_k fun A B hA hB => ?_); simp only [S1, simprocAttr, TTEvI, w1]; first | (refine hK1 _ ?_; clear hK1 K1) | ((first | refine hA ?_ | refine hB ?_); clear hA hB A B) | ((first | apply call_a E37 | apply call_q E37); exact (fits_calls _ _); (refine hK1 _ ?_; clear hK1 K1)) | (((first | (refine ⟨fun hg => hA ?_, fun hg => hB ?_⟩ <;> clear hA hB A B) | refine ⟨fun hg => ?_, fun hg => ?_⟩) <;> (try simp only [BN2] at hg) <;> (try simp only [hg, cond_true, cond_false])) <;> (try (refine hK1 _ ?_; clear hK1 K1)) <;> (try simp only [BN3] at hg))) | (refine awp_seq_k fun K hK => ?_) | ((first | refine awp_region ?_ | refine awp_draw (by kernel_rfl) ?_ | refine awp_block ?_ | refine awp_exit ?_ | refine awp_skip ?_ | refine awp_ret ?_); (try simp only [NB, simprocAttr])))
  all_goals simp only [EndP, FinP, resA, resL, resA1, lastV, lastA, lastAs, pur, purs, take_app, List.take_length, S1, simprocAttr, TTEvI, Nat.le_add_right, Nat.le_refl]
  all_goals (try simp only [Bool.not_eq_true', Bool.not_eq_false'] at hg)
  all_goals (first
    | (have := fits_iff.mp hg; simp [sumS, this])
    | (have := Classical.byContradiction (fun e => Bool.false_ne_true (hg.symm.trans (fits_iff.mpr e))); simp [sumS, this]))

theorem reckon_mul {a b : Int} (ha : Num a) (hb : Num b) (h : Heap) : ACalls Tryd.prog G 100 [.i 7, .i a, .i b] h (fun r h' => r = .tup [.i (sumS 7 a b).1, .i (sumS 7 a b).2.2] ∧ h' = h) := by
  unfold Num at *
  skip
  refine acalls_pure (rl := []) mixed Tryd.func100 rfl (rs := [.tmp 6, .tmp 7]) rfl Tryd.ntmps100 (by simp) ?_
  repeat' (first | ((first | refine aops_nil ?_ | refine aqops_nil ?_); (try simp only [NB])) | ((repeat ((fail_if_success (refine hK _ ?_)); clear hK K)); refine hK _ ?_; clear hK K) | ((first | refine aops_k fun K1 hK1 => ?_ | refine aqops_k fun K1 hK1 => ?_ | refine awp_cond_k fun A B hA hB => ?_); simp only [S1, simprocAttr, TTEvI, Nat.add_zero]; first | (refine hK1 _ ?_; clear hK1 K1) | ((first | refine hA ?_ | refine hB ?_); clear hA hB A B) | ((first | apply call_a E108 | apply call_q E108); exact (product_calls (by assumption) (by assumption) _); (refine hK1 _ ?_; clear hK1 K1)) | (((first | (refine ⟨fun hg => hA ?_, fun hg => hB ?_⟩ <;> clear hA hB A B) | refine ⟨fun hg => ?_, fun hg => ?_⟩) <;> (try simp only [BN2] at hg) <;> (try simp only [hg, cond_true, cond_false])) <;> (try (refine hK1 _ ?_; clear hK1 K1)) <;> (try simp only [BN3] at hg))) | (refine awp_seq_k fun K hK => ?_) | ((first | refine awp_region ?_ | refine awp_draw (by kernel_rfl) ?_ | refine awp_block ?_ | refine awp_exit ?_ | refine awp_skip ?_ | refine awp_ret ?_); (try simp only [NB, simprocAttr])))
  all_goals simp only [EndP, FinP, resA, resL, resA1, lastV, lastA, lastAs, pur, purs, take_app, List.take_length, S1, simprocAttr, TTEvI, Nat.le_add_right, Nat.le_refl]
  all_goals simp [sumS]
theorem reckon_quo {a b : Int} (ha : Num a) (hb : Num b) (hz : ¬ b = 0) (h : Heap) : ACalls Tryd.prog G 100 [.i 8, .i a, .i b] h (fun r h' => r = .tup [.i (sumS 8 a b).1, .i (sumS 8 a b).2.2] ∧ h' = h) := by
  have hd := tdiv_num (b := b) ha
  unfold Num at *
  have f2 : (b == 0) = false := by simpa using hz
  have w1 := IntWalk.i64_in (a.tdiv b) (by omega)
  refine acalls_pure (rl := []) mixed Tryd.func100 rfl (rs := [.tmp 6, .tmp 7]) rfl Tryd.ntmps100 (by simp) ?_
  repeat' (first | ((first | refine aops_nil ?_ | refine aqops_nil ?_); (try simp only [NB])) | ((repeat ((fail_if_success (refine hK _ ?_)); clear hK K)); refine hK _ ?_; clear hK K) | ((first | refine aops_k fun K1 hK1 => ?_ | refine aqops_k fun K1 hK1 => ?_ | refine awp_cond_k fun A B hA hB => ?_); simp only [S1, simprocAttr, TTEvI, w1, f2, hz]; first | (refine hK1 _ ?_; clear hK1 K1) | ((first | refine hA ?_ | refine hB ?_); clear hA hB A B) | (((first | (refine ⟨fun hg => hA ?_, fun hg => hB ?_⟩ <;> clear hA hB A B) | refine ⟨fun hg => ?_, fun hg => ?_⟩) <;> (try simp only [BN2] at hg) <;> (try simp only [hg, cond_true, cond_false])) <;> (try (refine hK1 _ ?_; clear hK1 K1)) <;> (try simp only [BN3] at hg))) | (refine awp_seq_k fun K hK => ?_) | ((first | refine awp_region ?_ | refine awp_draw (by kernel_rfl) ?_ | refine awp_block ?_ | refine awp_exit ?_ | refine awp_skip ?_ | refine awp_ret ?_); (try simp only [NB, simprocAttr])))
  all_goals simp only [EndP, FinP, resA, resL, resA1, lastV, lastA, lastAs, pur, purs, take_app, List.take_length, S1, simprocAttr, TTEvI, Nat.le_add_right, Nat.le_refl]
  all_goals simp [sumS, hz]
theorem reckon_rem {a b : Int} (ha : Num a) (hb : Num b) (hz : ¬ b = 0) (h : Heap) : ACalls Tryd.prog G 100 [.i 9, .i a, .i b] h (fun r h' => r = .tup [.i (sumS 9 a b).1, .i (sumS 9 a b).2.2] ∧ h' = h) := by
  have hd := tmod_num (b := b) ha
  unfold Num at *
  have f2 : (b == 0) = false := by simpa using hz
  have w5 : (-9223372036854775808 ≤ a.tmod b) := by omega
  have w6 : (a.tmod b ≤ 9223372036854775807) := by omega
  refine acalls_pure (rl := []) mixed Tryd.func100 rfl (rs := [.tmp 6, .tmp 7]) rfl Tryd.ntmps100 (by simp) ?_
  repeat' (first | ((first | refine aops_nil ?_ | refine aqops_nil ?_); (try simp only [NB])) | ((repeat ((fail_if_success (refine hK _ ?_)); clear hK K)); refine hK _ ?_; clear hK K) | ((first | refine aops_k fun K1 hK1 => ?_ | refine aqops_k fun K1 hK1 => ?_ | refine awp_cond_k fun A B hA hB => ?_); simp only [S1, simprocAttr, TTEvI, w5, w6, f2, hz]; first | (refine hK1 _ ?_; clear hK1 K1) | ((first | refine hA ?_ | refine hB ?_); clear hA hB A B) | (((first | (refine ⟨fun hg => hA ?_, fun hg => hB ?_⟩ <;> clear hA hB A B) | refine ⟨fun hg => ?_, fun hg => ?_⟩) <;> (try simp only [BN2] at hg) <;> (try simp only [hg, cond_true, cond_false])) <;> (try (refine hK1 _ ?_; clear hK1 K1)) <;> (try simp only [BN3] at hg))) | (refine awp_seq_k fun K hK => ?_) | ((first | refine awp_region ?_ | refine awp_draw (by kernel_rfl) ?_ | refine awp_block ?_ | refine awp_exit ?_ | refine awp_skip ?_ | refine awp_ret ?_); (try simp only [NB, simprocAttr])))
  all_goals simp only [EndP, FinP, resA, resL, resA1, lastV, lastA, lastAs, pur, purs, take_app, List.take_length, S1, simprocAttr, TTEvI, Nat.le_add_right, Nat.le_refl]
  all_goals simp [sumS, hz]
theorem reckon_z8 {a : Int} (h : Heap) : ACalls Tryd.prog G 100 [.i 8, .i a, .i 0] h (fun r h' => r = .tup [.i (sumS 8 a 0).1, .i (sumS 8 a 0).2.2] ∧ h' = h) := by
  refine acalls_pure (rl := []) mixed Tryd.func100 rfl (rs := [.tmp 6, .tmp 7]) rfl Tryd.ntmps100 (by simp) ?_
  repeat' (first | ((first | refine aops_nil ?_ | refine aqops_nil ?_); (try simp only [NB])) | ((repeat ((fail_if_success (refine hK _ ?_)); clear hK K)); refine hK _ ?_; clear hK K) | ((first | refine aops_k fun K1 hK1 => ?_ | refine aqops_k fun K1 hK1 => ?_ | refine awp_cond_k fun A B hA hB => ?_); simp only [S1, simprocAttr, TTEvI]; first | (refine hK1 _ ?_; clear hK1 K1) | ((first | refine hA ?_ | refine hB ?_); clear hA hB A B) | (((first | (refine ⟨fun hg => hA ?_, fun hg => hB ?_⟩ <;> clear hA hB A B) | refine ⟨fun hg => ?_, fun hg => ?_⟩) <;> (try simp only [BN2] at hg) <;> (try simp only [hg, cond_true, cond_false])) <;> (try (refine hK1 _ ?_; clear hK1 K1)) <;> (try simp only [BN3] at hg))) | (refine awp_seq_k fun K hK => ?_) | ((first | refine awp_region ?_ | refine awp_draw (by kernel_rfl) ?_ | refine awp_block ?_ | refine awp_exit ?_ | refine awp_skip ?_ | refine awp_ret ?_); (try simp only [NB, simprocAttr])))
  all_goals simp only [EndP, FinP, resA, resL, resA1, lastV, lastA, lastAs, pur, purs, take_app, List.take_length, S1, simprocAttr, TTEvI, Nat.le_add_right, Nat.le_refl]
  all_goals simp [sumS]
theorem reckon_z9 {a : Int} (h : Heap) : ACalls Tryd.prog G 100 [.i 9, .i a, .i 0] h (fun r h' => r = .tup [.i (sumS 9 a 0).1, .i (sumS 9 a 0).2.2] ∧ h' = h) := by
  refine acalls_pure (rl := []) mixed Tryd.func100 rfl (rs := [.tmp 6, .tmp 7]) rfl Tryd.ntmps100 (by simp) ?_
  repeat' (first | ((first | refine aops_nil ?_ | refine aqops_nil ?_); (try simp only [NB])) | ((repeat ((fail_if_success (refine hK _ ?_)); clear hK K)); refine hK _ ?_; clear hK K) | ((first | refine aops_k fun K1 hK1 => ?_ | refine aqops_k fun K1 hK1 => ?_ | refine awp_cond_k fun A B hA hB => ?_); simp only [S1, simprocAttr, TTEvI]; first | (refine hK1 _ ?_; clear hK1 K1) | ((first | refine hA ?_ | refine hB ?_); clear hA hB A B) | (((first | (refine ⟨fun hg => hA ?_, fun hg => hB ?_⟩ <;> clear hA hB A B) | refine ⟨fun hg => ?_, fun hg => ?_⟩) <;> (try simp only [BN2] at hg) <;> (try simp only [hg, cond_true, cond_false])) <;> (try (refine hK1 _ ?_; clear hK1 K1)) <;> (try simp only [BN3] at hg))) | (refine awp_seq_k fun K hK => ?_) | ((first | refine awp_region ?_ | refine awp_draw (by kernel_rfl) ?_ | refine awp_block ?_ | refine awp_exit ?_ | refine awp_skip ?_ | refine awp_ret ?_); (try simp only [NB, simprocAttr])))
  all_goals simp only [EndP, FinP, resA, resL, resA1, lastV, lastA, lastAs, pur, purs, take_app, List.take_length, S1, simprocAttr, TTEvI, Nat.le_add_right, Nat.le_refl]
  all_goals simp [sumS]

theorem reckon_calls {op a b : Int} (h1 : 5 ≤ op) (h2 : op ≤ 9) (ha : Num a) (hb : Num b) (h : Heap) : ACalls Tryd.prog G 100 [.i op, .i a, .i b] h (fun r h' => r = .tup [.i (sumS op a b).1, .i (sumS op a b).2.2] ∧ h' = h) := by
  rcases (by omega : op = 5 ∨ op = 6 ∨ op = 7 ∨ op = 8 ∨ op = 9) with rfl | rfl | rfl | rfl | rfl
  · exact reckon_add ha hb h
  · exact reckon_sub ha hb h
  · exact reckon_mul ha hb h
  · by_cases hz : b = 0
    · subst hz; exact reckon_z8 h
    · exact reckon_quo ha hb hz h
  · by_cases hz : b = 0
    · subst hz; exact reckon_z9 h
    · exact reckon_rem ha hb hz h
end Go.Proofs.YtjpphhcimpclpaaDoor.AM
end

section
set_option linter.unusedVariables false
set_option linter.unusedSimpArgs false
set_option maxRecDepth 4000
set_option maxHeartbeats 4000000
namespace Go.Proofs.YtjpphhcimpclpaaDoor.AM
open Go Go.Proofs
set_option linter.defProp false in
attribute [local irreducible] awp aops aqops
variable {G : Nat → Option (List PV)}

/-- A right term; true: of a truth. -/
inductive Good : Tm → Bool → Prop where
  | num (n : Int) (h1 : 0 ≤ n) (h2 : n ≤ 1099511627776) : Good (.mk 1 n []) false
  | var (n : Int) (h : n = 0 ∨ n = 1 ∨ n = 2 ∨ n = 3) : Good (.mk 2 n []) false
  | neg (a : Tm) (h : Good a false) : Good (.mk 3 0 [a]) false
  | not (a : Tm) (h : Good a true) : Good (.mk 4 0 [a]) true
  | bin (o : Int) (a b : Tm) (h1 : 5 ≤ o) (h2 : o ≤ 9) (ha : Good a false) (hb : Good b false) : Good (.mk o 0 [a, b]) false
  | cmp (o : Int) (a b : Tm) (h1 : 10 ≤ o) (h2 : o ≤ 12) (ha : Good a false) (hb : Good b false) : Good (.mk o 0 [a, b]) true
  | log (o : Int) (a b : Tm) (h : o = 13 ∨ o = 14) (ha : Good a true) (hb : Good b true) : Good (.mk o 0 [a, b]) true

theorem good_of (t : Tm) : t.form = true → t.typed = true → Good t (truthOp t.op) := by
  refine Tm.ind (p := fun t => t.form = true → t.typed = true → Good t (truthOp t.op)) (fun t ih hf ht => ?_) t
  rw [Tm.form_eq, Bool.and_eq_true, List.all_eq_true] at hf
  rw [Tm.typed_eq, List.all_eq_true] at ht
  obtain ⟨h1, h2⟩ := hf
  cases t with
  | mk o n ks =>
    simp only [Tm.op, Tm.n, Tm.kids] at *
    simp only [headOk, Bool.and_eq_true, decide_eq_true_eq] at h1
    obtain ⟨⟨⟨⟨⟨⟨g1, g2⟩, g3⟩, g4⟩, g5⟩, g6⟩, g7⟩ := h1
    have hk : ∀ k ∈ ks, truthOp k.op = wantOp o ∧ Good k (wantOp o) := fun k hm => by
      have := ht k hm
      simp only [kidTyped, Bool.and_eq_true, beq_iff_eq] at this
      exact ⟨this.1, this.1 ▸ ih k hm (h2 k hm) this.2⟩
    unfold kidsN at g3
    match ks, hk, g3 with
    | [], hk, g3 =>
      have : o = 1 ∨ o = 2 := by
        simp only [List.length_nil] at g3
        split at g3
        · omega
        · split at g3 <;> omega
      rcases this with rfl | rfl
      · exact Good.num n g4 (g5 rfl)
      · exact Good.var n (by have := g6 rfl; omega)
    | [a], hk, g3 =>
      have : o = 3 ∨ o = 4 := by
        simp only [List.length_cons, List.length_nil] at g3
        split at g3
        · omega
        · split at g3 <;> omega
      have ha := (hk a (by simp)).2
      have hn := g7 (by omega)
      subst hn
      rcases this with rfl | rfl
      · exact Good.neg a ha
      · exact Good.not a ha
    | [a, b], hk, g3 =>
      have h5 : 5 ≤ o := by
        simp only [List.length_cons, List.length_nil] at g3
        split at g3
        · omega
        · split at g3 <;> omega
      have ha := (hk a (by simp)).2
      have hb := (hk b (by simp)).2
      have hn := g7 (by omega)
      subst hn
      rcases (by omega : o ≤ 9 ∨ (10 ≤ o ∧ o ≤ 12) ∨ (o = 13 ∨ o = 14)) with e | e | e
      · have w : wantOp o = false := by unfold wantOp; simp; omega
        have u : truthOp o = false := by unfold truthOp; simp; omega
        rw [w] at ha hb; rw [u]
        exact Good.bin o a b h5 e ha hb
      · have w : wantOp o = false := by unfold wantOp; simp; omega
        have u : truthOp o = true := by unfold truthOp; simp; omega
        rw [w] at ha hb; rw [u]
        exact Good.cmp o a b e.1 e.2 ha hb
      · have w : wantOp o = true := by unfold wantOp; simp; omega
        have u : truthOp o = true := by unfold truthOp; simp; omega
        rw [w] at ha hb; rw [u]
        exact Good.log o a b e ha hb
    | a :: b :: c :: r, hk, g3 =>
      exfalso
      simp only [List.length_cons] at g3
      split at g3
      · omega
      · split at g3 <;> omega

def evOp (v : Int → Int) (o n : Int) : List (Int × Bool × Int) → Int × Bool × Int
  | [] => if o = 1 then (n, false, 0) else (v n, false, 0)
  | [a] => if a.2.2 ≠ 0 then (0, false, a.2.2) else if o = 3 then (-a.1, false, 0) else (0, !a.2.1, 0)
  | a :: b :: _ => if a.2.2 ≠ 0 then (0, false, a.2.2) else if o = 13 then (if a.2.1 then b else a) else if o = 14 then (if a.2.1 then a else b)
    else if b.2.2 ≠ 0 then (0, false, b.2.2) else sumS o a.1 b.1

def ev (v : Int → Int) : Tm → Int × Bool × Int
  | .mk o n ks => evOp v o n (ks.map (ev v))

theorem ev_nil (v : Int → Int) (o n : Int) : ev v (.mk o n []) = if o = 1 then (n, false, 0) else (v n, false, 0) := by simp [ev, evOp]
theorem ev_one (v : Int → Int) (o n : Int) (a : Tm) : ev v (.mk o n [a]) = if (ev v a).2.2 ≠ 0 then (0, false, (ev v a).2.2) else if o = 3 then (-(ev v a).1, false, 0) else (0, !(ev v a).2.1, 0) := by simp [ev, evOp]
theorem ev_two (v : Int → Int) (o n : Int) (a b : Tm) : ev v (.mk o n [a, b]) = if (ev v a).2.2 ≠ 0 then (0, false, (ev v a).2.2) else if o = 13 then (if (ev v a).2.1 then ev v b else ev v a) else if o = 14 then (if (ev v a).2.1 then ev v a else ev v b)
    else if (ev v b).2.2 ≠ 0 then (0, false, (ev v b).2.2) else sumS o (ev v a).1 (ev v b).1 := by simp [ev, evOp]

theorem prodS_num {a b : Int} : Num (prodS a b).1 ∧ ((prodS a b).2 ≠ 0 → (prodS a b).1 = 0) ∧ ((prodS a b).2 = 0 ∨ (prodS a b).2 = 40) := by
  unfold prodS
  split
  · exact ⟨⟨by decide, by decide⟩, fun _ => rfl, .inr rfl⟩
  · rename_i h
    refine ⟨?_, fun h => absurd rfl h, .inl rfl⟩
    by_cases hb : b = 0
    · subst hb; simp; exact ⟨by decide, by decide⟩
    · exact prod_num hb fun e => h ⟨hb, e⟩

theorem sumS_num {o a b : Int} (ha : Num a) : Num (sumS o a b).1 ∧ ((sumS o a b).2.2 ≠ 0 → (sumS o a b).1 = 0 ∧ (sumS o a b).2.1 = false) ∧ ((sumS o a b).2.2 = 0 ∨ (sumS o a b).2.2 = 40 ∨ (sumS o a b).2.2 = 41) := by
  have z : Num 0 := ⟨by decide, by decide⟩
  have hp := prodS_num (a := a) (b := b)
  unfold sumS
  repeat' split
  all_goals first
    | exact ⟨z, fun h => ⟨rfl, rfl⟩, .inr (.inl rfl)⟩
    | exact ⟨z, fun h => ⟨rfl, rfl⟩, .inr (.inr rfl)⟩
    | exact ⟨z, fun h => absurd rfl h, .inl rfl⟩
    | exact ⟨tdiv_num ha, fun h => absurd rfl h, .inl rfl⟩
    | exact ⟨tmod_num ha, fun h => absurd rfl h, .inl rfl⟩
    | exact ⟨hp.1, fun h => ⟨hp.2.1 h, rfl⟩, by rcases hp.2.2 with e | e <;> simp [e]⟩
    | exact ⟨(by unfold Num; dsimp only; omega), fun h => absurd rfl h, .inl rfl⟩

/-- A number is one; behind a fault there is nothing; which faults there are. -/
theorem ev_good {v : Int → Int} (hv : ∀ i, Num (v i)) {t : Tm} {k : Bool} (h : Good t k) : (k = false → Num (ev v t).1) ∧ ((ev v t).2.2 ≠ 0 → (ev v t).1 = 0 ∧ (ev v t).2.1 = false) ∧ ((ev v t).2.2 = 0 ∨ (ev v t).2.2 = 40 ∨ (ev v t).2.2 = 41) := by
  have z : Num 0 := ⟨by decide, by decide⟩
  induction h with
  | num n h1 h2 => rw [ev_nil]; simp; unfold Num; omega
  | var n h => rw [ev_nil, if_neg (by decide)]; exact ⟨fun _ => hv n, fun h => absurd rfl h, .inl rfl⟩
  | neg a h ih =>
    rw [ev_one]
    split
    · rename_i e; exact ⟨fun _ => z, fun _ => ⟨rfl, rfl⟩, ih.2.2⟩
    · have := ih.1 rfl
      rw [if_pos rfl]
      exact ⟨fun _ => (by unfold Num at *; simp only; omega), fun h => absurd rfl h, .inl rfl⟩
  | not a h ih =>
    rw [ev_one]
    split
    · exact ⟨fun _ => z, fun _ => ⟨rfl, rfl⟩, ih.2.2⟩
    · rw [if_neg (by decide)]; exact ⟨fun e => (by cases e), fun h => absurd rfl h, .inl rfl⟩
  | bin o a b h1 h2 ha hb iha ihb =>
    rw [ev_two]
    split
    · exact ⟨fun _ => z, fun _ => ⟨rfl, rfl⟩, iha.2.2⟩
    · rw [if_neg (by omega), if_neg (by omega)]
      split
      · exact ⟨fun _ => z, fun _ => ⟨rfl, rfl⟩, ihb.2.2⟩
      · have := sumS_num (o := o) (b := (ev v b).1) (iha.1 rfl)
        exact ⟨fun _ => this.1, this.2⟩
  | cmp o a b h1 h2 ha hb iha ihb =>
    rw [ev_two]
    split
    · exact ⟨fun _ => z, fun _ => ⟨rfl, rfl⟩, iha.2.2⟩
    · rw [if_neg (by omega), if_neg (by omega)]
      split
      · exact ⟨fun _ => z, fun _ => ⟨rfl, rfl⟩, ihb.2.2⟩
      · have := sumS_num (o := o) (b := (ev v b).1) (iha.1 rfl)
        exact ⟨fun e => (by cases e), this.2⟩
  | log o a b h ha hb iha ihb =>
    rw [ev_two]
    split
    · exact ⟨fun e => (by cases e), fun _ => ⟨rfl, rfl⟩, iha.2.2⟩
    · rcases h with rfl | rfl
      · rw [if_pos rfl]; split
        · exact ⟨fun e => (by cases e), ihb.2⟩
        · exact ⟨fun e => (by cases e), iha.2⟩
      · rw [if_neg (by decide), if_pos rfl]; split
        · exact ⟨fun e => (by cases e), iha.2⟩
        · exact ⟨fun e => (by cases e), ihb.2⟩
end Go.Proofs.YtjpphhcimpclpaaDoor.AM
end

section
set_option linter.unusedVariables false
set_option linter.unusedSimpArgs false
set_option maxRecDepth 4000
set_option maxHeartbeats 4000000
namespace Go.Proofs.YtjpphhcimpclpaaDoor.AM
open Go Go.Proofs
set_option linter.defProp false in
def TTEvL := And.intro T2 (And.intro T3 (And.intro T4 (And.intro T27 (And.intro T31 (And.intro T56 (And.intro T58 (And.intro T141 T142)))))))
attribute [local irreducible] awp aops aqops
variable {G : Nat → Option (List PV)}

abbrev aV (v : Int → Int) : AV := .agg [.i (v 0), .i (v 1), .i (v 2), .i (v 3)]
abbrev aN (x : Int × Bool × Int) : AV := .tup [.i x.1, .i x.2.2]
abbrev aB (x : Int × Bool × Int) : AV := .tup [.b x.2.1, .i x.2.2]

theorem number_var (v : Int → Int) (n : Int) (hn : n = 0 ∨ n = 1 ∨ n = 2 ∨ n = 3) (h : Heap) : ACalls Tryd.prog G 94 [.agg [.i 2, .i n, .p (.sl [])], aV v] h (fun r h' => r = .tup [.i (v n), .i 0] ∧ h' = h) := by
  rcases hn with rfl | rfl | rfl | rfl
  all_goals
    refine acalls_pure (rl := []) mixed Tryd.func94 rfl (rs := [.tmp 4, .tmp 5]) rfl Tryd.ntmps94 (by simp) ?_
    repeat' (first | ((first | refine aops_nil ?_ | refine aqops_nil ?_); (try simp only [NB])) | ((repeat ((fail_if_success (refine hK _ ?_)); clear hK K)); refine hK _ ?_; clear hK K) | ((first | refine aops_k fun K1 hK1 => ?_ | refine aqops_k fun K1 hK1 => ?_ | refine awp_cond_k fun A B hA hB => ?_); simp only [S1, simprocAttr, TTEvL]; first | (refine hK1 _ ?_; clear hK1 K1) | ((first | refine hA ?_ | refine hB ?_); clear hA hB A B) | (refine join_x (v := ?_) (fun hg hk9 => ?_) ?_; rotate_left; (focus (try ((try simp only [BN] at hg); simp only [S1, simprocAttr, TTEvL, hg] at hk9 ⊢)); first | exact hk9); (refine hK1 _ ?_; clear hK1 K1)) | (((first | (refine ⟨fun hg => hA ?_, fun hg => hB ?_⟩ <;> clear hA hB A B) | refine ⟨fun hg => ?_, fun hg => ?_⟩) <;> (try simp only [BN2] at hg) <;> (try simp only [hg, cond_true, cond_false])) <;> (try (refine hK1 _ ?_; clear hK1 K1)) <;> (try simp only [BN3] at hg))) | (refine awp_seq_k fun K hK => ?_) | ((first | refine awp_region ?_ | refine awp_draw (by kernel_rfl) ?_ | refine awp_block ?_ | refine awp_exit ?_ | refine awp_skip ?_ | refine awp_ret ?_); (try simp only [NB, simprocAttr])))
    all_goals simp only [EndP, FinP, resA, resL, resA1, lastV, lastA, lastAs, pur, purs, take_app, List.take_length, S1, simprocAttr, TTEvL, Nat.le_add_right, Nat.le_refl]

theorem number_num (v : Int → Int) (n : Int) (h : Heap) : ACalls Tryd.prog G 94 [.agg [.i 1, .i n, .p (.sl [])], aV v] h (fun r h' => r = .tup [.i n, .i 0] ∧ h' = h) := by
  refine acalls_pure (rl := []) mixed Tryd.func94 rfl (rs := [.tmp 4, .tmp 5]) rfl Tryd.ntmps94 (by simp) ?_
  repeat' (first | ((first | refine aops_nil ?_ | refine aqops_nil ?_); (try simp only [NB])) | ((repeat ((fail_if_success (refine hK _ ?_)); clear hK K)); refine hK _ ?_; clear hK K) | ((first | refine aops_k fun K1 hK1 => ?_ | refine aqops_k fun K1 hK1 => ?_ | refine awp_cond_k fun A B hA hB => ?_); simp only [S1, simprocAttr, TTEvL]; first | (refine hK1 _ ?_; clear hK1 K1) | ((first | refine hA ?_ | refine hB ?_); clear hA hB A B) | (refine join_x (v := ?_) (fun hg hk9 => ?_) ?_; rotate_left; (focus (try ((try simp only [BN] at hg); simp only [S1, simprocAttr, TTEvL, hg] at hk9 ⊢)); first | exact hk9); (refine hK1 _ ?_; clear hK1 K1)) | (((first | (refine ⟨fun hg => hA ?_, fun hg => hB ?_⟩ <;> clear hA hB A B) | refine ⟨fun hg => ?_, fun hg => ?_⟩) <;> (try simp only [BN2] at hg) <;> (try simp only [hg, cond_true, cond_false])) <;> (try (refine hK1 _ ?_; clear hK1 K1)) <;> (try simp only [BN3] at hg))) | (refine awp_seq_k fun K hK => ?_) | ((first | refine awp_region ?_ | refine awp_draw (by kernel_rfl) ?_ | refine awp_block ?_ | refine awp_exit ?_ | refine awp_skip ?_ | refine awp_ret ?_); (try simp only [NB, simprocAttr])))
  all_goals simp only [EndP, FinP, resA, resL, resA1, lastV, lastA, lastAs, pur, purs, take_app, List.take_length, S1, simprocAttr, TTEvL, Nat.le_add_right, Nat.le_refl]

theorem number_neg (v : Int → Int) (a : Tm) {x : Int × Bool × Int} (hx : Num x.1) (ih : ∀ h : Heap, ACalls Tryd.prog G 94 [aT a, aV v] h (fun r h' => r = aN x ∧ h' = h)) (h : Heap) :
    ACalls Tryd.prog G 94 [.agg [.i 3, .i 0, .p (.sl [eT a])], aV v] h (fun r h' => r = .tup [.i (-x.1), .i x.2.2] ∧ h' = h) := by
  unfold Num at hx
  have hw := IntWalk.i64_in (-x.1) (by omega)
  have hz : (0 : Int) - x.1 = - x.1 := by omega
  refine acalls_pure (rl := []) mixed Tryd.func94 rfl (rs := [.tmp 4, .tmp 5]) rfl Tryd.ntmps94 (by simp) ?_
  repeat' (first | ((first | refine aops_nil ?_ | refine aqops_nil ?_); (try simp only [NB])) | ((repeat ((fail_if_success (refine hK _ ?_)); clear hK K)); refine hK _ ?_; clear hK K) | ((first | refine aops_k fun K1 hK1 => ?_ | refine aqops_k fun K1 hK1 => ?_ | refine awp_cond_k fun A B hA hB => ?_); simp only [S1, simprocAttr, TTEvL, eT_eq, hw, hz]; first | (refine hK1 _ ?_; clear hK1 K1) | ((first | refine hA ?_ | refine hB ?_); clear hA hB A B) | ((first | apply call_a E94 | apply call_q E94); exact (ih _); (refine hK1 _ ?_; clear hK1 K1)) | (refine join_x (v := ?_) (fun hg hk9 => ?_) ?_; rotate_left; (focus (try ((try simp only [BN] at hg); simp only [S1, simprocAttr, TTEvL, eT_eq, hw, hz, hg] at hk9 ⊢)); first | exact hk9 | ((first | apply call_a E94 | apply call_q E94); exact (ih _); exact hk9)); (refine hK1 _ ?_; clear hK1 K1)) | (((first | (refine ⟨fun hg => hA ?_, fun hg => hB ?_⟩ <;> clear hA hB A B) | refine ⟨fun hg => ?_, fun hg => ?_⟩) <;> (try simp only [BN2] at hg) <;> (try simp only [hg, cond_true, cond_false])) <;> (try (refine hK1 _ ?_; clear hK1 K1)) <;> (try simp only [BN3] at hg))) | (refine awp_seq_k fun K hK => ?_) | ((first | refine awp_region ?_ | refine awp_draw (by kernel_rfl) ?_ | refine awp_block ?_ | refine awp_exit ?_ | refine awp_skip ?_ | refine awp_ret ?_); (try simp only [NB, simprocAttr])))
  all_goals simp only [EndP, FinP, resA, resL, resA1, lastV, lastA, lastAs, pur, purs, take_app, List.take_length, S1, simprocAttr, TTEvL, Nat.le_add_right, Nat.le_refl]

theorem number_bin (v : Int → Int) (o : Int) (h1 : 5 ≤ o) (h2 : o ≤ 9) (a b : Tm) {x y : Int × Bool × Int} (hx : Num x.1) (hy : Num y.1)
    (iha : ∀ h : Heap, ACalls Tryd.prog G 94 [aT a, aV v] h (fun r h' => r = aN x ∧ h' = h))
    (ihb : ∀ h : Heap, ACalls Tryd.prog G 94 [aT b, aV v] h (fun r h' => r = aN y ∧ h' = h)) (hx0 : x.2.2 ≠ 0 → x.1 = 0) (h : Heap) :
    ACalls Tryd.prog G 94 [.agg [.i o, .i 0, .p (.sl [eT a, eT b])], aV v] h (fun r h' => r = aN (if x.2.2 ≠ 0 then (0, false, x.2.2) else if y.2.2 ≠ 0 then (0, false, y.2.2) else sumS o x.1 y.1) ∧ h' = h) := by
  have f1 : (o == 1) = false := by simp; omega
  have f2 : (o == 2) = false := by simp; omega
  have f3 : (o == 3) = false := by simp; omega
  have hz : IntKind.i64.wrap (0 - 0) = 0 := rfl
  have hz0 : IntKind.i64.wrap 0 = 0 := rfl
  by_cases e1 : x.2.2 = 0
  · have f4 : (x.2.2 != 0) = false := by simp [e1]
    by_cases e2 : y.2.2 = 0
    · have f5 : (y.2.2 != 0) = false := by simp [e2]
      refine acalls_pure (rl := []) mixed Tryd.func94 rfl (rs := [.tmp 4, .tmp 5]) rfl Tryd.ntmps94 (by simp) ?_
      repeat' (first | ((first | refine aops_nil ?_ | refine aqops_nil ?_); (try simp only [NB])) | ((repeat ((fail_if_success (refine hK _ ?_)); clear hK K)); refine hK _ ?_; clear hK K) | ((first | refine aops_k fun K1 hK1 => ?_ | refine aqops_k fun K1 hK1 => ?_ | refine awp_cond_k fun A B hA hB => ?_); simp only [S1, simprocAttr, TTEvL, eT_eq, f1, f2, f3, f4, f5]; first | (refine hK1 _ ?_; clear hK1 K1) | ((first | refine hA ?_ | refine hB ?_); clear hA hB A B) | ((first | apply call_a E94 | apply call_q E94); exact (iha _); (refine hK1 _ ?_; clear hK1 K1)) | ((first | apply call_a E94 | apply call_q E94); exact (ihb _); (refine hK1 _ ?_; clear hK1 K1)) | ((first | apply call_a E100 | apply call_q E100); exact (reckon_calls h1 h2 hx hy _); (refine hK1 _ ?_; clear hK1 K1)) | (refine join_x (v := ?_) (fun hg hk9 => ?_) ?_; rotate_left; (focus (try ((try simp only [BN] at hg); simp only [S1, simprocAttr, TTEvL, eT_eq, f1, f2, f3, f4, f5, hg] at hk9 ⊢)); first | exact hk9 | ((first | apply call_a E94 | apply call_q E94); exact (iha _); exact hk9) | ((first | apply call_a E94 | apply call_q E94); exact (ihb _); exact hk9) | ((first | apply call_a E100 | apply call_q E100); exact (reckon_calls h1 h2 hx hy _); exact hk9)); (refine hK1 _ ?_; clear hK1 K1)) | (((first | (refine ⟨fun hg => hA ?_, fun hg => hB ?_⟩ <;> clear hA hB A B) | refine ⟨fun hg => ?_, fun hg => ?_⟩) <;> (try simp only [BN2] at hg) <;> (try simp only [hg, cond_true, cond_false])) <;> (try (refine hK1 _ ?_; clear hK1 K1)) <;> (try simp only [BN3] at hg))) | (refine awp_seq_k fun K hK => ?_) | ((first | refine awp_region ?_ | refine awp_draw (by kernel_rfl) ?_ | refine awp_block ?_ | refine awp_exit ?_ | refine awp_skip ?_ | refine awp_ret ?_); (try simp only [NB, simprocAttr])))
      all_goals simp only [EndP, FinP, resA, resL, resA1, lastV, lastA, lastAs, pur, purs, take_app, List.take_length, S1, simprocAttr, TTEvL, Nat.le_add_right, Nat.le_refl]
      all_goals simp [e1, e2]
    · have f5 : (y.2.2 != 0) = true := by simp [e2]
      refine acalls_pure (rl := []) mixed Tryd.func94 rfl (rs := [.tmp 4, .tmp 5]) rfl Tryd.ntmps94 (by simp) ?_
      repeat' (first | ((first | refine aops_nil ?_ | refine aqops_nil ?_); (try simp only [NB])) | ((repeat ((fail_if_success (refine hK _ ?_)); clear hK K)); refine hK _ ?_; clear hK K) | ((first | refine aops_k fun K1 hK1 => ?_ | refine aqops_k fun K1 hK1 => ?_ | refine awp_cond_k fun A B hA hB => ?_); simp only [S1, simprocAttr, TTEvL, eT_eq, f1, f2, f3, f4, f5]; first | (refine hK1 _ ?_; clear hK1 K1) | ((first | refine hA ?_ | refine hB ?_); clear hA hB A B) | ((first | apply call_a E94 | apply call_q E94); exact (iha _); (refine hK1 _ ?_; clear hK1 K1)) | ((first | apply call_a E94 | apply call_q E94); exact (ihb _); (refine hK1 _ ?_; clear hK1 K1)) | (refine join_x (v := ?_) (fun hg hk9 => ?_) ?_; rotate_left; (focus (try ((try simp only [BN] at hg); simp only [S1, simprocAttr, TTEvL, eT_eq, f1, f2, f3, f4, f5, hg] at hk9 ⊢)); first | exact hk9 | ((first | apply call_a E94 | apply call_q E94); exact (iha _); exact hk9) | ((first | apply call_a E94 | apply call_q E94); exact (ihb _); exact hk9)); (refine hK1 _ ?_; clear hK1 K1)) | (((first | (refine ⟨fun hg => hA ?_, fun hg => hB ?_⟩ <;> clear hA hB A B) | refine ⟨fun hg => ?_, fun hg => ?_⟩) <;> (try simp only [BN2] at hg) <;> (try simp only [hg, cond_true, cond_false])) <;> (try (refine hK1 _ ?_; clear hK1 K1)) <;> (try simp only [BN3] at hg))) | (refine awp_seq_k fun K hK => ?_) | ((first | refine awp_region ?_ | refine awp_draw (by kernel_rfl) ?_ | refine awp_block ?_ | refine awp_exit ?_ | refine awp_skip ?_ | refine awp_ret ?_); (try simp only [NB, simprocAttr])))
      all_goals simp only [EndP, FinP, resA, resL, resA1, lastV, lastA, lastAs, pur, purs, take_app, List.take_length, S1, simprocAttr, TTEvL, Nat.le_add_right, Nat.le_refl]
      all_goals simp [e1, e2]
  · have f4 : (x.2.2 != 0) = true := by simp [e1]
    have f6 := hx0 e1
    refine acalls_pure (rl := []) mixed Tryd.func94 rfl (rs := [.tmp 4, .tmp 5]) rfl Tryd.ntmps94 (by simp) ?_
    repeat' (first | ((first | refine aops_nil ?_ | refine aqops_nil ?_); (try simp only [NB])) | ((repeat ((fail_if_success (refine hK _ ?_)); clear hK K)); refine hK _ ?_; clear hK K) | ((first | refine aops_k fun K1 hK1 => ?_ | refine aqops_k fun K1 hK1 => ?_ | refine awp_cond_k fun A B hA hB => ?_); simp only [S1, simprocAttr, TTEvL, eT_eq, f1, f2, f3, f4, f6, hz, hz0]; first | (refine hK1 _ ?_; clear hK1 K1) | ((first | refine hA ?_ | refine hB ?_); clear hA hB A B) | ((first | apply call_a E94 | apply call_q E94); exact (iha _); (refine hK1 _ ?_; clear hK1 K1)) | (refine join_x (v := ?_) (fun hg hk9 => ?_) ?_; rotate_left; (focus (try ((try simp only [BN] at hg); simp only [S1, simprocAttr, TTEvL, eT_eq, f1, f2, f3, f4, f6, hz, hz0, hg] at hk9 ⊢)); first | exact hk9 | ((first | apply call_a E94 | apply call_q E94); exact (iha _); exact hk9)); (refine hK1 _ ?_; clear hK1 K1)) | (((first | (refine ⟨fun hg => hA ?_, fun hg => hB ?_⟩ <;> clear hA hB A B) | refine ⟨fun hg => ?_, fun hg => ?_⟩) <;> (try simp only [BN2] at hg) <;> (try simp only [hg, cond_true, cond_false])) <;> (try (refine hK1 _ ?_; clear hK1 K1)) <;> (try simp only [BN3] at hg))) | (refine awp_seq_k fun K hK => ?_) | ((first | refine awp_region ?_ | refine awp_draw (by kernel_rfl) ?_ | refine awp_block ?_ | refine awp_exit ?_ | refine awp_skip ?_ | refine awp_ret ?_); (try simp only [NB, simprocAttr])))
    all_goals simp only [EndP, FinP, resA, resL, resA1, lastV, lastA, lastAs, pur, purs, take_app, List.take_length, S1, simprocAttr, TTEvL, Nat.le_add_right, Nat.le_refl]
    all_goals simp [e1]

theorem number_calls {v : Int → Int} (hv : ∀ i, Num (v i)) {t : Tm} (ht : Good t false) : ∀ h : Heap, ACalls Tryd.prog G 94 [aT t, aV v] h (fun r h' => r = aN (ev v t) ∧ h' = h) := by
  have key : ∀ {t k}, Good t k → k = false → ∀ h : Heap, ACalls Tryd.prog G 94 [aT t, aV v] h (fun r h' => r = aN (ev v t) ∧ h' = h) := by
    intro t k hg
    induction hg with
    | num n h1 h2 => intro _ h; rw [ev_nil]; exact number_num v n h
    | var n hn => intro _ h; rw [ev_nil, if_neg (by decide)]; exact number_var v n hn h
    | neg a hg ih =>
      intro _ h
      have g := ev_good hv hg
      refine ACalls.mono (number_neg v a (g.1 rfl) (ih rfl) h) ?_
      rintro r h' ⟨rfl, rfl⟩
      refine ⟨?_, rfl⟩
      rw [ev_one]
      split
      · rename_i e; rw [(g.2.1 e).1]; rfl
      · rename_i e; rw [if_pos rfl, Classical.not_not.mp e]
    | bin o a b h1 h2 ha hb iha ihb =>
      intro _ h
      have g := ev_good hv ha
      refine ACalls.mono (number_bin v o h1 h2 a b (g.1 rfl) ((ev_good hv hb).1 rfl) (iha rfl) (ihb rfl) (fun e => (g.2.1 e).1) h) ?_
      rintro r h' ⟨rfl, rfl⟩
      refine ⟨?_, rfl⟩
      rw [ev_two, if_neg (show ¬ o = 13 by omega), if_neg (show ¬ o = 14 by omega)]
    | not => intro e; cases e
    | cmp => intro e; cases e
    | log => intro e; cases e
  exact key ht rfl
end Go.Proofs.YtjpphhcimpclpaaDoor.AM
end

section
set_option linter.unusedVariables false
set_option linter.unusedSimpArgs false
set_option maxRecDepth 4000
set_option maxHeartbeats 4000000
namespace Go.Proofs.YtjpphhcimpclpaaDoor.AM
open Go Go.Proofs
set_option linter.defProp false in
def TTEvM := And.intro T2 (And.intro T3 (And.intro T4 (And.intro T27 (And.intro T31 (And.intro T56 (And.intro T58 (And.intro T141 T142)))))))
attribute [local irreducible] awp aops aqops
variable {G : Nat → Option (List PV)}

theorem truth_not (v : Int → Int) (a : Tm) {x : Int × Bool × Int} (ih : ∀ h : Heap, ACalls Tryd.prog G 101 [aT a, aV v] h (fun r h' => r = aB x ∧ h' = h)) (h : Heap) :
    ACalls Tryd.prog G 101 [.agg [.i 4, .i 0, .p (.sl [eT a])], aV v] h (fun r h' => r = .tup [.b (!x.2.1 && x.2.2 == 0), .i x.2.2] ∧ h' = h) := by
  refine acalls_pure (rl := []) mixed Tryd.func101 rfl (rs := [.tmp 4, .tmp 5]) rfl Tryd.ntmps101 (by simp) ?_
  repeat' (first | ((first | refine aops_nil ?_ | refine aqops_nil ?_); (try simp only [NB])) | ((repeat ((fail_if_success (refine hK _ ?_)); clear hK K)); refine hK _ ?_; clear hK K) | ((first | refine aops_k fun K1 hK1 => ?_ | refine aqops_k fun K1 hK1 => ?_ | refine awp_cond_k fun A B hA hB => ?_); simp only [S1, simprocAttr, TTEvM, eT_eq]; first | (refine hK1 _ ?_; clear hK1 K1) | ((first | refine hA ?_ | refine hB ?_); clear hA hB A B) | ((first | apply call_a E101 | apply call_q E101); exact (ih _); (refine hK1 _ ?_; clear hK1 K1)) | (refine join_x (v := ?_) (fun hg hk9 => ?_) ?_; rotate_left; (focus (try ((try simp only [BN] at hg); simp only [S1, simprocAttr, TTEvM, eT_eq, hg] at hk9 ⊢)); first | exact hk9 | ((first | apply call_a E101 | apply call_q E101); exact (ih _); exact hk9)); (refine hK1 _ ?_; clear hK1 K1)) | (((first | (refine ⟨fun hg => hA ?_, fun hg => hB ?_⟩ <;> clear hA hB A B) | refine ⟨fun hg => ?_, fun hg => ?_⟩) <;> (try simp only [BN2] at hg) <;> (try simp only [hg, cond_true, cond_false])) <;> (try (refine hK1 _ ?_; clear hK1 K1)) <;> (try simp only [BN3] at hg))) | (refine awp_seq_k fun K hK => ?_) | ((first | refine awp_region ?_ | refine awp_draw (by kernel_rfl) ?_ | refine awp_block ?_ | refine awp_exit ?_ | refine awp_skip ?_ | refine awp_ret ?_); (try simp only [NB, simprocAttr])))
  all_goals simp only [EndP, FinP, resA, resL, resA1, lastV, lastA, lastAs, pur, purs, take_app, List.take_length, S1, simprocAttr, TTEvM, Nat.le_add_right, Nat.le_refl]
  all_goals trace_state

theorem truth_log (v : Int → Int) (o : Int) (ho : o = 13 ∨ o = 14) (a b : Tm) {x y : Int × Bool × Int}
    (iha : ∀ h : Heap, ACalls Tryd.prog G 101 [aT a, aV v] h (fun r h' => r = aB x ∧ h' = h))
    (ihb : ∀ h : Heap, ACalls Tryd.prog G 101 [aT b, aV v] h (fun r h' => r = aB y ∧ h' = h)) (h : Heap) :
    ACalls Tryd.prog G 101 [.agg [.i o, .i 0, .p (.sl [eT a, eT b])], aV v] h (fun r h' => r = aB (if x.2.2 ≠ 0 then x else if x.2.1 = (o == 14) then x else y) ∧ h' = h) := by
  rcases ho with rfl | rfl
  all_goals
    cases hx : x.2.1 with
    | true =>
      by_cases e1 : x.2.2 = 0
      · refine acalls_pure (rl := []) mixed Tryd.func101 rfl (rs := [.tmp 4, .tmp 5]) rfl Tryd.ntmps101 (by simp) ?_
        repeat' (first | ((first | refine aops_nil ?_ | refine aqops_nil ?_); (try simp only [NB])) | ((repeat ((fail_if_success (refine hK _ ?_)); clear hK K)); refine hK _ ?_; clear hK K) | ((first | refine aops_k fun K1 hK1 => ?_ | refine aqops_k fun K1 hK1 => ?_ | refine awp_cond_k fun A B hA hB => ?_); simp only [S1, simprocAttr, TTEvM, eT_eq, e1, hx]; first | (refine hK1 _ ?_; clear hK1 K1) | ((first | refine hA ?_ | refine hB ?_); clear hA hB A B) | ((first | apply call_a E101 | apply call_q E101); exact (iha _); (refine hK1 _ ?_; clear hK1 K1)) | ((first | apply call_a E101 | apply call_q E101); exact (ihb _); (refine hK1 _ ?_; clear hK1 K1)) | (refine join_x (v := ?_) (fun hg hk9 => ?_) ?_; rotate_left; (focus (try ((try simp only [BN] at hg); simp only [S1, simprocAttr, TTEvM, eT_eq, e1, hx, hg] at hk9 ⊢)); first | exact hk9 | ((first | apply call_a E101 | apply call_q E101); exact (iha _); exact hk9) | ((first | apply call_a E101 | apply call_q E101); exact (ihb _); exact hk9)); (refine hK1 _ ?_; clear hK1 K1)) | (((first | (refine ⟨fun hg => hA ?_, fun hg => hB ?_⟩ <;> clear hA hB A B) | refine ⟨fun hg => ?_, fun hg => ?_⟩) <;> (try simp only [BN2] at hg) <;> (try simp only [hg, cond_true, cond_false])) <;> (try (refine hK1 _ ?_; clear hK1 K1)) <;> (try simp only [BN3] at hg))) | (refine awp_seq_k fun K hK => ?_) | ((first | refine awp_region ?_ | refine awp_draw (by kernel_rfl) ?_ | refine awp_block ?_ | refine awp_exit ?_ | refine awp_skip ?_ | refine awp_ret ?_); (try simp only [NB, simprocAttr])))
        all_goals simp only [EndP, FinP, resA, resL, resA1, lastV, lastA, lastAs, pur, purs, take_app, List.take_length, S1, simprocAttr, TTEvM, Nat.le_add_right, Nat.le_refl]
        all_goals simp [e1, hx]
      · have f4 : (x.2.2 != 0) = true := by simp [e1]
        refine acalls_pure (rl := []) mixed Tryd.func101 rfl (rs := [.tmp 4, .tmp 5]) rfl Tryd.ntmps101 (by simp) ?_
        repeat' (first | ((first | refine aops_nil ?_ | refine aqops_nil ?_); (try simp only [NB])) | ((repeat ((fail_if_success (refine hK _ ?_)); clear hK K)); refine hK _ ?_; clear hK K) | ((first | refine aops_k fun K1 hK1 => ?_ | refine aqops_k fun K1 hK1 => ?_ | refine awp_cond_k fun A B hA hB => ?_); simp only [S1, simprocAttr, TTEvM, eT_eq, f4, hx]; first | (refine hK1 _ ?_; clear hK1 K1) | ((first | refine hA ?_ | refine hB ?_); clear hA hB A B) | ((first | apply call_a E101 | apply call_q E101); exact (iha _); (refine hK1 _ ?_; clear hK1 K1)) | ((first | apply call_a E101 | apply call_q E101); exact (ihb _); (refine hK1 _ ?_; clear hK1 K1)) | (refine join_x (v := ?_) (fun hg hk9 => ?_) ?_; rotate_left; (focus (try ((try simp only [BN] at hg); simp only [S1, simprocAttr, TTEvM, eT_eq, f4, hx, hg] at hk9 ⊢)); first | exact hk9 | ((first | apply call_a E101 | apply call_q E101); exact (iha _); exact hk9) | ((first | apply call_a E101 | apply call_q E101); exact (ihb _); exact hk9)); (refine hK1 _ ?_; clear hK1 K1)) | (((first | (refine ⟨fun hg => hA ?_, fun hg => hB ?_⟩ <;> clear hA hB A B) | refine ⟨fun hg => ?_, fun hg => ?_⟩) <;> (try simp only [BN2] at hg) <;> (try simp only [hg, cond_true, cond_false])) <;> (try (refine hK1 _ ?_; clear hK1 K1)) <;> (try simp only [BN3] at hg))) | (refine awp_seq_k fun K hK => ?_) | ((first | refine awp_region ?_ | refine awp_draw (by kernel_rfl) ?_ | refine awp_block ?_ | refine awp_exit ?_ | refine awp_skip ?_ | refine awp_ret ?_); (try simp only [NB, simprocAttr])))
        all_goals simp only [EndP, FinP, resA, resL, resA1, lastV, lastA, lastAs, pur, purs, take_app, List.take_length, S1, simprocAttr, TTEvM, Nat.le_add_right, Nat.le_refl]
        all_goals simp [e1, hx]
    | false =>
      by_cases e1 : x.2.2 = 0
      · refine acalls_pure (rl := []) mixed Tryd.func101 rfl (rs := [.tmp 4, .tmp 5]) rfl Tryd.ntmps101 (by simp) ?_
        repeat' (first | ((first | refine aops_nil ?_ | refine aqops_nil ?_); (try simp only [NB])) | ((repeat ((fail_if_success (refine hK _ ?_)); clear hK K)); refine hK _ ?_; clear hK K) | ((first | refine aops_k fun K1 hK1 => ?_ | refine aqops_k fun K1 hK1 => ?_ | refine awp_cond_k fun A B hA hB => ?_); simp only [S1, simprocAttr, TTEvM, eT_eq, e1, hx]; first | (refine hK1 _ ?_; clear hK1 K1) | ((first | refine hA ?_ | refine hB ?_); clear hA hB A B) | ((first | apply call_a E101 | apply call_q E101); exact (iha _); (refine hK1 _ ?_; clear hK1 K1)) | ((first | apply call_a E101 | apply call_q E101); exact (ihb _); (refine hK1 _ ?_; clear hK1 K1)) | (refine join_x (v := ?_) (fun hg hk9 => ?_) ?_; rotate_left; (focus (try ((try simp only [BN] at hg); simp only [S1, simprocAttr, TTEvM, eT_eq, e1, hx, hg] at hk9 ⊢)); first | exact hk9 | ((first | apply call_a E101 | apply call_q E101); exact (iha _); exact hk9) | ((first | apply call_a E101 | apply call_q E101); exact (ihb _); exact hk9)); (refine hK1 _ ?_; clear hK1 K1)) | (((first | (refine ⟨fun hg => hA ?_, fun hg => hB ?_⟩ <;> clear hA hB A B) | refine ⟨fun hg => ?_, fun hg => ?_⟩) <;> (try simp only [BN2] at hg) <;> (try simp only [hg, cond_true, cond_false])) <;> (try (refine hK1 _ ?_; clear hK1 K1)) <;> (try simp only [BN3] at hg))) | (refine awp_seq_k fun K hK => ?_) | ((first | refine awp_region ?_ | refine awp_draw (by kernel_rfl) ?_ | refine awp_block ?_ | refine awp_exit ?_ | refine awp_skip ?_ | refine awp_ret ?_); (try simp only [NB, simprocAttr])))
        all_goals simp only [EndP, FinP, resA, resL, resA1, lastV, lastA, lastAs, pur, purs, take_app, List.take_length, S1, simprocAttr, TTEvM, Nat.le_add_right, Nat.le_refl]
        all_goals simp [e1, hx]
      · have f4 : (x.2.2 != 0) = true := by simp [e1]
        refine acalls_pure (rl := []) mixed Tryd.func101 rfl (rs := [.tmp 4, .tmp 5]) rfl Tryd.ntmps101 (by simp) ?_
        repeat' (first | ((first | refine aops_nil ?_ | refine aqops_nil ?_); (try simp only [NB])) | ((repeat ((fail_if_success (refine hK _ ?_)); clear hK K)); refine hK _ ?_; clear hK K) | ((first | refine aops_k fun K1 hK1 => ?_ | refine aqops_k fun K1 hK1 => ?_ | refine awp_cond_k fun A B hA hB => ?_); simp only [S1, simprocAttr, TTEvM, eT_eq, f4, hx]; first | (refine hK1 _ ?_; clear hK1 K1) | ((first | refine hA ?_ | refine hB ?_); clear hA hB A B) | ((first | apply call_a E101 | apply call_q E101); exact (iha _); (refine hK1 _ ?_; clear hK1 K1)) | ((first | apply call_a E101 | apply call_q E101); exact (ihb _); (refine hK1 _ ?_; clear hK1 K1)) | (refine join_x (v := ?_) (fun hg hk9 => ?_) ?_; rotate_left; (focus (try ((try simp only [BN] at hg); simp only [S1, simprocAttr, TTEvM, eT_eq, f4, hx, hg] at hk9 ⊢)); first | exact hk9 | ((first | apply call_a E101 | apply call_q E101); exact (iha _); exact hk9) | ((first | apply call_a E101 | apply call_q E101); exact (ihb _); exact hk9)); (refine hK1 _ ?_; clear hK1 K1)) | (((first | (refine ⟨fun hg => hA ?_, fun hg => hB ?_⟩ <;> clear hA hB A B) | refine ⟨fun hg => ?_, fun hg => ?_⟩) <;> (try simp only [BN2] at hg) <;> (try simp only [hg, cond_true, cond_false])) <;> (try (refine hK1 _ ?_; clear hK1 K1)) <;> (try simp only [BN3] at hg))) | (refine awp_seq_k fun K hK => ?_) | ((first | refine awp_region ?_ | refine awp_draw (by kernel_rfl) ?_ | refine awp_block ?_ | refine awp_exit ?_ | refine awp_skip ?_ | refine awp_ret ?_); (try simp only [NB, simprocAttr])))
        all_goals simp only [EndP, FinP, resA, resL, resA1, lastV, lastA, lastAs, pur, purs, take_app, List.take_length, S1, simprocAttr, TTEvM, Nat.le_add_right, Nat.le_refl]
        all_goals simp [e1, hx]
end Go.Proofs.YtjpphhcimpclpaaDoor.AM
end

section
set_option linter.unusedVariables false
set_option linter.unusedSimpArgs false
set_option maxRecDepth 4000
set_option maxHeartbeats 4000000
namespace Go.Proofs.YtjpphhcimpclpaaDoor.AM
open Go Go.Proofs
set_option linter.defProp false in
def TTEvN := And.intro T2 (And.intro T3 (And.intro T4 (And.intro T27 (And.intro T31 (And.intro T56 (And.intro T58 (And.intro T141 T142)))))))
attribute [local irreducible] awp aops aqops
variable {G : Nat → Option (List PV)}

theorem truth_cmp (v : Int → Int) (o : Int) (ho : o = 10 ∨ o = 11 ∨ o = 12) (a b : Tm) {x y : Int × Bool × Int}
    (iha : ∀ h : Heap, ACalls Tryd.prog G 94 [aT a, aV v] h (fun r h' => r = aN x ∧ h' = h))
    (ihb : ∀ h : Heap, ACalls Tryd.prog G 94 [aT b, aV v] h (fun r h' => r = aN y ∧ h' = h)) (h : Heap) :
    ACalls Tryd.prog G 101 [.agg [.i o, .i 0, .p (.sl [eT a, eT b])], aV v] h (fun r h' => r = aB (if x.2.2 ≠ 0 then (0, false, x.2.2) else if y.2.2 ≠ 0 then (0, false, y.2.2) else sumS o x.1 y.1) ∧ h' = h) := by
  by_cases e1 : x.2.2 = 0
  · by_cases e2 : y.2.2 = 0
    · rcases ho with rfl | rfl | rfl
      all_goals
        refine acalls_pure (rl := []) mixed Tryd.func101 rfl (rs := [.tmp 4, .tmp 5]) rfl Tryd.ntmps101 (by simp) ?_
        repeat' (first | ((first | refine aops_nil ?_ | refine aqops_nil ?_); (try simp only [NB])) | ((repeat ((fail_if_success (refine hK _ ?_)); clear hK K)); refine hK _ ?_; clear hK K) | ((first | refine aops_k fun K1 hK1 => ?_ | refine aqops_k fun K1 hK1 => ?_ | refine awp_cond_k fun A B hA hB => ?_); simp only [S1, simprocAttr, TTEvN, eT_eq, e1, e2]; first | (refine hK1 _ ?_; clear hK1 K1) | ((first | refine hA ?_ | refine hB ?_); clear hA hB A B) | ((first | apply call_a E94 | apply call_q E94); exact (iha _); (refine hK1 _ ?_; clear hK1 K1)) | ((first | apply call_a E94 | apply call_q E94); exact (ihb _); (refine hK1 _ ?_; clear hK1 K1)) | (refine join_x (v := ?_) (fun hg hk9 => ?_) ?_; rotate_left; (focus (try ((try simp only [BN] at hg); simp only [S1, simprocAttr, TTEvN, eT_eq, e1, e2, hg] at hk9 ⊢)); first | exact hk9 | ((first | apply call_a E94 | apply call_q E94); exact (iha _); exact hk9) | ((first | apply call_a E94 | apply call_q E94); exact (ihb _); exact hk9)); (refine hK1 _ ?_; clear hK1 K1)) | (((first | (refine ⟨fun hg => hA ?_, fun hg => hB ?_⟩ <;> clear hA hB A B) | refine ⟨fun hg => ?_, fun hg => ?_⟩) <;> (try simp only [BN2] at hg) <;> (try simp only [hg, cond_true, cond_false])) <;> (try (refine hK1 _ ?_; clear hK1 K1)) <;> (try simp only [BN3] at hg))) | (refine awp_seq_k fun K hK => ?_) | ((first | refine awp_region ?_ | refine awp_draw (by kernel_rfl) ?_ | refine awp_block ?_ | refine awp_exit ?_ | refine awp_skip ?_ | refine awp_ret ?_); (try simp only [NB, simprocAttr])))
        all_goals simp only [EndP, FinP, resA, resL, resA1, lastV, lastA, lastAs, pur, purs, take_app, List.take_length, S1, simprocAttr, TTEvN, Nat.le_add_right, Nat.le_refl]
        all_goals simp [e1, e2, sumS]
        all_goals (rw [Bool.eq_iff_iff]; simp; omega)
    · have f5 : (y.2.2 != 0) = true := by simp [e2]
      rcases ho with rfl | rfl | rfl
      all_goals
        refine acalls_pure (rl := []) mixed Tryd.func101 rfl (rs := [.tmp 4, .tmp 5]) rfl Tryd.ntmps101 (by simp) ?_
        repeat' (first | ((first | refine aops_nil ?_ | refine aqops_nil ?_); (try simp only [NB])) | ((repeat ((fail_if_success (refine hK _ ?_)); clear hK K)); refine hK _ ?_; clear hK K) | ((first | refine aops_k fun K1 hK1 => ?_ | refine aqops_k fun K1 hK1 => ?_ | refine awp_cond_k fun A B hA hB => ?_); simp only [S1, simprocAttr, TTEvN, eT_eq, e1, f5]; first | (refine hK1 _ ?_; clear hK1 K1) | ((first | refine hA ?_ | refine hB ?_); clear hA hB A B) | ((first | apply call_a E94 | apply call_q E94); exact (iha _); (refine hK1 _ ?_; clear hK1 K1)) | ((first | apply call_a E94 | apply call_q E94); exact (ihb _); (refine hK1 _ ?_; clear hK1 K1)) | (refine join_x (v := ?_) (fun hg hk9 => ?_) ?_; rotate_left; (focus (try ((try simp only [BN] at hg); simp only [S1, simprocAttr, TTEvN, eT_eq, e1, f5, hg] at hk9 ⊢)); first | exact hk9 | ((first | apply call_a E94 | apply call_q E94); exact (iha _); exact hk9) | ((first | apply call_a E94 | apply call_q E94); exact (ihb _); exact hk9)); (refine hK1 _ ?_; clear hK1 K1)) | (((first | (refine ⟨fun hg => hA ?_, fun hg => hB ?_⟩ <;> clear hA hB A B) | refine ⟨fun hg => ?_, fun hg => ?_⟩) <;> (try simp only [BN2] at hg) <;> (try simp only [hg, cond_true, cond_false])) <;> (try (refine hK1 _ ?_; clear hK1 K1)) <;> (try simp only [BN3] at hg))) | (refine awp_seq_k fun K hK => ?_) | ((first | refine awp_region ?_ | refine awp_draw (by kernel_rfl) ?_ | refine awp_block ?_ | refine awp_exit ?_ | refine awp_skip ?_ | refine awp_ret ?_); (try simp only [NB, simprocAttr])))
        all_goals simp only [EndP, FinP, resA, resL, resA1, lastV, lastA, lastAs, pur, purs, take_app, List.take_length, S1, simprocAttr, TTEvN, Nat.le_add_right, Nat.le_refl]
        all_goals simp [e1, e2]
  · have f4 : (x.2.2 != 0) = true := by simp [e1]
    rcases ho with rfl | rfl | rfl
    all_goals
      refine acalls_pure (rl := []) mixed Tryd.func101 rfl (rs := [.tmp 4, .tmp 5]) rfl Tryd.ntmps101 (by simp) ?_
      repeat' (first | ((first | refine aops_nil ?_ | refine aqops_nil ?_); (try simp only [NB])) | ((repeat ((fail_if_success (refine hK _ ?_)); clear hK K)); refine hK _ ?_; clear hK K) | ((first | refine aops_k fun K1 hK1 => ?_ | refine aqops_k fun K1 hK1 => ?_ | refine awp_cond_k fun A B hA hB => ?_); simp only [S1, simprocAttr, TTEvN, eT_eq, f4]; first | (refine hK1 _ ?_; clear hK1 K1) | ((first | refine hA ?_ | refine hB ?_); clear hA hB A B) | ((first | apply call_a E94 | apply call_q E94); exact (iha _); (refine hK1 _ ?_; clear hK1 K1)) | (refine join_x (v := ?_) (fun hg hk9 => ?_) ?_; rotate_left; (focus (try ((try simp only [BN] at hg); simp only [S1, simprocAttr, TTEvN, eT_eq, f4, hg] at hk9 ⊢)); first | exact hk9 | ((first | apply call_a E94 | apply call_q E94); exact (iha _); exact hk9)); (refine hK1 _ ?_; clear hK1 K1)) | (((first | (refine ⟨fun hg => hA ?_, fun hg => hB ?_⟩ <;> clear hA hB A B) | refine ⟨fun hg => ?_, fun hg => ?_⟩) <;> (try simp only [BN2] at hg) <;> (try simp only [hg, cond_true, cond_false])) <;> (try (refine hK1 _ ?_; clear hK1 K1)) <;> (try simp only [BN3] at hg))) | (refine awp_seq_k fun K hK => ?_) | ((first | refine awp_region ?_ | refine awp_draw (by kernel_rfl) ?_ | refine awp_block ?_ | refine awp_exit ?_ | refine awp_skip ?_ | refine awp_ret ?_); (try simp only [NB, simprocAttr])))
      all_goals simp only [EndP, FinP, resA, resL, resA1, lastV, lastA, lastAs, pur, purs, take_app, List.take_length, S1, simprocAttr, TTEvN, Nat.le_add_right, Nat.le_refl]
      all_goals simp [e1]

theorem truth_calls {v : Int → Int} (hv : ∀ i, Num (v i)) {t : Tm} (ht : Good t true) : ∀ h : Heap, ACalls Tryd.prog G 101 [aT t, aV v] h (fun r h' => r = aB (ev v t) ∧ h' = h) := by
  have key : ∀ {t k}, Good t k → k = true → ∀ h : Heap, ACalls Tryd.prog G 101 [aT t, aV v] h (fun r h' => r = aB (ev v t) ∧ h' = h) := by
    intro t k hg
    induction hg with
    | num n h1 h2 => intro e; cases e
    | var n hn => intro e; cases e
    | neg a hg ih => intro e; cases e
    | bin o a b h1 h2 ha hb iha ihb => intro e; cases e
    | not a hg ih =>
      intro _ h
      have g := ev_good hv hg
      refine ACalls.mono (truth_not v a (ih rfl) h) ?_
      rintro r h' ⟨rfl, rfl⟩
      refine ⟨?_, rfl⟩
      rw [ev_one]
      split
      · rename_i e; simp [e]
      · rename_i e; rw [if_neg (by decide), Classical.not_not.mp e]; simp
    | cmp o a b h1 h2 ha hb iha ihb =>
      intro _ h
      refine ACalls.mono (truth_cmp v o (by omega) a b (number_calls hv ha) (number_calls hv hb) h) ?_
      rintro r h' ⟨rfl, rfl⟩
      refine ⟨?_, rfl⟩
      rw [ev_two, if_neg (show ¬ o = 13 by omega), if_neg (show ¬ o = 14 by omega)]
    | log o a b ho ha hb iha ihb =>
      intro _ h
      have g := ev_good hv ha
      refine ACalls.mono (truth_log v o ho a b (iha rfl) (ihb rfl) h) ?_
      rintro r h' ⟨rfl, rfl⟩
      refine ⟨?_, rfl⟩
      rw [ev_two]
      have g1 := g.2.1
      rcases hx : ev v a with ⟨x1, x2, x3⟩
      rw [hx] at g1
      simp only at g1 ⊢
      by_cases e : x3 = 0
      · subst e
        rcases ho with rfl | rfl <;> cases x2 <;> simp
      · rw [if_pos e, if_pos e, (g1 e).2]
  exact key ht rfl
end Go.Proofs.YtjpphhcimpclpaaDoor.AM
end

section
set_option linter.unusedVariables false
set_option linter.unusedSimpArgs false
set_option maxRecDepth 4000
set_option maxHeartbeats 4000000
namespace Go.Proofs.YtjpphhcimpclpaaDoor.AM
open Go Go.Proofs
set_option linter.defProp false in
def TTEvP := And.intro T2 (And.intro T3 (And.intro T4 (And.intro T27 T31)))
attribute [local irreducible] awp aops aqops
variable {G : Nat → Option (List PV)}

def inV (v : Int → Int) : Bool := inM (v 0) && inM (v 1) && inM (v 2) && inM (v 3)

theorem cN0 : ((0 : Nat) : Int) = 0 := rfl
theorem cN1 : ((1 : Nat) : Int) = 1 := rfl
theorem cN2 : ((2 : Nat) : Int) = 2 := rfl
theorem cN3 : ((3 : Nat) : Int) = 3 := rfl
theorem cN4 : ((4 : Nat) : Int) = 4 := rfl
theorem wl1 : IntKind.i64.wrap 1 = 1 := rfl
theorem wl2 : IntKind.i64.wrap 2 = 2 := rfl
theorem wl3 : IntKind.i64.wrap 3 = 3 := rfl
theorem wl4 : IntKind.i64.wrap 4 = 4 := rfl
theorem inV_of {v : Int → Int} (h : ∀ j : Nat, j < 4 → inM (v j) = true) : inV v = true := by
  have h0 := h 0 (by omega)
  have h1 := h 1 (by omega)
  have h2 := h 2 (by omega)
  have h3 := h 3 (by omega)
  unfold inV
  simp only [cN0, cN1, cN2, cN3] at h0 h1 h2 h3
  simp [h0, h1, h2, h3]

theorem fitsV_calls (v : Int → Int) (h : Heap) : ACalls Tryd.prog G 23 [.agg [.i (v 0), .i (v 1), .i (v 2), .i (v 3)]] h (fun r h' => r = .b (inV v) ∧ h' = h) := by
  refine acalls_pure (rl := []) mixed Tryd.func23 rfl (rs := [.tmp 2]) rfl Tryd.ntmps23 (by simp) ?_
  repeat' (first | ((first | refine aops_nil ?_ | refine aqops_nil ?_); (try simp only [NB])) | ((repeat ((fail_if_success (refine hK _ ?_)); clear hK K)); refine hK _ ?_; clear hK K) | ((first | refine aops_k fun K1 hK1 => ?_ | refine aqops_k fun K1 hK1 => ?_ | refine awp_cond_k fun A B hA hB => ?_); simp only [S1, simprocAttr, TTEvP]; first | (refine hK1 _ ?_; clear hK1 K1) | ((first | refine hA ?_ | refine hB ?_); clear hA hB A B) | (((first | (refine ⟨fun hg => hA ?_, fun hg => hB ?_⟩ <;> clear hA hB A B) | refine ⟨fun hg => ?_, fun hg => ?_⟩) <;> (try simp only [BN2] at hg) <;> (try simp only [hg, cond_true, cond_false])) <;> (try (refine hK1 _ ?_; clear hK1 K1)) <;> (try simp only [BN3] at hg))) | (refine awp_seq_k fun K hK => ?_) | ((first | refine awp_region ?_ | refine awp_draw (by kernel_rfl) ?_ | refine awp_block ?_ | refine awp_exit ?_ | refine awp_skip ?_ | refine awp_ret ?_); (try simp only [NB, simprocAttr])))
  refine awp_for 4 13 (fun i => [(6, .i i), (5, .agg [.i (v 0), .i (v 1), .i (v 2), .i (v 3)])]) (fun i => []) (fun i => ∀ j : Nat, j < i → inM (v j) = true) ?_ (fun j hj => absurd hj (Nat.not_lt_zero _)) fun i hi hp K hK => ?_
  · (refine ⟨rfl, (by first | exact ⟨_, rfl⟩ | exact ⟨[], by simp⟩), ?_, ?_⟩ <;> simp only [keeps, avlt, avlts, blksLt, frL, upd_get, S1, simprocAttr, List.length_map, Int.natCast_zero, AV.p.injEq, PV.int.injEq, PV.bool.injEq, PV.sl.injEq] <;> (try and_intros) <;> (try assumption) <;> (try trivial) <;> (try omega))
  have hw : IntKind.i64.wrap ((i : Int) + 1) = ((i + 1 : Nat) : Int) := by rw [IntWalk.i64_in _ (by omega)]; omega
  rcases (by omega : i = 0 ∨ i = 1 ∨ i = 2 ∨ i = 3 ∨ i = 4) with rfl | rfl | rfl | rfl | rfl
  all_goals
    repeat' (first | ((first | refine aops_nil ?_ | refine aqops_nil ?_); (try simp only [NB])) | ((repeat ((fail_if_success (refine hK _ ?_)); clear hK K)); refine hK _ ?_; clear hK K) | ((first | refine aops_k fun K1 hK1 => ?_ | refine aqops_k fun K1 hK1 => ?_ | refine awp_cond_k fun A B hA hB => ?_); simp only [S1, simprocAttr, TTEvP, cN0, cN1, cN2, cN3, cN4, Int.reduceAdd, wl1, wl2, wl3, wl4]; first | (refine hK1 _ ?_; clear hK1 K1) | ((first | refine hA ?_ | refine hB ?_); clear hA hB A B) | ((first | apply call_a E37 | apply call_q E37); exact (fits_calls _ _); (refine hK1 _ ?_; clear hK1 K1)) | (((first | (refine ⟨fun hg => hA ?_, fun hg => hB ?_⟩ <;> clear hA hB A B) | refine ⟨fun hg => ?_, fun hg => ?_⟩) <;> (try simp only [BN2] at hg) <;> (try simp only [hg, cond_true, cond_false])) <;> (try (refine hK1 _ ?_; clear hK1 K1)) <;> (try simp only [BN3] at hg))) | (refine awp_seq_k fun K hK => ?_) | ((first | refine awp_region ?_ | refine awp_draw (by kernel_rfl) ?_ | refine awp_block ?_ | refine awp_exit ?_ | refine awp_skip ?_ | refine awp_ret ?_); (try simp only [NB, simprocAttr])))
    all_goals first
      | (refine ⟨by omega, fun j hj => ?_, ?_⟩
         · rcases Nat.lt_succ_iff_lt_or_eq.mp hj with e | rfl
           · exact hp j e
           · exact hg
         · (refine ⟨rfl, (by first | exact ⟨_, rfl⟩ | exact ⟨[], by simp⟩), ?_, ?_⟩ <;> simp only [keeps, avlt, avlts, blksLt, frL, upd_get, S1, simprocAttr, List.length_map, Int.natCast_zero, AV.p.injEq, PV.int.injEq, PV.bool.injEq, PV.sl.injEq] <;> (try and_intros) <;> (try assumption) <;> (try trivial) <;> (try omega)))
      | (simp only [EndP, FinP, resA, resL, resA1, lastV, lastA, lastAs, pur, purs, take_app, List.take_length, S1, simprocAttr, TTEvP, Nat.le_add_right, Nat.le_refl]
         first
           | (rw [inV_of hp]; done)
           | (simp [inV, hg]; done))
end Go.Proofs.YtjpphhcimpclpaaDoor.AM
end

section
set_option linter.unusedVariables false
set_option linter.unusedSimpArgs false
set_option maxRecDepth 4000
set_option maxHeartbeats 4000000
namespace Go.Proofs.YtjpphhcimpclpaaDoor.AM
open Go Go.Proofs
set_option linter.defProp false in
def TTEvQ := And.intro T2 (And.intro T3 (And.intro T4 (And.intro T27 (And.intro T31 (And.intro T56 (And.intro T58 (And.intro T141 T142)))))))
attribute [local irreducible] awp aops aqops

def askN (t : Tm) (v : Int → Int) (k : Int) : Int := if (checkN t).2 ≠ 0 then (checkN t).2 else if (checkN t).1 ≠ k then 30 else if inV v then 0 else 1

theorem asked_calls {n : Nat} {t : Tm} (ht : Tm.Ok n t) (v : Int → Int) (k : Int) (h : Heap) : ACalls Tryd.prog gW 93 [aT t, aV v, .i k] h (fun r h' => r = .i (askN t v k) ∧ h' = h) := by
  refine acalls_pure (rl := []) mixed Tryd.func93 rfl (rs := [.tmp 6]) rfl Tryd.ntmps93 (by simp) ?_
  repeat' (first | ((first | refine aops_nil ?_ | refine aqops_nil ?_); (try simp only [NB])) | ((repeat ((fail_if_success (refine hK _ ?_)); clear hK K)); refine hK _ ?_; clear hK K) | ((first | refine aops_k fun K1 hK1 => ?_ | refine aqops_k fun K1 hK1 => ?_ | refine awp_cond_k fun A B hA hB => ?_); simp only [S1, simprocAttr, TTEvQ]; first | (refine hK1 _ ?_; clear hK1 K1) | ((first | refine hA ?_ | refine hB ?_); clear hA hB A B) | ((first | apply call_a E97 | apply call_q E97); exact (check_calls ht _); (refine hK1 _ ?_; clear hK1 K1)) | ((first | apply call_a E23 | apply call_q E23); exact (fitsV_calls v _); (refine hK1 _ ?_; clear hK1 K1)) | (((first | (refine ⟨fun hg => hA ?_, fun hg => hB ?_⟩ <;> clear hA hB A B) | refine ⟨fun hg => ?_, fun hg => ?_⟩) <;> (try simp only [BN2] at hg) <;> (try simp only [hg, cond_true, cond_false])) <;> (try (refine hK1 _ ?_; clear hK1 K1)) <;> (try simp only [BN3] at hg))) | (refine awp_seq_k fun K hK => ?_) | ((first | refine awp_region ?_ | refine awp_draw (by kernel_rfl) ?_ | refine awp_block ?_ | refine awp_exit ?_ | refine awp_skip ?_ | refine awp_ret ?_); (try simp only [NB, simprocAttr])))
  all_goals simp only [EndP, FinP, resA, resL, resA1, lastV, lastA, lastAs, pur, purs, take_app, List.take_length, S1, simprocAttr, TTEvQ, Nat.le_add_right, Nat.le_refl]
  all_goals simp_all [askN]
theorem ask_good {t : Tm} {v : Int → Int} {k : Int} (h : askN t v k = 0) : Good t (truthOp t.op) ∧ inV v = true ∧ outN t.op = k := by
  unfold askN at h
  by_cases h1 : (checkN t).2 = 0
  · rw [if_neg (by simpa using h1)] at h
    by_cases h2 : (checkN t).1 = k
    · rw [if_neg (by simpa using h2)] at h
      have hv : inV v = true := by
        cases hh : inV v with
        | true => rfl
        | false => rw [hh] at h; simp at h
      unfold checkN at h1 h2
      by_cases hw : wrongN t = 0
      · rw [if_neg (by simpa using hw)] at h1 h2
        cases hty : t.typed with
        | true =>
          rw [hty] at h1 h2
          have hf : t.form = true := by
            unfold wrongN at hw
            split at hw
            · cases hw
            · split at hw
              · assumption
              · cases hw
          exact ⟨good_of t hf hty, hv, by simpa using h2⟩
        | false => rw [hty] at h1; simp at h1
      · rw [if_pos hw] at h1; exact absurd h1 hw
    · rw [if_pos h2] at h; cases h
  · rw [if_pos h1] at h; exact absurd h h1
def numR (t : Tm) (v : Int → Int) : Int × Int := if askN t v 1 ≠ 0 then (0, askN t v 1) else ((ev v t).1, (ev v t).2.2)
def truR (t : Tm) (v : Int → Int) : Bool × Int := if askN t v 2 ≠ 0 then (false, askN t v 2) else ((ev v t).2.1, (ev v t).2.2)

theorem Number_calls {n : Nat} {t : Tm} (ht : Tm.Ok n t) (v : Int → Int) (hv : inV v = true → ∀ i, Num (v i)) (h : Heap) : ACalls Tryd.prog gW 73 [aT t, aV v] h (fun r h' => r = .tup [.i (numR t v).1, .i (numR t v).2] ∧ h' = h) := by
  by_cases e : askN t v 1 = 0
  · obtain ⟨g1, g2, g3⟩ := ask_good e
    have g0 : truthOp t.op = false := by
      cases hh : truthOp t.op with
      | false => rfl
      | true => unfold outN at g3; rw [hh] at g3; simp at g3
    rw [g0] at g1
    have hg := ev_good (hv g2) g1
    have e1 : (askN t v 1 != 0) = false := by simp [e]
    refine acalls_pure (rl := []) mixed Tryd.func73 rfl (rs := [.tmp 4, .tmp 5]) rfl Tryd.ntmps73 (by simp) ?_
    repeat' (first | ((first | refine aops_nil ?_ | refine aqops_nil ?_); (try simp only [NB])) | ((repeat ((fail_if_success (refine hK _ ?_)); clear hK K)); refine hK _ ?_; clear hK K) | ((first | refine aops_k fun K1 hK1 => ?_ | refine aqops_k fun K1 hK1 => ?_ | refine awp_cond_k fun A B hA hB => ?_); simp only [S1, simprocAttr, TTEvQ, e1]; first | (refine hK1 _ ?_; clear hK1 K1) | ((first | refine hA ?_ | refine hB ?_); clear hA hB A B) | ((first | apply call_a E93 | apply call_q E93); exact (asked_calls ht v 1 _); (refine hK1 _ ?_; clear hK1 K1)) | ((first | apply call_a E94 | apply call_q E94); exact (number_calls (hv g2) g1 _); (refine hK1 _ ?_; clear hK1 K1)) | (((first | (refine ⟨fun hg => hA ?_, fun hg => hB ?_⟩ <;> clear hA hB A B) | refine ⟨fun hg => ?_, fun hg => ?_⟩) <;> (try simp only [BN2] at hg) <;> (try simp only [hg, cond_true, cond_false])) <;> (try (refine hK1 _ ?_; clear hK1 K1)) <;> (try simp only [BN3] at hg))) | (refine awp_seq_k fun K hK => ?_) | ((first | refine awp_region ?_ | refine awp_draw (by kernel_rfl) ?_ | refine awp_block ?_ | refine awp_exit ?_ | refine awp_skip ?_ | refine awp_ret ?_); (try simp only [NB, simprocAttr])))
    all_goals simp only [EndP, FinP, resA, resL, resA1, lastV, lastA, lastAs, pur, purs, take_app, List.take_length, S1, simprocAttr, TTEvQ, Nat.le_add_right, Nat.le_refl]
    all_goals simp_all [numR]
  · have e1 : (askN t v 1 != 0) = true := by simp [e]
    refine acalls_pure (rl := []) mixed Tryd.func73 rfl (rs := [.tmp 4, .tmp 5]) rfl Tryd.ntmps73 (by simp) ?_
    repeat' (first | ((first | refine aops_nil ?_ | refine aqops_nil ?_); (try simp only [NB])) | ((repeat ((fail_if_success (refine hK _ ?_)); clear hK K)); refine hK _ ?_; clear hK K) | ((first | refine aops_k fun K1 hK1 => ?_ | refine aqops_k fun K1 hK1 => ?_ | refine awp_cond_k fun A B hA hB => ?_); simp only [S1, simprocAttr, TTEvQ, e1]; first | (refine hK1 _ ?_; clear hK1 K1) | ((first | refine hA ?_ | refine hB ?_); clear hA hB A B) | ((first | apply call_a E93 | apply call_q E93); exact (asked_calls ht v 1 _); (refine hK1 _ ?_; clear hK1 K1)) | (((first | (refine ⟨fun hg => hA ?_, fun hg => hB ?_⟩ <;> clear hA hB A B) | refine ⟨fun hg => ?_, fun hg => ?_⟩) <;> (try simp only [BN2] at hg) <;> (try simp only [hg, cond_true, cond_false])) <;> (try (refine hK1 _ ?_; clear hK1 K1)) <;> (try simp only [BN3] at hg))) | (refine awp_seq_k fun K hK => ?_) | ((first | refine awp_region ?_ | refine awp_draw (by kernel_rfl) ?_ | refine awp_block ?_ | refine awp_exit ?_ | refine awp_skip ?_ | refine awp_ret ?_); (try simp only [NB, simprocAttr])))
    all_goals simp only [EndP, FinP, resA, resL, resA1, lastV, lastA, lastAs, pur, purs, take_app, List.take_length, S1, simprocAttr, TTEvQ, Nat.le_add_right, Nat.le_refl]
    all_goals simp_all [numR]
theorem Truth_calls {n : Nat} {t : Tm} (ht : Tm.Ok n t) (v : Int → Int) (hv : inV v = true → ∀ i, Num (v i)) (h : Heap) : ACalls Tryd.prog gW 95 [aT t, aV v] h (fun r h' => r = .tup [.b (truR t v).1, .i (truR t v).2] ∧ h' = h) := by
  by_cases e : askN t v 2 = 0
  · obtain ⟨g1, g2, g3⟩ := ask_good e
    have g0 : truthOp t.op = true := by
      cases hh : truthOp t.op with
      | true => rfl
      | false => unfold outN at g3; rw [hh] at g3; simp at g3
    rw [g0] at g1
    have hg := ev_good (hv g2) g1
    have e1 : (askN t v 2 != 0) = false := by simp [e]
    refine acalls_pure (rl := []) mixed Tryd.func95 rfl (rs := [.tmp 4, .tmp 5]) rfl Tryd.ntmps95 (by simp) ?_
    repeat' (first | ((first | refine aops_nil ?_ | refine aqops_nil ?_); (try simp only [NB])) | ((repeat ((fail_if_success (refine hK _ ?_)); clear hK K)); refine hK _ ?_; clear hK K) | ((first | refine aops_k fun K1 hK1 => ?_ | refine aqops_k fun K1 hK1 => ?_ | refine awp_cond_k fun A B hA hB => ?_); simp only [S1, simprocAttr, TTEvQ, e1]; first | (refine hK1 _ ?_; clear hK1 K1) | ((first | refine hA ?_ | refine hB ?_); clear hA hB A B) | ((first | apply call_a E93 | apply call_q E93); exact (asked_calls ht v 2 _); (refine hK1 _ ?_; clear hK1 K1)) | ((first | apply call_a E101 | apply call_q E101); exact (truth_calls (hv g2) g1 _); (refine hK1 _ ?_; clear hK1 K1)) | (refine join_x (v := ?_) (fun hg hk9 => ?_) ?_; rotate_left; (focus (try ((try simp only [BN] at hg); simp only [S1, simprocAttr, TTEvQ, e1, hg] at hk9 ⊢)); first | exact hk9 | ((first | apply call_a E93 | apply call_q E93); exact (asked_calls ht v 2 _); exact hk9) | ((first | apply call_a E101 | apply call_q E101); exact (truth_calls (hv g2) g1 _); exact hk9)); (refine hK1 _ ?_; clear hK1 K1)) | (((first | (refine ⟨fun hg => hA ?_, fun hg => hB ?_⟩ <;> clear hA hB A B) | refine ⟨fun hg => ?_, fun hg => ?_⟩) <;> (try simp only [BN2] at hg) <;> (try simp only [hg, cond_true, cond_false])) <;> (try (refine hK1 _ ?_; clear hK1 K1)) <;> (try simp only [BN3] at hg))) | (refine awp_seq_k fun K hK => ?_) | ((first | refine awp_region ?_ | refine awp_draw (by kernel_rfl) ?_ | refine awp_block ?_ | refine awp_exit ?_ | refine awp_skip ?_ | refine awp_ret ?_); (try simp only [NB, simprocAttr])))
    all_goals simp only [EndP, FinP, resA, resL, resA1, lastV, lastA, lastAs, pur, purs, take_app, List.take_length, S1, simprocAttr, TTEvQ, Nat.le_add_right, Nat.le_refl]
    all_goals (by_cases hf : (ev v t).2.2 = 0 <;> simp_all [truR])
  · have e1 : (askN t v 2 != 0) = true := by simp [e]
    refine acalls_pure (rl := []) mixed Tryd.func95 rfl (rs := [.tmp 4, .tmp 5]) rfl Tryd.ntmps95 (by simp) ?_
    repeat' (first | ((first | refine aops_nil ?_ | refine aqops_nil ?_); (try simp only [NB])) | ((repeat ((fail_if_success (refine hK _ ?_)); clear hK K)); refine hK _ ?_; clear hK K) | ((first | refine aops_k fun K1 hK1 => ?_ | refine aqops_k fun K1 hK1 => ?_ | refine awp_cond_k fun A B hA hB => ?_); simp only [S1, simprocAttr, TTEvQ, e1]; first | (refine hK1 _ ?_; clear hK1 K1) | ((first | refine hA ?_ | refine hB ?_); clear hA hB A B) | ((first | apply call_a E93 | apply call_q E93); exact (asked_calls ht v 2 _); (refine hK1 _ ?_; clear hK1 K1)) | (refine join_x (v := ?_) (fun hg hk9 => ?_) ?_; rotate_left; (focus (try ((try simp only [BN] at hg); simp only [S1, simprocAttr, TTEvQ, e1, hg] at hk9 ⊢)); first | exact hk9 | ((first | apply call_a E93 | apply call_q E93); exact (asked_calls ht v 2 _); exact hk9)); (refine hK1 _ ?_; clear hK1 K1)) | (((first | (refine ⟨fun hg => hA ?_, fun hg => hB ?_⟩ <;> clear hA hB A B) | refine ⟨fun hg => ?_, fun hg => ?_⟩) <;> (try simp only [BN2] at hg) <;> (try simp only [hg, cond_true, cond_false])) <;> (try (refine hK1 _ ?_; clear hK1 K1)) <;> (try simp only [BN3] at hg))) | (refine awp_seq_k fun K hK => ?_) | ((first | refine awp_region ?_ | refine awp_draw (by kernel_rfl) ?_ | refine awp_block ?_ | refine awp_exit ?_ | refine awp_skip ?_ | refine awp_ret ?_); (try simp only [NB, simprocAttr])))
    all_goals simp only [EndP, FinP, resA, resL, resA1, lastV, lastA, lastAs, pur, purs, take_app, List.take_length, S1, simprocAttr, TTEvQ, Nat.le_add_right, Nat.le_refl]
    all_goals simp_all [truR]
end Go.Proofs.YtjpphhcimpclpaaDoor.AM
end

section
set_option linter.unusedVariables false
set_option linter.unusedSimpArgs false
set_option maxRecDepth 4000
set_option maxHeartbeats 4000000
namespace Go.Proofs.YtjpphhcimpclpaaDoor.AM
open Go Go.Proofs
set_option linter.defProp false in
attribute [local irreducible] awp aops aqops aeops arun arunT

/-- The first flow whose condition is true, or whose condition is a fault; no Else. -/
def chF (fl : List Fl) (v : Int → Int) : List Int → Option (Int × Int)
  | [] => none
  | f :: r => match fl[f.toNat]? with
    | none => chF fl v r
    | some x => if x.els = true then chF fl v r else if (truR x.cond v).2 ≠ 0 then some (0, (truR x.cond v).2) else if (truR x.cond v).1 = true then some (f, 0) else chF fl v r
/-- The first Else. -/
def chE (fl : List Fl) : List Int → Int
  | [] => 0
  | f :: r => if elsAt fl f = true then f else chE fl r
def chooseG (fl : List Fl) (v : Int → Int) (outs : List Int) : Int × Int := (chF fl v outs).getD (chE fl outs, 0)

theorem chF_step {fl : List Fl} {v : Int → Int} {outs : List Int} {i : Nat} {f : Int} (h : outs[i]? = some f) : chF fl v (outs.drop i) = match fl[f.toNat]? with
    | none => chF fl v (outs.drop (i + 1))
    | some x => if x.els = true then chF fl v (outs.drop (i + 1)) else if (truR x.cond v).2 ≠ 0 then some (0, (truR x.cond v).2) else if (truR x.cond v).1 = true then some (f, 0) else chF fl v (outs.drop (i + 1)) := by
  obtain ⟨hi, e⟩ := List.getElem?_eq_some_iff.mp h
  rw [List.drop_eq_getElem_cons hi, e]; rfl
end Go.Proofs.YtjpphhcimpclpaaDoor.AM
end

section
set_option linter.unusedVariables false
set_option linter.unusedSimpArgs false
set_option maxRecDepth 4000
set_option maxHeartbeats 4000000
namespace Go.Proofs.YtjpphhcimpclpaaDoor.AM
open Go Go.Proofs
set_option linter.defProp false in
attribute [local irreducible] awp aops aqops aeops arun arunT

theorem stepT_len {S T : List Int} {f : Int} (h : stepT S f = some T) : T.length = S.length := by
  unfold stepT at h
  split at h
  · cases h
  · cases h; simp
theorem stepP_len {S T : List Int} {f : Int} (h : stepP S f = some T) : T.length = S.length := by
  unfold stepP at h
  split at h
  · cases h
  · cases h; simp
theorem runO_len {step : List Int → Int → Option (List Int)} (hs : ∀ S T f, step S f = some T → T.length = S.length) : ∀ {l S T : List Int}, runO step l S = some T → T.length = S.length
  | [], S, T, h => by cases h; rfl
  | f :: r, S, T, h => by
    unfold runO at h
    rw [List.foldlM_cons] at h
    obtain ⟨U, h1, h2⟩ := Option.bind_eq_some_iff.mp h
    rw [runO_len hs (l := r) (S := U) h2, hs _ _ _ h1]
theorem moveG_to {S : List Int} {x : Sp} {fr to : List Int} (hS : S.length = 49) (hx : x.to.length = 49) : ∀ y ∈ moveG S x fr to, y.to.length = 49 := by
  intro y hy
  unfold moveG at hy
  split at hy
  · cases hy
  · rename_i T hT
    split at hy
    · cases hy
    · rename_i U hU
      rw [List.mem_singleton.mp hy]
      simp only
      rw [runO_len (fun _ _ _ => stepP_len) hU, runO_len (fun _ _ _ => stepT_len) hT]
      simp [joinS, hS, hx]
theorem GmOk.app {h : Heap} {b lb : Nat} {S : List Int} {l l2 : List Sp} (ok : GmOk h b lb S l) (h2 : ∀ y ∈ l2, y.to.length = 49) (hf : l.length + l2.length ≤ 1000000) : GmOk h b lb S (l ++ l2) :=
  ⟨ok.hb, ok.hl, ok.ne, ok.held, fun x hx => (List.mem_append.mp hx).elim (ok.len x) (h2 x), by rw [List.length_append]; exact hf⟩

/-- The variables of a state. -/
def vS (S : List Int) : Int → Int := fun i => if i = 0 then S.getD 40 0 else if i = 1 then S.getD 41 0 else if i = 2 then S.getD 42 0 else S.getD 43 0
theorem vS_0 (S : List Int) : vS S 0 = S.getD 40 0 := rfl
theorem vS_1 (S : List Int) : vS S 1 = S.getD 41 0 := rfl
theorem vS_2 (S : List Int) : vS S 2 = S.getD 42 0 := rfl
theorem vS_3 (S : List Int) : vS S 3 = S.getD 43 0 := rfl
theorem vS_num {S : List Int} (h : inV (vS S) = true) : ∀ i, Num (vS S i) := by
  unfold inV at h
  rw [vS_0, vS_1, vS_2, vS_3] at h
  simp only [inM, Bool.and_eq_true, decide_eq_true_eq] at h
  intro i
  unfold vS Num
  split
  · exact ⟨by omega, by omega⟩
  · split
    · exact ⟨by omega, by omega⟩
    · split <;> exact ⟨by omega, by omega⟩
theorem vS_cells {S : List Int} (hS : S.length = 49) : ((S.drop 40).take 4).map AV.i = [.p (.int .i64 (vS S 0)), .p (.int .i64 (vS S 1)), .p (.int .i64 (vS S 2)), .p (.int .i64 (vS S 3))] := by
  rw [vS_0, vS_1, vS_2, vS_3]
  have e : ∀ k, k < 49 → S[k]? = some (S.getD k 0) := fun k hk => by rw [List.getD_eq_getElem?_getD, List.getElem?_eq_getElem (by omega)]; rfl
  apply List.ext_getElem?
  intro i
  rw [List.getElem?_map, List.getElem?_take]
  match i with
  | 0 => rw [if_pos (by omega), List.getElem?_drop, e 40 (by omega)]; rfl
  | 1 => rw [if_pos (by omega), List.getElem?_drop, e 41 (by omega)]; rfl
  | 2 => rw [if_pos (by omega), List.getElem?_drop, e 42 (by omega)]; rfl
  | 3 => rw [if_pos (by omega), List.getElem?_drop, e 43 (by omega)]; rfl
  | k + 4 => rw [if_neg (by omega)]; rfl
theorem gmC_vars {ns : List Nd} {fl : List Fl} {S : List Int} {lb n : Nat} (hS : S.length = 49) : ((gmC ns fl S lb n).drop 42).take 4 = [.p (.int .i64 (vS S 0)), .p (.int .i64 (vS S 1)), .p (.int .i64 (vS S 2)), .p (.int .i64 (vS S 3))] := by
  have := gmC_take (ns := ns) (fl := fl) (lb := lb) (n := n) (S := S) 40 4 (by omega)
  rw [show 2 + 40 = 42 by rfl] at this
  rw [this, vS_cells hS]

def xorG (fl : List Fl) (S : List Int) (i : Int) (ins outs : List Int) : List Sp :=
  if outs.length = 1 then ins.flatMap fun f => moveG S ⟨i, f, 0, 0, 0, S⟩ [f] outs
  else if tk S (ins.headD 0) = 0 then []
  else if (chooseG fl (vS S) outs).2 ≠ 0 then [faultS S i (chooseG fl (vS S) outs).2]
  else moveG S ⟨i, (chooseG fl (vS S) outs).1, 0, 0, 0, S⟩ ins [(chooseG fl (vS S) outs).1]

theorem chF_in {fl : List Fl} {v : Int → Int} : ∀ {outs : List Int} {q : Int × Int}, chF fl v outs = some q → q.2 = 0 → q.1 ∈ outs
  | [], q, h, _ => by cases h
  | f :: r, q, h, h0 => by
    unfold chF at h
    split at h
    · exact List.mem_cons_of_mem _ (chF_in h h0)
    · split at h
      · exact List.mem_cons_of_mem _ (chF_in h h0)
      · split at h
        · cases h; contradiction
        · split at h
          · cases h; simp
          · exact List.mem_cons_of_mem _ (chF_in h h0)
theorem chE_in {fl : List Fl} : ∀ {outs : List Int}, (∃ f ∈ outs, elsAt fl f = true) → chE fl outs ∈ outs
  | [], h => by obtain ⟨f, hf, _⟩ := h; cases hf
  | f :: r, h => by
    unfold chE
    split
    · simp
    · rename_i hn
      obtain ⟨g, hg, he⟩ := h
      rcases List.mem_cons.mp hg with rfl | hg
      · exact absurd he hn
      · exact List.mem_cons_of_mem _ (chE_in ⟨g, hg, he⟩)
theorem chooseG_in {fl : List Fl} {v : Int → Int} {outs : List Int} (he : ∃ f ∈ outs, elsAt fl f = true) (h0 : (chooseG fl v outs).2 = 0) : (chooseG fl v outs).1 ∈ outs := by
  unfold chooseG at *
  cases hq : chF fl v outs with
  | none => rw [hq] at h0; exact chE_in he
  | some q => rw [hq] at h0; exact chF_in hq h0

end Go.Proofs.YtjpphhcimpclpaaDoor.AM
end

section
set_option linter.unusedVariables false
set_option linter.unusedSimpArgs false
set_option maxRecDepth 4000
set_option maxHeartbeats 4000000
namespace Go.Proofs.YtjpphhcimpclpaaDoor.AM
open Go Go.Proofs
set_option linter.defProp false in
attribute [local irreducible] awp aops aqops aeops arun arunT

def dataG (S : List Int) (k : Nd) (i : Int) (ins outs : List Int) : List Sp :=
  if tk S (ins.headD 0) = 0 then []
  else if k.kind = 3 then moveG S ⟨i, 0, 1, i, 0, S.set (40 + k.a.toNat) 0⟩ ins outs ++ moveG S ⟨i, 1, 1, i, 1, S.set (40 + k.a.toNat) 1⟩ ins outs
  else if (numR k.term (vS S)).2 ≠ 0 then [faultS S i (numR k.term (vS S)).2]
  else moveG S ⟨i, 0, 2, i, 0, S.set (40 + k.a.toNat) (numR k.term (vS S)).1⟩ ins outs

end Go.Proofs.YtjpphhcimpclpaaDoor.AM
end

section
set_option linter.unusedVariables false
set_option linter.unusedSimpArgs false
set_option maxRecDepth 4000
set_option maxHeartbeats 4000000
namespace Go.Proofs.YtjpphhcimpclpaaDoor.AM
open Go Go.Proofs
set_option linter.defProp false in
attribute [local irreducible] awp aops aqops aeops arun arunT

def lastG (S : List Int) (i : Int) (ins : List Int) : List Sp :=
  if sumW (S.take 40) = 1 then moveG S ⟨i, 0, 7, 0, 0, S.set 48 1⟩ ins [] else moveG S ⟨i, 0, 0, 0, 0, S⟩ ins []

def nodeG (ns : List Nd) (fl : List Fl) (S : List Int) (i : Nat) (k : Nd) : List Sp :=
  if k.kind = 2 then lastG S i (insN fl i)
  else if k.kind = 3 ∨ k.kind = 4 then dataG S k i (insN fl i) (outsN fl i)
  else if k.kind = 5 then xorG fl S i (insN fl i) (outsN fl i)
  else if k.kind = 6 then moveG S ⟨i, 0, 0, 0, 0, S⟩ (insN fl i) (outsN fl i)
  else if k.kind = 7 then (outsN fl i).flatMap fun f => catchG ns fl S i f (dstAt fl f) (insN fl i)
  else if k.kind = 8 then catchG ns fl S i 0 i (insN fl i)
  else []

theorem Right.kind {ns : List Nd} {fl : List Fl} (h : Right ns fl) {i : Nat} {k : Nd} (hc : ns[i]? = some k) : (1 ≤ k.kind ∧ k.kind ≤ 8) ∧ 0 ≤ k.a ∧ (k.kind = 3 ∨ k.kind = 4 → k.a < 4) ∧ k.a ≤ 4 := by
  have hi := (List.getElem?_eq_some_iff.mp hc).1
  have := h.b1 i hi
  unfold bad1 at this
  rw [hc] at this
  simp only [Bool.not_eq_false'] at this
  unfold oneB at this
  split at this
  · simp only [Bool.and_eq_true, decide_eq_true_eq] at this; omega
  · simp only [Bool.and_eq_true, decide_eq_true_eq] at this
    have hm : mostN k.kind ≤ 4 ∧ (k.kind = 3 → mostN k.kind = 3) := by unfold mostN; split <;> (try split) <;> omega
    omega
theorem Right.ins {ns : List Nd} {fl : List Fl} (h : Right ns fl) {i : Nat} {k : Nd} (hc : ns[i]? = some k) (h1 : k.kind ≠ 1) : insN fl i ≠ [] := by
  have hi := (List.getElem?_eq_some_iff.mp hc).1
  have := h.three hi
  unfold threeB at this
  simp only [kind_of hc, if_neg h1] at this
  intro e
  rw [e] at this
  simp only [List.length_nil] at this
  repeat' split at this
  all_goals simp at this
theorem Right.els {ns : List Nd} {fl : List Fl} (h : Right ns fl) {i : Nat} {k : Nd} (hc : ns[i]? = some k) (h5 : k.kind = 5) (hn : (outsN fl i).length ≠ 1) : ∃ f ∈ outsN fl i, elsAt fl f = true := by
  have hi := (List.getElem?_eq_some_iff.mp hc).1
  have := h.three hi
  unfold threeB at this
  simp only [kind_of hc, h5] at this
  simp only [Int.reduceEq, reduceIte, Bool.or_eq_true, Bool.and_eq_true, beq_iff_eq, decide_eq_true_eq] at this
  rcases this with h | h
  · have h2 := h.2
    unfold cntB at h2
    rw [List.take_length] at h2
    obtain ⟨f, hf, he⟩ := List.countP_pos_iff.mp (by omega : 0 < (outsN fl i).countP (elsAt fl))
    exact ⟨f, hf, he⟩
  · exact absurd h.2 hn
theorem outs_lt {fl : List Fl} (i : Int) : ∀ x ∈ outsN fl i, ∃ i : Nat, x = (i : Int) ∧ i < fl.length := by
  intro x hx
  obtain ⟨j, f, h1, rfl, h2, _⟩ := pickF_mem hx
  exact ⟨j, rfl, h1⟩

theorem nrmRows_eI (l : List Int) : nrmRows (l.map eI) = l.map eI := by
  rw [nrmRows_map, List.map_map]; rfl
end Go.Proofs.YtjpphhcimpclpaaDoor.AM
end

section
set_option linter.unusedVariables false
set_option linter.unusedSimpArgs false
set_option maxRecDepth 4000
set_option maxHeartbeats 4000000
namespace Go.Proofs.YtjpphhcimpclpaaDoor.AM
open Go Go.Proofs
set_option linter.defProp false in
attribute [local irreducible] awp aops aqops aeops arun arunT

def badT (n : Nat) (S : List Int) (i : Nat) : Bool := (decide (tk S i < 0) || decide (3 < tk S i)) || (decide ((n : Int) ≤ (i : Int)) && (tk S i != 0))
def badQ (S : List Int) (i : Nat) : Bool := decide (qAt S i < 0) || decide (3 < qAt S i)
def mdS (S : List Int) : Int := S.getD 48 0
def okS (n : Nat) (S : List Int) : Bool := ((List.range 40).all (fun i => !badT n S i) && (List.range 4).all (fun i => !badQ S i)) && (inV (vS S) && (decide (0 ≤ mdS S) && decide (mdS S ≤ 2)))
noncomputable def stC (ns : List Nd) (fl : List Fl) (S : List Int) : Int := if (netN ns fl).1 ≠ 0 then 4 else if okS fl.length S = true then 0 else 1

theorem at_get {S : List Int} (hS : S.length = 49) {k : Nat} (hk : k < 49) : S[k]? = some (S.getD k 0) := by
  rw [List.getD_eq_getElem?_getD, List.getElem?_eq_getElem (by omega)]; rfl
theorem vS_arr {S : List Int} (hS : S.length = 49) : ((S.map AV.i).drop 40).take 4 = [.p (.int .i64 (vS S 0)), .p (.int .i64 (vS S 1)), .p (.int .i64 (vS S 2)), .p (.int .i64 (vS S 3))] := by
  rw [← List.map_drop, ← List.map_take, vS_cells hS]

end Go.Proofs.YtjpphhcimpclpaaDoor.AM
end

section
set_option linter.unusedVariables false
set_option linter.unusedSimpArgs false
set_option maxRecDepth 4000
set_option maxHeartbeats 4000000
namespace Go.Proofs.YtjpphhcimpclpaaDoor.AM
open Go Go.Proofs
set_option linter.defProp false in
attribute [local irreducible] awp aops aqops aeops arun arunT

/-! ### The steps of the first nodes; of the first channels. -/
def nodesG (ns : List Nd) (fl : List Fl) (S : List Int) : Nat → List Sp
  | 0 => []
  | j + 1 => nodesG ns fl S j ++ (match ns[j]? with | some k => nodeG ns fl S j k | none => [])
def awaitsB (ns : List Nd) (m : Int) : Bool := ns.any fun k => k.kind == 8 && k.a == m
def sendG (ns : List Nd) (S : List Int) (m : Nat) : List Sp :=
  if awaitsB ns m = true ∧ qAt S m < 3 then moveG S ⟨-1, m, 5, 0, m, S.set (44 + m) (qAt S m + 1)⟩ [] [] else []
def sendsG (ns : List Nd) (S : List Int) : Nat → List Sp
  | 0 => []
  | m + 1 => sendsG ns S m ++ sendG ns S m
noncomputable def stepsG (ns : List Nd) (fl : List Fl) (S : List Int) : List Sp :=
  if stC ns fl S ≠ 0 ∨ mdS S ≠ 0 then [] else nodesG ns fl S ns.length ++ sendsG ns S 4

theorem pg_tail (h : Heap) (A B X Y : Option Blk) (L : Heap) (ns : List Nd) (fl : List Fl) (S : List Int) (l : List Sp) : putG (h ++ [A, B, X, Y]) (h.length + 2) (h.length + 3) ns fl S l ++ L = h ++ (A :: B :: gmB ns fl S (h.length + 3) l :: spB l :: L) := by
  unfold putG
  simp only [set_app, List.set_cons_succ, List.set_cons_zero, List.append_assoc, List.cons_append, List.nil_append]
theorem nodeG_len (ns : List Nd) (fl : List Fl) (S : List Int) (hf : fl.length ≤ 40) (i : Nat) (k : Nd) : (nodeG ns fl S i k).length ≤ 100 := by
  have hcl : ∀ f d fr, (catchG ns fl S i f d fr).length ≤ 1 := by
    intro f d fr
    unfold catchG
    split
    · split
      · simp
      · exact moveG_len _ _ _ _
    · exact moveG_len _ _ _ _
  have fm : ∀ (l : List Int) (g : Int → List Sp), (∀ x, (g x).length ≤ 1) → (l.flatMap g).length ≤ l.length := by
    intro l g hg
    induction l with
    | nil => simp
    | cons x r ih => rw [List.flatMap_cons, List.length_append, List.length_cons]; have := hg x; omega
  have hi := insN_le fl i
  have ho := outsN_le fl i
  have hm := fun x fr to => moveG_len S x fr to
  unfold nodeG
  split
  · unfold lastG; split <;> exact Nat.le_trans (hm _ _ _) (by omega)
  · split
    · unfold dataG
      repeat' split
      · simp
      · rw [List.length_append]
        have := hm ⟨i, 0, 1, i, 0, S.set (40 + k.a.toNat) 0⟩ (insN fl i) (outsN fl i)
        have := hm ⟨i, 1, 1, i, 1, S.set (40 + k.a.toNat) 1⟩ (insN fl i) (outsN fl i)
        omega
      · simp
      · exact Nat.le_trans (hm _ _ _) (by omega)
    · split
      · unfold xorG
        split
        · exact Nat.le_trans (fm _ _ fun x => hm _ _ _) (by omega)
        · repeat' split
          · simp
          · simp
          · exact Nat.le_trans (hm _ _ _) (by omega)
      · split
        · exact Nat.le_trans (hm _ _ _) (by omega)
        · split
          · exact Nat.le_trans (fm _ _ fun x => hcl _ _ _) (by omega)
          · split
            · exact Nat.le_trans (hcl _ _ _) (by omega)
            · simp
theorem nodeG_to {ns : List Nd} {fl : List Fl} {S : List Int} (hS : S.length = 49) (i : Nat) (k : Nd) : ∀ y ∈ nodeG ns fl S i k, y.to.length = 49 := by
  have hcl : ∀ f d fr, ∀ y ∈ catchG ns fl S i f d fr, y.to.length = 49 := by
    intro f d fr y hy
    unfold catchG at hy
    split at hy
    · split at hy
      · cases hy
      · exact moveG_to hS (by rw [List.length_set, hS]) y hy
    · exact moveG_to hS hS y hy
  have hst : ∀ (a : Nat) (v : Int), (S.set a v).length = 49 := fun a v => by rw [List.length_set, hS]
  have hfa : ∀ e, ∀ y ∈ [faultS S i e], y.to.length = 49 := by
    intro e y hy
    rw [List.mem_singleton.mp hy]; exact hst _ _
  intro y hy
  unfold nodeG at hy
  split at hy
  · unfold lastG at hy
    split at hy
    · exact moveG_to hS (hst _ _) y hy
    · exact moveG_to hS hS y hy
  · split at hy
    · unfold dataG at hy
      split at hy
      · cases hy
      · split at hy
        · rcases List.mem_append.mp hy with hy | hy <;> exact moveG_to hS (hst _ _) y hy
        · split at hy
          · exact hfa _ y hy
          · exact moveG_to hS (hst _ _) y hy
    · split at hy
      · unfold xorG at hy
        split at hy
        · obtain ⟨f, _, hy⟩ := List.mem_flatMap.mp hy
          exact moveG_to hS hS y hy
        · split at hy
          · cases hy
          · split at hy
            · exact hfa _ y hy
            · exact moveG_to hS hS y hy
      · split at hy
        · exact moveG_to hS hS y hy
        · split at hy
          · obtain ⟨f, _, hy⟩ := List.mem_flatMap.mp hy
            exact hcl _ _ _ y hy
          · split at hy
            · exact hcl _ _ _ y hy
            · cases hy
theorem nodesG_len (ns : List Nd) (fl : List Fl) (S : List Int) (hf : fl.length ≤ 40) : ∀ j, (nodesG ns fl S j).length ≤ 100 * j
  | 0 => by simp [nodesG]
  | j + 1 => by
    have := nodesG_len ns fl S hf j
    rw [nodesG, List.length_append]
    split
    · rename_i k _
      have := nodeG_len ns fl S hf j k
      omega
    · simp only [List.length_nil]; omega
theorem nodesG_to {ns : List Nd} {fl : List Fl} {S : List Int} (hS : S.length = 49) : ∀ j, ∀ y ∈ nodesG ns fl S j, y.to.length = 49
  | 0, y, hy => by simp [nodesG] at hy
  | j + 1, y, hy => by
    rw [nodesG] at hy
    rcases List.mem_append.mp hy with hy | hy
    · exact nodesG_to hS j y hy
    · split at hy
      · exact nodeG_to hS j _ y hy
      · cases hy
theorem sendsG_len (ns : List Nd) (S : List Int) : ∀ m, (sendsG ns S m).length ≤ m
  | 0 => by simp [sendsG]
  | m + 1 => by
    have := sendsG_len ns S m
    rw [sendsG, List.length_append]
    unfold sendG
    split
    · have := moveG_len S ⟨-1, m, 5, 0, m, S.set (44 + m) (qAt S m + 1)⟩ [] []
      omega
    · simp only [List.length_nil]; omega
theorem sendsG_to {ns : List Nd} {S : List Int} (hS : S.length = 49) : ∀ m, ∀ y ∈ sendsG ns S m, y.to.length = 49
  | 0, y, hy => by simp [sendsG] at hy
  | m + 1, y, hy => by
    rw [sendsG] at hy
    rcases List.mem_append.mp hy with hy | hy
    · exact sendsG_to hS m y hy
    · unfold sendG at hy
      split at hy
      · exact moveG_to hS (by rw [List.length_set, hS]) y hy
      · cases hy
theorem okS_st {n : Nat} {S : List Int} (hS : S.length = 49) (h : okS n S = true) : StOk S := by
  unfold okS at h
  simp only [Bool.and_eq_true, List.all_eq_true, List.mem_range, Bool.not_eq_true'] at h
  refine ⟨⟨hS, fun i x hi hx => ?_⟩, fun i x h44 h48 hx => ?_⟩
  · have := h.1.1 i hi
    unfold badT at this
    simp only [Bool.or_eq_false_iff, decide_eq_false_iff_not] at this
    have e := at_get hS (k := i) (by omega)
    rw [hx] at e
    have e2 : tk S (i : Int) = x := (Option.some.inj e).symm
    omega
  · have := h.1.2 (i - 44) (by omega)
    unfold badQ at this
    simp only [Bool.or_eq_false_iff, decide_eq_false_iff_not] at this
    have e := at_get hS (k := i) (by omega)
    rw [hx] at e
    have e2 : qAt S ((i - 44 : Nat) : Int) = x := by unfold qAt; rw [Int.toNat_natCast, show 44 + (i - 44) = i by omega]; exact (Option.some.inj e).symm
    omega
theorem eSp_ok (r : Sp) : ∀ x ∈ eSp r, x ≠ .nils := by
  intro x hx
  obtain ⟨n, _, rfl⟩ := List.mem_map.mp hx
  exact fun e => by cases e
theorem stC_zero {ns : List Nd} {fl : List Fl} {S : List Int} (h : stC ns fl S = 0) : (netN ns fl).1 = 0 ∧ okS fl.length S = true := by
  unfold stC at h
  split at h
  · cases h
  · rename_i h0
    split at h
    · rename_i h1; exact ⟨by simpa using h0, h1⟩
    · cases h
end Go.Proofs.YtjpphhcimpclpaaDoor.AM
end

section
set_option linter.unusedVariables false
set_option linter.unusedSimpArgs false
set_option maxRecDepth 4000
set_option maxHeartbeats 4000000
namespace Go.Proofs.YtjpphhcimpclpaaDoor.AM
open Go Go.Proofs
set_option linter.defProp false in
attribute [local irreducible] awp aops aqops aeops arun arunT

abbrev aSps (l : List Sp) : AV := .p (.sl (l.map eSp))

theorem over_gen : ∀ (l c : List AV) (k : Nat), k + l.length ≤ c.length → over c k l = c.take k ++ l ++ c.drop (k + l.length)
  | [], c, k, h => by simp [over]
  | x :: r, c, k, h => by
    simp only [List.length_cons] at h
    simp only [over]
    rw [over_gen r (c.set k x) (k + 1) (by simp; omega)]
    rw [List.take_add_one, List.getElem?_set_self (by omega), List.take_set_of_le (Nat.le_refl k), List.drop_set_of_lt (by omega)]
    simp only [Option.toList_some, List.length_cons, List.append_assoc, List.cons_append, List.nil_append]
    congr 4
    omega
theorem over_two {S : List Int} (hS : S.length = 49) (a b : AV) (t : List AV) (ht : t.length = 50) : over (a :: b :: t) 2 (S.map AV.i) = a :: b :: (S.map AV.i ++ t.drop 49) := by
  have h51 : 2 + (S.map AV.i).length ≤ (a :: b :: t).length := by rw [List.length_map, hS, List.length_cons, List.length_cons, ht]; decide
  rw [over_gen (S.map AV.i) (a :: b :: t) 2 h51]
  rw [List.length_map, hS]; rfl
def eSp' (x : Sp) : List PV := if x.to.length = 49 then eSp x else List.replicate 54 (.int .i64 0)
theorem eSp'_len (x : Sp) : (eSp' x).length = 54 := by
  unfold eSp'
  split
  · rename_i h; unfold eSp; rw [List.length_map, cSp_len h]
  · rw [List.length_replicate]
theorem eSp'_ok (r : Sp) : ∀ x ∈ eSp' r, x ≠ .nils := by
  intro x hx
  unfold eSp' at hx
  split at hx
  · exact eSp_ok r x hx
  · rw [(List.mem_replicate.mp hx).2]; exact fun e => by cases e
theorem eSp'_map {l : List Sp} (h : ∀ y ∈ l, y.to.length = 49) : l.map eSp' = l.map eSp := by
  apply List.map_congr_left
  intro x hx
  unfold eSp'; rw [if_pos (h x hx)]
theorem cSps_e {l : List Sp} (h : ∀ y ∈ l, y.to.length = 49) : cSps l = (flatE eSp' l).map AV.p := by
  unfold flatE
  rw [List.flatMap_def, eSp'_map h, ← List.flatMap_def]
  unfold cSps eSp
  rw [List.map_flatMap, List.map_flatMap]
  congr 1; funext x
  rw [List.map_map]; rfl
theorem Ghost.game {P : Program} {G : Nat → Option (List PV)} {h : Heap} {s : St} {A B : Option Blk} {ns : List Nd} {fl : List Fl} {S : List Int} (hS : S.length = 49) (hh : s.heap = h ++ [A, B, some ⟨0, .p (.sl (ns.map eN)) :: .p (.sl (fl.map eF)) :: (S.map AV.i ++ [.p .nils])⟩]) : Ghost P G h s ⟨s.fr, s.nt, h ++ [A, B, gmB ns fl S (h.length + 3) [], spB []]⟩ := by
  have := Ghost.adoptCell (P := P) (G := G) (h0 := h) (s := s) (b := h.length + 2) (j := 51) (bk := ⟨0, .p (.sl (ns.map eN)) :: .p (.sl (fl.map eF)) :: (S.map AV.i ++ [.p .nils])⟩) 54 (by rw [hh]; simp [get_app]) (by simp [hS]) (by omega)
  rw [hh] at this
  have e : (AV.p (.sl (ns.map eN)) :: .p (.sl (fl.map eF)) :: (S.map AV.i ++ [.p .nils])).set 51 (.ref (h.length + 3) 0 0 54 0) = gmC ns fl S (h.length + 3) 0 := by
    unfold gmC
    rw [show (51 : Nat) = 49 + 1 + 1 by rfl, List.set_cons_succ, List.set_cons_succ, List.set_append_right _ _ (by simp [hS])]
    simp [hS]
  simp only [List.length_append, List.length_cons, List.length_nil, List.append_assoc, List.cons_append, List.nil_append, set_app, List.set_cons_succ, List.set_cons_zero, Nat.zero_add, Nat.reduceAdd, e] at this
  exact this

theorem pg_avl2 {ns : List Nd} {fl : List Fl} {S : List Int} {m lb n : Nat} (hl : lb < m) : avlts m (gmC ns fl S lb n) := by
  have : ∀ (m : Nat) (a c : List AV), avlts m a → avlts m c → avlts m (a ++ c) := by
    intro m a c ha hc
    induction a with
    | nil => exact hc
    | cons x r ih => exact ⟨ha.1, ih ha.2⟩
  exact ⟨trivial, trivial, this _ _ _ (avlts_is _ S) ⟨hl, trivial⟩⟩

end Go.Proofs.YtjpphhcimpclpaaDoor.AM
end

section
set_option linter.unusedVariables false
set_option linter.unusedSimpArgs false
set_option maxRecDepth 4000
set_option maxHeartbeats 4000000
namespace Go.Proofs.YtjpphhcimpclpaaDoor.AM
open Go Go.Proofs
set_option linter.defProp false in
def TTToM := And.intro T2 (And.intro T3 (And.intro T4 (And.intro T22 (And.intro T23 (And.intro T25 (And.intro T26 (And.intro T27 (And.intro T29 (And.intro T31 (And.intro T40 (And.intro T60 T71)))))))))))
attribute [local irreducible] awp aops aqops aeops arun arunT
variable {G : Nat → Option (List PV)}

def okH (l : List Int) : Bool := l.all fun x => !(decide (x < 0) || decide (3 < x))
theorem okH_step {l : List Int} {i : Nat} {x : Int} (h : l[i]? = some x) : okH (l.take (i + 1)) = (okH (l.take i) && !(decide (x < 0) || decide (3 < x))) := by
  unfold okH
  rw [List.take_add_one, h, List.all_append]; simp
theorem okH_no {l : List Int} {i : Nat} {x : Int} (h : l[i]? = some x) (hx : (decide (x < 0) || decide (3 < x)) = true) : okH l = false := by
  unfold okH
  rw [List.all_eq_false]
  exact ⟨x, List.mem_of_getElem? h, by rw [hx]; decide⟩

theorem held_calls {h : Heap} {b g off n : Nat} {S : List Int} (hb : h[b]? = some (some ⟨g, S.map AV.i⟩)) (hn : off + n ≤ S.length) (h1 : n ≤ 100) :
    ACalls Tryd.prog G 22 [.ref b g off 1 n] h (fun r h' => r = .b (okH ((S.drop off).take n)) ∧ h' = h) := by
  have hlt : b < h.length := (List.getElem?_eq_some_iff.mp hb).1
  refine acalls_pure (rl := []) mixed Tryd.func22 rfl (rs := [.tmp 2]) rfl Tryd.ntmps22 (by simp) ?_
  repeat' (first | ((first | refine aops_nil ?_ | refine aqops_nil ?_); (try simp only [NB])) | ((repeat ((fail_if_success (refine hK _ ?_)); clear hK K)); refine hK _ ?_; clear hK K) | ((first | refine aops_k fun K1 hK1 => ?_ | refine aqops_k fun K1 hK1 => ?_ | refine awp_cond_k fun A B hA hB => ?_); simp only [S1, simprocAttr, TTToM]; first | (refine hK1 _ ?_; clear hK1 K1) | ((first | refine hA ?_ | refine hB ?_); clear hA hB A B) | (refine join_x (v := ?_) (fun hg hk9 => ?_) ?_; rotate_left; (focus (try ((try simp only [BN] at hg); simp only [S1, simprocAttr, TTToM, hg] at hk9 ⊢)); first | exact hk9); (refine hK1 _ ?_; clear hK1 K1)) | (((first | (refine ⟨fun hg => hA ?_, fun hg => hB ?_⟩ <;> clear hA hB A B) | refine ⟨fun hg => ?_, fun hg => ?_⟩) <;> (try simp only [BN2] at hg) <;> (try simp only [hg, cond_true, cond_false])) <;> (try (refine hK1 _ ?_; clear hK1 K1)) <;> (try simp only [BN3] at hg))) | (refine awp_seq_k fun K hK => ?_) | ((first | refine awp_region ?_ | refine awp_draw (by kernel_rfl) ?_ | refine awp_block ?_ | refine awp_exit ?_ | refine awp_skip ?_ | refine awp_ret ?_); (try simp only [NB, simprocAttr])))
  refine awp_for n 18 (fun i => [(7, .i i), (6, .i n), (5, .ref b g off 1 n)]) (fun i => []) (fun i => okH (((S.drop off).take n).take i) = true) ?_ rfl fun i hi hp K hK => ?_
  · refine ⟨rfl, ⟨[], by simp only [List.append_nil]⟩, ?_, trivial⟩
    simp only [keeps, avlt, avlts, blksLt, frL, upd_get, S1, simprocAttr, List.length_map, Int.natCast_zero, AV.p.injEq, PV.int.injEq, PV.bool.injEq, PV.sl.injEq] <;> (try and_intros) <;> (try assumption) <;> (try trivial) <;> (try omega)
  rcases Nat.lt_or_ge i n with hlti | hge
  · have hx0 : S[off + i]? = some (S.getD (off + i) 0) := by rw [List.getD_eq_getElem?_getD, List.getElem?_eq_getElem (by omega)]; rfl
    generalize S.getD (off + i) 0 = x at *
    have hx : ((S.drop off).take n)[i]? = some x := by rw [List.getElem?_take_of_lt hlti, List.getElem?_drop]; exact hx0
    have dr := dropI hx0
    have hst := okH_step hx
    have i0 : (0 : Int) ≤ (i : Int) := by omega
    have hlt' : (i : Int) < (n : Int) := by omega
    cases f1 : decide (x < 0) with
    | true =>
      have ho := okH_no hx (by rw [f1]; rfl)
      rw [ho]
      repeat' (first | ((first | refine aops_nil ?_ | refine aqops_nil ?_); (try simp only [NB])) | ((repeat ((fail_if_success (refine hK _ ?_)); clear hK K)); refine hK _ ?_; clear hK K) | ((first | refine aops_k fun K1 hK1 => ?_ | refine aqops_k fun K1 hK1 => ?_ | refine awp_cond_k fun A B hA hB => ?_); simp only [S1, simprocAttr, TTToM, hb, hlt', i0, dr, f1, Int.toNat_natCast, Nat.mul_one, Nat.zero_add, Nat.add_zero]; first | (refine hK1 _ ?_; clear hK1 K1) | ((first | refine hA ?_ | refine hB ?_); clear hA hB A B) | (refine join_x (v := ?_) (fun hg hk9 => ?_) ?_; rotate_left; (focus (try ((try simp only [BN] at hg); simp only [S1, simprocAttr, TTToM, hb, hlt', i0, dr, f1, Int.toNat_natCast, Nat.mul_one, Nat.zero_add, Nat.add_zero, hg] at hk9 ⊢)); first | exact hk9); (refine hK1 _ ?_; clear hK1 K1)) | (((first | (refine ⟨fun hg => hA ?_, fun hg => hB ?_⟩ <;> clear hA hB A B) | refine ⟨fun hg => ?_, fun hg => ?_⟩) <;> (try simp only [BN2] at hg) <;> (try simp only [hg, cond_true, cond_false])) <;> (try (refine hK1 _ ?_; clear hK1 K1)) <;> (try simp only [BN3] at hg))) | (refine awp_seq_k fun K hK => ?_) | ((first | refine awp_region ?_ | refine awp_draw (by kernel_rfl) ?_ | refine awp_block ?_ | refine awp_exit ?_ | refine awp_skip ?_ | refine awp_ret ?_); (try simp only [NB, simprocAttr])))
      all_goals simp only [EndP, FinP, resA, resL, resA1, lastV, lastA, lastAs, pur, purs, take_app, List.take_length, S1, simprocAttr, TTToM, Nat.le_add_right, Nat.le_refl]
    | false =>
    cases f2 : decide (3 < x) with
    | true =>
      have ho := okH_no hx (by rw [f1, f2]; rfl)
      rw [ho]
      repeat' (first | ((first | refine aops_nil ?_ | refine aqops_nil ?_); (try simp only [NB])) | ((repeat ((fail_if_success (refine hK _ ?_)); clear hK K)); refine hK _ ?_; clear hK K) | ((first | refine aops_k fun K1 hK1 => ?_ | refine aqops_k fun K1 hK1 => ?_ | refine awp_cond_k fun A B hA hB => ?_); simp only [S1, simprocAttr, TTToM, hb, hlt', i0, dr, f1, f2, Int.toNat_natCast, Nat.mul_one, Nat.zero_add, Nat.add_zero]; first | (refine hK1 _ ?_; clear hK1 K1) | ((first | refine hA ?_ | refine hB ?_); clear hA hB A B) | (refine join_x (v := ?_) (fun hg hk9 => ?_) ?_; rotate_left; (focus (try ((try simp only [BN] at hg); simp only [S1, simprocAttr, TTToM, hb, hlt', i0, dr, f1, f2, Int.toNat_natCast, Nat.mul_one, Nat.zero_add, Nat.add_zero, hg] at hk9 ⊢)); first | exact hk9); (refine hK1 _ ?_; clear hK1 K1)) | (((first | (refine ⟨fun hg => hA ?_, fun hg => hB ?_⟩ <;> clear hA hB A B) | refine ⟨fun hg => ?_, fun hg => ?_⟩) <;> (try simp only [BN2] at hg) <;> (try simp only [hg, cond_true, cond_false])) <;> (try (refine hK1 _ ?_; clear hK1 K1)) <;> (try simp only [BN3] at hg))) | (refine awp_seq_k fun K hK => ?_) | ((first | refine awp_region ?_ | refine awp_draw (by kernel_rfl) ?_ | refine awp_block ?_ | refine awp_exit ?_ | refine awp_skip ?_ | refine awp_ret ?_); (try simp only [NB, simprocAttr])))
      all_goals simp only [EndP, FinP, resA, resL, resA1, lastV, lastA, lastAs, pur, purs, take_app, List.take_length, S1, simprocAttr, TTToM, Nat.le_add_right, Nat.le_refl]
    | false =>
      rw [hp, f1, f2] at hst
      repeat' (first | ((first | refine aops_nil ?_ | refine aqops_nil ?_); (try simp only [NB])) | ((repeat ((fail_if_success (refine hK _ ?_)); clear hK K)); refine hK _ ?_; clear hK K) | ((first | refine aops_k fun K1 hK1 => ?_ | refine aqops_k fun K1 hK1 => ?_ | refine awp_cond_k fun A B hA hB => ?_); simp only [S1, simprocAttr, TTToM, hb, hlt', next40 (n := n) (by omega) hlti, i0, dr, f1, f2, Int.toNat_natCast, Nat.mul_one, Nat.zero_add, Nat.add_zero]; first | (refine hK1 _ ?_; clear hK1 K1) | ((first | refine hA ?_ | refine hB ?_); clear hA hB A B) | (refine join_x (v := ?_) (fun hg hk9 => ?_) ?_; rotate_left; (focus (try ((try simp only [BN] at hg); simp only [S1, simprocAttr, TTToM, hb, hlt', next40 (n := n) (by omega) hlti, i0, dr, f1, f2, Int.toNat_natCast, Nat.mul_one, Nat.zero_add, Nat.add_zero, hg] at hk9 ⊢)); first | exact hk9); (refine hK1 _ ?_; clear hK1 K1)) | (((first | (refine ⟨fun hg => hA ?_, fun hg => hB ?_⟩ <;> clear hA hB A B) | refine ⟨fun hg => ?_, fun hg => ?_⟩) <;> (try simp only [BN2] at hg) <;> (try simp only [hg, cond_true, cond_false])) <;> (try (refine hK1 _ ?_; clear hK1 K1)) <;> (try simp only [BN3] at hg))) | (refine awp_seq_k fun K hK => ?_) | ((first | refine awp_region ?_ | refine awp_draw (by kernel_rfl) ?_ | refine awp_block ?_ | refine awp_exit ?_ | refine awp_skip ?_ | refine awp_ret ?_); (try simp only [NB, simprocAttr])))
      all_goals refine ⟨hlti, hst, ?_⟩
      all_goals refine ⟨rfl, ⟨[], by simp only [List.append_nil]⟩, ?_, trivial⟩
      all_goals simp only [keeps, avlt, avlts, blksLt, frL, upd_get, S1, simprocAttr, List.length_map, Int.natCast_zero, AV.p.injEq, PV.int.injEq, PV.bool.injEq, PV.sl.injEq] <;> (try and_intros) <;> (try assumption) <;> (try trivial) <;> (try omega)
  · obtain rfl : i = n := by omega
    rw [List.take_take, Nat.min_self] at hp
    repeat' (first | ((first | refine aops_nil ?_ | refine aqops_nil ?_); (try simp only [NB])) | ((repeat ((fail_if_success (refine hK _ ?_)); clear hK K)); refine hK _ ?_; clear hK K) | ((first | refine aops_k fun K1 hK1 => ?_ | refine aqops_k fun K1 hK1 => ?_ | refine awp_cond_k fun A B hA hB => ?_); simp only [S1, simprocAttr, TTToM, Int.lt_irrefl]; first | (refine hK1 _ ?_; clear hK1 K1) | ((first | refine hA ?_ | refine hB ?_); clear hA hB A B) | (refine join_x (v := ?_) (fun hg hk9 => ?_) ?_; rotate_left; (focus (try ((try simp only [BN] at hg); simp only [S1, simprocAttr, TTToM, Int.lt_irrefl, hg] at hk9 ⊢)); first | exact hk9); (refine hK1 _ ?_; clear hK1 K1)) | (((first | (refine ⟨fun hg => hA ?_, fun hg => hB ?_⟩ <;> clear hA hB A B) | refine ⟨fun hg => ?_, fun hg => ?_⟩) <;> (try simp only [BN2] at hg) <;> (try simp only [hg, cond_true, cond_false])) <;> (try (refine hK1 _ ?_; clear hK1 K1)) <;> (try simp only [BN3] at hg))) | (refine awp_seq_k fun K hK => ?_) | ((first | refine awp_region ?_ | refine awp_draw (by kernel_rfl) ?_ | refine awp_block ?_ | refine awp_exit ?_ | refine awp_skip ?_ | refine awp_ret ?_); (try simp only [NB, simprocAttr])))
    all_goals simp only [EndP, FinP, resA, resL, resA1, lastV, lastA, lastAs, pur, purs, take_app, List.take_length, S1, simprocAttr, TTToM, Nat.le_add_right, Nat.le_refl]
    all_goals rw [hp]
end Go.Proofs.YtjpphhcimpclpaaDoor.AM
end

section
set_option linter.unusedVariables false
set_option linter.unusedSimpArgs false
set_option maxRecDepth 4000
set_option maxHeartbeats 4000000
namespace Go.Proofs.YtjpphhcimpclpaaDoor.AM
open Go Go.Proofs
set_option linter.defProp false in
attribute [local irreducible] awp aops aqops aeops arun arunT

/-- The tokens, of which the first so many are put to nought. -/
def restZ (S : List Int) (j : Nat) : List Int := List.replicate j 0 ++ (S.take 40).drop j
theorem restZ_len {S : List Int} (hS : S.length = 49) {j : Nat} (hj : j ≤ 40) : (restZ S j).length = 40 := by simp [restZ, hS]; omega
theorem restZ_set {S : List Int} (hS : S.length = 49) {j : Nat} (hj : j < 40) : (restZ S j).set j 0 = restZ S (j + 1) := by
  have hl : j < (S.take 40).length := by rw [List.length_take]; omega
  unfold restZ
  rw [List.set_append_right _ _ (by simp), List.length_replicate, Nat.sub_self, List.drop_eq_getElem_cons hl, List.set_cons_zero, List.replicate_succ', List.append_assoc]; rfl
theorem eqI : ∀ {S T : List Int}, S.length = T.length → eqCells true (S.map AV.i) (T.map AV.i) = some (S == T)
  | [], [], _ => rfl
  | x :: r, [], h => by cases h
  | [], y :: q, h => by cases h
  | x :: r, y :: q, h => by
    have := eqI (S := r) (T := q) (by simpa using h)
    simp only [List.map_cons, eqCells, this]
    rfl
theorem restZ_eq {S : List Int} {n : Nat} (hS : S.length = 49) (hn : n ≤ 40) : (restZ S n == List.replicate 40 0) = (List.range 40).all fun i => !(decide ((n : Int) ≤ (i : Int)) && (tk S i != 0)) := by
  rw [Bool.eq_iff_iff, beq_iff_eq, List.all_eq_true]
  constructor
  · intro e i hi
    have hi := List.mem_range.mp hi
    by_cases h : n ≤ i
    · have e1 : (restZ S n)[i]? = some 0 := by rw [e, List.getElem?_replicate, if_pos hi]
      unfold restZ at e1
      rw [List.getElem?_append_right (by simpa using h), List.length_replicate, List.getElem?_drop, show n + (i - n) = i by omega, List.getElem?_take_of_lt hi, at_get hS (by omega)] at e1
      have e2 : tk S (i : Int) = 0 := Option.some.inj e1
      simp [e2]
    · have : decide ((n : Int) ≤ (i : Int)) = false := decide_eq_false (by omega)
      rw [this]; rfl
  · intro h
    apply List.ext_getElem?
    intro i
    rw [List.getElem?_replicate]
    split
    · rename_i hi
      unfold restZ
      by_cases hni : n ≤ i
      · have h1 := h i (List.mem_range.mpr hi)
        have : decide ((n : Int) ≤ (i : Int)) = true := decide_eq_true (by omega)
        rw [this] at h1
        simp at h1
        rw [List.getElem?_append_right (by simpa using hni), List.length_replicate, List.getElem?_drop, show n + (i - n) = i by omega, List.getElem?_take_of_lt hi, at_get hS (by omega)]
        exact congrArg some h1
      · rw [List.getElem?_append_left (by simp; omega), List.getElem?_replicate, if_pos (by omega)]
    · exact List.getElem?_eq_none (by rw [restZ_len hS hn]; omega)

/-- A state's bounds, told by lists. -/
theorem okS_eq {n : Nat} {S : List Int} (hS : S.length = 49) (hn : n ≤ 40) : okS n S = ((restZ S n == List.replicate 40 0) && (okH (S.take 40) && (okH ((S.drop 44).take 4) && (inV (vS S) && (decide (0 ≤ mdS S) && decide (mdS S ≤ 2)))))) := by
  have a : (List.range 40).all (fun i => !badT n S i) = ((restZ S n == List.replicate 40 0) && okH (S.take 40)) := by
    rw [restZ_eq hS hn, Bool.eq_iff_iff]
    unfold okH badT
    simp only [Bool.and_eq_true, List.all_eq_true, List.mem_range, Bool.not_eq_true', Bool.or_eq_false_iff]
    constructor
    · refine fun h => ⟨fun i hi => (h i hi).2, fun x hx => ?_⟩
      obtain ⟨i, hi, e⟩ := List.mem_iff_getElem.mp hx
      rw [List.length_take] at hi
      have h1 := (h i (by omega)).1
      have e2 : tk S (i : Int) = x := by
        have := at_get hS (k := i) (by omega)
        rw [← e, List.getElem_take]
        rw [List.getElem?_eq_getElem (by omega)] at this
        exact (Option.some.inj this).symm
      rw [e2] at h1; exact h1
    · refine fun h i hi => ⟨?_, h.1 i hi⟩
      have := h.2 (tk S i) (List.mem_of_getElem? (i := i) (by rw [List.getElem?_take_of_lt hi]; exact at_get hS (by omega)))
      exact this
  have b : (List.range 4).all (fun i => !badQ S i) = okH ((S.drop 44).take 4) := by
    rw [Bool.eq_iff_iff]
    unfold okH badQ
    simp only [List.all_eq_true, List.mem_range, Bool.not_eq_true', Bool.or_eq_false_iff]
    constructor
    · intro h x hx
      obtain ⟨i, hi, e⟩ := List.mem_iff_getElem.mp hx
      rw [List.length_take, List.length_drop] at hi
      have h1 := h i (by omega)
      have e2 : qAt S (i : Int) = x := by
        have := at_get hS (k := 44 + i) (by omega)
        rw [← e, List.getElem_take, List.getElem_drop]
        rw [List.getElem?_eq_getElem (by omega)] at this
        exact (Option.some.inj this).symm
      rw [e2] at h1; exact h1
    · intro h i hi
      exact h (qAt S i) (List.mem_of_getElem? (i := i) (by rw [List.getElem?_take_of_lt hi, List.getElem?_drop]; exact at_get hS (by omega)))
  unfold okS
  rw [a, b]
  simp only [Bool.and_assoc]
end Go.Proofs.YtjpphhcimpclpaaDoor.AM
end

section
set_option linter.unusedVariables false
set_option linter.unusedSimpArgs false
set_option maxRecDepth 4000
set_option maxHeartbeats 4000000
namespace Go.Proofs.YtjpphhcimpclpaaDoor.AM
open Go Go.Proofs
set_option linter.defProp false in
def TTToO := And.intro T2 (And.intro T3 (And.intro T4 (And.intro T22 (And.intro T23 (And.intro T25 (And.intro T26 (And.intro T27 (And.intro T29 (And.intro T31 (And.intro T40 (And.intro T60 T71)))))))))))
attribute [local irreducible] awp aops aqops aeops arun arunT

theorem tChk_calls {ns : List Nd} {fl : List Fl} (nk : NetOk ns fl) {S : List Int} (hS : S.length = 49) (h : Heap) :
    ACalls Tryd.prog gW 9 [aNet ns fl, aS S] h (fun r h' => r = .i (stC ns fl S) ∧ h' = h) := by
  have hne := ne_is hS
  have hc := fun h => Check_calls ns fl nk h
  by_cases h0 : (netN ns fl).1 = 0
  case neg =>
    have h0' : ((netN ns fl).1 != 0) = true := by simp [h0]
    have hst : stC ns fl S = 4 := by unfold stC; rw [if_pos h0]
    rw [hst]
    refine acalls_pure (rl := []) mixed Tryd.func9 rfl (rs := [.tmp 4]) rfl Tryd.ntmps9 (by simp) ?_
    repeat' (first | ((first | refine aops_nil ?_ | refine aqops_nil ?_); (try simp only [NB])) | ((repeat ((fail_if_success (refine hK _ ?_)); clear hK K)); refine hK _ ?_; clear hK K) | ((first | refine aops_k fun K1 hK1 => ?_ | refine aqops_k fun K1 hK1 => ?_ | refine awp_cond_k fun A B hA hB => ?_); simp only [S1, simprocAttr, TTToO, List.length_map, hS, hne, all_scalar, h0']; first | (refine hK1 _ ?_; clear hK1 K1) | ((first | refine hA ?_ | refine hB ?_); clear hA hB A B) | ((first | apply call_a E21 | apply call_q E21); exact (hc _); (refine hK1 _ ?_; clear hK1 K1)) | (refine join_x (v := ?_) (fun hg hk9 => ?_) ?_; rotate_left; (focus (try ((try simp only [BN] at hg); simp only [S1, simprocAttr, TTToO, List.length_map, hS, hne, all_scalar, h0', hg] at hk9 ⊢)); first | exact hk9 | ((first | apply call_a E21 | apply call_q E21); exact (hc _); exact hk9)); (refine hK1 _ ?_; clear hK1 K1)) | (((first | (refine ⟨fun hg => hA ?_, fun hg => hB ?_⟩ <;> clear hA hB A B) | refine ⟨fun hg => ?_, fun hg => ?_⟩) <;> (try simp only [BN2] at hg) <;> (try simp only [hg, cond_true, cond_false])) <;> (try (refine hK1 _ ?_; clear hK1 K1)) <;> (try simp only [BN3] at hg))) | (refine awp_seq_k fun K hK => ?_) | ((first | refine awp_region ?_ | refine awp_draw (by kernel_rfl) ?_ | refine awp_block ?_ | refine awp_exit ?_ | refine awp_skip ?_ | refine awp_ret ?_); (try simp only [NB, simprocAttr])))
    all_goals simp only [EndP, FinP, resA, resL, resA1, lastV, lastA, lastAs, pur, purs, take_app, List.take_length, S1, simprocAttr, TTToO, Nat.le_add_right, Nat.le_refl]
  have h0' : ((netN ns fl).1 != 0) = false := by simp [h0]
  have rt := Right.of h0
  have hf := rt.f
  have t40 : (S.map AV.i).take 40 = (S.take 40).map AV.i := by rw [List.map_take]
  have l40 : (S.take 40).length = 40 := by rw [List.length_take, hS]; rfl
  have hov := over_full (cs := (S.take 40).map AV.i) (n := 40) (by rw [List.length_map, l40])
  refine acalls_pure (rl := []) mixed Tryd.func9 rfl (rs := [.tmp 4]) rfl Tryd.ntmps9 (by simp) ?_
  repeat' (first | ((first | refine aops_nil ?_ | refine aqops_nil ?_); (try simp only [NB])) | ((repeat ((fail_if_success (refine hK _ ?_)); clear hK K)); refine hK _ ?_; clear hK K) | ((first | refine aops_k fun K1 hK1 => ?_ | refine aqops_k fun K1 hK1 => ?_ | refine awp_cond_k fun A B hA hB => ?_); simp only [S1, simprocAttr, TTToO, h0', t40, l40, hov, hne, hS, all_scalar, takeA_arr, takeA_st, eqA, Q26, List.length_map, List.length_take, List.length_drop, Nat.mul_one, Nat.zero_add, Nat.add_zero, Int.toNat_natCast, and_self]; first | (refine hK1 _ ?_; clear hK1 K1) | ((first | refine hA ?_ | refine hB ?_); clear hA hB A B) | ((first | apply call_a E21 | apply call_q E21); exact (hc _); (refine hK1 _ ?_; clear hK1 K1)) | (refine join_x (v := ?_) (fun hg hk9 => ?_) ?_; rotate_left; (focus (try ((try simp only [BN] at hg); simp only [S1, simprocAttr, TTToO, h0', t40, l40, hov, hne, hS, all_scalar, takeA_arr, takeA_st, eqA, Q26, List.length_map, List.length_take, List.length_drop, Nat.mul_one, Nat.zero_add, Nat.add_zero, Int.toNat_natCast, and_self, hg] at hk9 ⊢)); first | exact hk9 | ((first | apply call_a E21 | apply call_q E21); exact (hc _); exact hk9)); (refine hK1 _ ?_; clear hK1 K1)) | (((first | (refine ⟨fun hg => hA ?_, fun hg => hB ?_⟩ <;> clear hA hB A B) | refine ⟨fun hg => ?_, fun hg => ?_⟩) <;> (try simp only [BN2] at hg) <;> (try simp only [hg, cond_true, cond_false])) <;> (try (refine hK1 _ ?_; clear hK1 K1)) <;> (try simp only [BN3] at hg))) | (refine awp_seq_k fun K hK => ?_) | ((first | refine awp_region ?_ | refine awp_draw (by kernel_rfl) ?_ | refine awp_block ?_ | refine awp_exit ?_ | refine awp_skip ?_ | refine awp_ret ?_); (try simp only [NB, simprocAttr])))
  refine awp_for fl.length 58 (fun j => [(21, .i j), (20, .i fl.length), (7, .ptr (h.length + 2) 0 0), (3, .ptr (h.length + 1) 0 0), (2, .ptr h.length 0 0)])
    (fun j => [some ⟨0, cNet ns fl⟩, some ⟨0, S.map AV.i⟩, some ⟨0, (restZ S j).map AV.i⟩]) (fun j => True) ?_ trivial fun j hj hp K hK => ?_
  · have r0 : restZ S 0 = S.take 40 := rfl
    simp only [r0]
    refine ⟨rfl, ⟨[], by simp only [List.append_nil]⟩, ?_, ⟨trivial, trivial, trivial⟩, avlts_is _ _, avlts_is _ _, trivial⟩
    simp only [keeps, avlt, avlts, blksLt, frL, upd_get, S1, simprocAttr, List.length_map, Int.natCast_zero, AV.p.injEq, PV.int.injEq, PV.bool.injEq, PV.sl.injEq] <;> (try and_intros) <;> (try assumption) <;> (try trivial) <;> (try omega)
  rcases Nat.lt_or_ge j fl.length with hlt | hge
  · have j0 : (0 : Int) ≤ (j : Int) := by omega
    have j40 : (j : Int) < 40 := by omega
    have jl : (j : Int) < (fl.length : Int) := by omega
    have hj41 : j + 1 ≤ 40 := by omega
    have rl := restZ_len hS (j := j) (by omega)
    have rs : ((restZ S j).map AV.i).set j (.p (.int .i64 0)) = (restZ S (j + 1)).map AV.i := by rw [setI_c, restZ_set hS (by omega)]
    repeat' (first | ((first | refine aops_nil ?_ | refine aqops_nil ?_); (try simp only [NB])) | ((repeat ((fail_if_success (refine hK _ ?_)); clear hK K)); refine hK _ ?_; clear hK K) | ((first | refine aops_k fun K1 hK1 => ?_ | refine aqops_k fun K1 hK1 => ?_ | refine awp_cond_k fun A B hA hB => ?_); simp only [S1, simprocAttr, TTToO, jl, next40 (n := fl.length) (by omega) hlt, j0, j40, hj41, rl, rs, hne, hS, all_scalar, takeA_arr, takeA_st, eqA, Q26, List.length_map, List.length_take, List.length_drop, Nat.mul_one, Nat.zero_add, Nat.add_zero, Int.toNat_natCast, and_self]; first | (refine hK1 _ ?_; clear hK1 K1) | ((first | refine hA ?_ | refine hB ?_); clear hA hB A B) | (refine join_x (v := ?_) (fun hg hk9 => ?_) ?_; rotate_left; (focus (try ((try simp only [BN] at hg); simp only [S1, simprocAttr, TTToO, jl, next40 (n := fl.length) (by omega) hlt, j0, j40, hj41, rl, rs, hne, hS, all_scalar, takeA_arr, takeA_st, eqA, Q26, List.length_map, List.length_take, List.length_drop, Nat.mul_one, Nat.zero_add, Nat.add_zero, Int.toNat_natCast, and_self, hg] at hk9 ⊢)); first | exact hk9); (refine hK1 _ ?_; clear hK1 K1)) | (((first | (refine ⟨fun hg => hA ?_, fun hg => hB ?_⟩ <;> clear hA hB A B) | refine ⟨fun hg => ?_, fun hg => ?_⟩) <;> (try simp only [BN2] at hg) <;> (try simp only [hg, cond_true, cond_false])) <;> (try (refine hK1 _ ?_; clear hK1 K1)) <;> (try simp only [BN3] at hg))) | (refine awp_seq_k fun K hK => ?_) | ((first | refine awp_region ?_ | refine awp_draw (by kernel_rfl) ?_ | refine awp_block ?_ | refine awp_exit ?_ | refine awp_skip ?_ | refine awp_ret ?_); (try simp only [NB, simprocAttr])))
    all_goals refine ⟨hlt, trivial, ?_⟩
    all_goals refine ⟨rfl, ⟨[], by simp only [List.append_nil]⟩, ?_, ⟨trivial, trivial, trivial⟩, avlts_is _ _, avlts_is _ _, trivial⟩
    all_goals simp only [keeps, avlt, avlts, blksLt, frL, upd_get, S1, simprocAttr, List.length_map, Int.natCast_zero, AV.p.injEq, PV.int.injEq, PV.bool.injEq, PV.sl.injEq] <;> (try and_intros) <;> (try assumption) <;> (try trivial) <;> (try omega)
  obtain rfl : j = fl.length := by omega
  have hok := okS_eq hS hf
  have hst : stC ns fl S = if okS fl.length S = true then 0 else 1 := by unfold stC; rw [if_neg (by simpa using h0)]
  rw [hok] at hst
  have hH : ∀ j, (h ++ [some ⟨0, cNet ns fl⟩, some ⟨0, S.map AV.i⟩, some ⟨0, (restZ S j).map AV.i⟩])[h.length + 1]? = some (some ⟨0, S.map AV.i⟩) := fun j => by simp [get_app]
  have hh1 := held_calls (G := gW) (off := 0) (n := 40) (hH fl.length) (by omega) (by omega)
  have hh2 := held_calls (G := gW) (off := 44) (n := 4) (hH fl.length) (by omega) (by omega)
  rw [List.drop_zero] at hh1
  have hf4 := fun h => fitsV_calls (G := gW) (vS S) h
  have eq0 := eqI (S := restZ S fl.length) (T := List.replicate 40 0) (by rw [restZ_len hS hf, List.length_replicate])
  generalize (restZ S fl.length == List.replicate 40 0) = z0 at eq0 hst
  simp only [List.replicate_succ, List.replicate_zero, List.map_cons, List.map_nil] at eq0
  have rl := restZ_len hS (j := fl.length) hf
  have ar := vS_arr hS
  have dm := dropI (at_get hS (k := 48) (by omega))
  have emd : S.getD 48 0 = mdS S := rfl
  rw [emd] at dm
  have rtk : ((restZ S fl.length).map AV.i).take 40 = (restZ S fl.length).map AV.i := List.take_of_length_le (by rw [List.length_map, rl]; exact Nat.le_refl _)
  generalize mdS S = v at hst dm
  cases z0 with
  | false =>
    repeat' (first | ((first | refine aops_nil ?_ | refine aqops_nil ?_); (try simp only [NB])) | ((repeat ((fail_if_success (refine hK _ ?_)); clear hK K)); refine hK _ ?_; clear hK K) | ((first | refine aops_k fun K1 hK1 => ?_ | refine aqops_k fun K1 hK1 => ?_ | refine awp_cond_k fun A B hA hB => ?_); simp only [S1, simprocAttr, TTToO, Int.lt_irrefl, eq0, rl, rtk, ar, dm,  hne, hS, all_scalar, takeA_arr, takeA_st, eqA, Q26, List.length_map, List.length_take, List.length_drop, Nat.mul_one, Nat.zero_add, Nat.add_zero, Int.toNat_natCast, and_self]; first | (refine hK1 _ ?_; clear hK1 K1) | ((first | refine hA ?_ | refine hB ?_); clear hA hB A B) | ((first | apply call_a E22 | apply call_q E22); exact hh1; (refine hK1 _ ?_; clear hK1 K1)) | ((first | apply call_a E22 | apply call_q E22); exact hh2; (refine hK1 _ ?_; clear hK1 K1)) | ((first | apply call_a E23 | apply call_q E23); exact (hf4 _); (refine hK1 _ ?_; clear hK1 K1)) | (refine join_x (v := ?_) (fun hg hk9 => ?_) ?_; rotate_left; (focus (try ((try simp only [BN] at hg); simp only [S1, simprocAttr, TTToO, Int.lt_irrefl, eq0, rl, rtk, ar, dm,  hne, hS, all_scalar, takeA_arr, takeA_st, eqA, Q26, List.length_map, List.length_take, List.length_drop, Nat.mul_one, Nat.zero_add, Nat.add_zero, Int.toNat_natCast, and_self, hg] at hk9 ⊢)); first | exact hk9 | ((first | apply call_a E22 | apply call_q E22); exact hh1; exact hk9) | ((first | apply call_a E22 | apply call_q E22); exact hh2; exact hk9) | ((first | apply call_a E23 | apply call_q E23); exact (hf4 _); exact hk9)); (refine hK1 _ ?_; clear hK1 K1)) | (((first | (refine ⟨fun hg => hA ?_, fun hg => hB ?_⟩ <;> clear hA hB A B) | refine ⟨fun hg => ?_, fun hg => ?_⟩) <;> (try simp only [BN2] at hg) <;> (try simp only [hg, cond_true, cond_false])) <;> (try (refine hK1 _ ?_; clear hK1 K1)) <;> (try simp only [BN3] at hg))) | (refine awp_seq_k fun K hK => ?_) | ((first | refine awp_region ?_ | refine awp_draw (by kernel_rfl) ?_ | refine awp_block ?_ | refine awp_exit ?_ | refine awp_skip ?_ | refine awp_ret ?_); (try simp only [NB, simprocAttr])))
    all_goals simp only [EndP, FinP, resA, resL, resA1, lastV, lastA, lastAs, pur, purs, take_app, List.take_length, S1, simprocAttr, TTToO, Nat.le_add_right, Nat.le_refl]
    all_goals rw [hst]; rfl
  | true =>
  cases f1 : okH (S.take 40) with
  | false =>
    rw [f1] at hst hh1
    repeat' (first | ((first | refine aops_nil ?_ | refine aqops_nil ?_); (try simp only [NB])) | ((repeat ((fail_if_success (refine hK _ ?_)); clear hK K)); refine hK _ ?_; clear hK K) | ((first | refine aops_k fun K1 hK1 => ?_ | refine aqops_k fun K1 hK1 => ?_ | refine awp_cond_k fun A B hA hB => ?_); simp only [S1, simprocAttr, TTToO, Int.lt_irrefl, eq0, rl, rtk, ar, dm,  hne, hS, all_scalar, takeA_arr, takeA_st, eqA, Q26, List.length_map, List.length_take, List.length_drop, Nat.mul_one, Nat.zero_add, Nat.add_zero, Int.toNat_natCast, and_self]; first | (refine hK1 _ ?_; clear hK1 K1) | ((first | refine hA ?_ | refine hB ?_); clear hA hB A B) | ((first | apply call_a E22 | apply call_q E22); exact hh1; (refine hK1 _ ?_; clear hK1 K1)) | ((first | apply call_a E22 | apply call_q E22); exact hh2; (refine hK1 _ ?_; clear hK1 K1)) | ((first | apply call_a E23 | apply call_q E23); exact (hf4 _); (refine hK1 _ ?_; clear hK1 K1)) | (refine join_x (v := ?_) (fun hg hk9 => ?_) ?_; rotate_left; (focus (try ((try simp only [BN] at hg); simp only [S1, simprocAttr, TTToO, Int.lt_irrefl, eq0, rl, rtk, ar, dm,  hne, hS, all_scalar, takeA_arr, takeA_st, eqA, Q26, List.length_map, List.length_take, List.length_drop, Nat.mul_one, Nat.zero_add, Nat.add_zero, Int.toNat_natCast, and_self, hg] at hk9 ⊢)); first | exact hk9 | ((first | apply call_a E22 | apply call_q E22); exact hh1; exact hk9) | ((first | apply call_a E22 | apply call_q E22); exact hh2; exact hk9) | ((first | apply call_a E23 | apply call_q E23); exact (hf4 _); exact hk9)); (refine hK1 _ ?_; clear hK1 K1)) | (((first | (refine ⟨fun hg => hA ?_, fun hg => hB ?_⟩ <;> clear hA hB A B) | refine ⟨fun hg => ?_, fun hg => ?_⟩) <;> (try simp only [BN2] at hg) <;> (try simp only [hg, cond_true, cond_false])) <;> (try (refine hK1 _ ?_; clear hK1 K1)) <;> (try simp only [BN3] at hg))) | (refine awp_seq_k fun K hK => ?_) | ((first | refine awp_region ?_ | refine awp_draw (by kernel_rfl) ?_ | refine awp_block ?_ | refine awp_exit ?_ | refine awp_skip ?_ | refine awp_ret ?_); (try simp only [NB, simprocAttr])))
    all_goals simp only [EndP, FinP, resA, resL, resA1, lastV, lastA, lastAs, pur, purs, take_app, List.take_length, S1, simprocAttr, TTToO, Nat.le_add_right, Nat.le_refl]
    all_goals rw [hst]; rfl
  | true =>
  rw [f1] at hst hh1
  cases f2 : okH ((S.drop 44).take 4) with
  | false =>
    rw [f2] at hst hh2
    repeat' (first | ((first | refine aops_nil ?_ | refine aqops_nil ?_); (try simp only [NB])) | ((repeat ((fail_if_success (refine hK _ ?_)); clear hK K)); refine hK _ ?_; clear hK K) | ((first | refine aops_k fun K1 hK1 => ?_ | refine aqops_k fun K1 hK1 => ?_ | refine awp_cond_k fun A B hA hB => ?_); simp only [S1, simprocAttr, TTToO, Int.lt_irrefl, eq0, rl, rtk, ar, dm,  hne, hS, all_scalar, takeA_arr, takeA_st, eqA, Q26, List.length_map, List.length_take, List.length_drop, Nat.mul_one, Nat.zero_add, Nat.add_zero, Int.toNat_natCast, and_self]; first | (refine hK1 _ ?_; clear hK1 K1) | ((first | refine hA ?_ | refine hB ?_); clear hA hB A B) | ((first | apply call_a E22 | apply call_q E22); exact hh1; (refine hK1 _ ?_; clear hK1 K1)) | ((first | apply call_a E22 | apply call_q E22); exact hh2; (refine hK1 _ ?_; clear hK1 K1)) | ((first | apply call_a E23 | apply call_q E23); exact (hf4 _); (refine hK1 _ ?_; clear hK1 K1)) | (refine join_x (v := ?_) (fun hg hk9 => ?_) ?_; rotate_left; (focus (try ((try simp only [BN] at hg); simp only [S1, simprocAttr, TTToO, Int.lt_irrefl, eq0, rl, rtk, ar, dm,  hne, hS, all_scalar, takeA_arr, takeA_st, eqA, Q26, List.length_map, List.length_take, List.length_drop, Nat.mul_one, Nat.zero_add, Nat.add_zero, Int.toNat_natCast, and_self, hg] at hk9 ⊢)); first | exact hk9 | ((first | apply call_a E22 | apply call_q E22); exact hh1; exact hk9) | ((first | apply call_a E22 | apply call_q E22); exact hh2; exact hk9) | ((first | apply call_a E23 | apply call_q E23); exact (hf4 _); exact hk9)); (refine hK1 _ ?_; clear hK1 K1)) | (((first | (refine ⟨fun hg => hA ?_, fun hg => hB ?_⟩ <;> clear hA hB A B) | refine ⟨fun hg => ?_, fun hg => ?_⟩) <;> (try simp only [BN2] at hg) <;> (try simp only [hg, cond_true, cond_false])) <;> (try (refine hK1 _ ?_; clear hK1 K1)) <;> (try simp only [BN3] at hg))) | (refine awp_seq_k fun K hK => ?_) | ((first | refine awp_region ?_ | refine awp_draw (by kernel_rfl) ?_ | refine awp_block ?_ | refine awp_exit ?_ | refine awp_skip ?_ | refine awp_ret ?_); (try simp only [NB, simprocAttr])))
    all_goals simp only [EndP, FinP, resA, resL, resA1, lastV, lastA, lastAs, pur, purs, take_app, List.take_length, S1, simprocAttr, TTToO, Nat.le_add_right, Nat.le_refl]
    all_goals rw [hst]; rfl
  | true =>
  rw [f2] at hst hh2
  cases f3 : inV (vS S) with
  | false =>
    rw [f3] at hst hf4
    repeat' (first | ((first | refine aops_nil ?_ | refine aqops_nil ?_); (try simp only [NB])) | ((repeat ((fail_if_success (refine hK _ ?_)); clear hK K)); refine hK _ ?_; clear hK K) | ((first | refine aops_k fun K1 hK1 => ?_ | refine aqops_k fun K1 hK1 => ?_ | refine awp_cond_k fun A B hA hB => ?_); simp only [S1, simprocAttr, TTToO, Int.lt_irrefl, eq0, rl, rtk, ar, dm,  hne, hS, all_scalar, takeA_arr, takeA_st, eqA, Q26, List.length_map, List.length_take, List.length_drop, Nat.mul_one, Nat.zero_add, Nat.add_zero, Int.toNat_natCast, and_self]; first | (refine hK1 _ ?_; clear hK1 K1) | ((first | refine hA ?_ | refine hB ?_); clear hA hB A B) | ((first | apply call_a E22 | apply call_q E22); exact hh1; (refine hK1 _ ?_; clear hK1 K1)) | ((first | apply call_a E22 | apply call_q E22); exact hh2; (refine hK1 _ ?_; clear hK1 K1)) | ((first | apply call_a E23 | apply call_q E23); exact (hf4 _); (refine hK1 _ ?_; clear hK1 K1)) | (refine join_x (v := ?_) (fun hg hk9 => ?_) ?_; rotate_left; (focus (try ((try simp only [BN] at hg); simp only [S1, simprocAttr, TTToO, Int.lt_irrefl, eq0, rl, rtk, ar, dm,  hne, hS, all_scalar, takeA_arr, takeA_st, eqA, Q26, List.length_map, List.length_take, List.length_drop, Nat.mul_one, Nat.zero_add, Nat.add_zero, Int.toNat_natCast, and_self, hg] at hk9 ⊢)); first | exact hk9 | ((first | apply call_a E22 | apply call_q E22); exact hh1; exact hk9) | ((first | apply call_a E22 | apply call_q E22); exact hh2; exact hk9) | ((first | apply call_a E23 | apply call_q E23); exact (hf4 _); exact hk9)); (refine hK1 _ ?_; clear hK1 K1)) | (((first | (refine ⟨fun hg => hA ?_, fun hg => hB ?_⟩ <;> clear hA hB A B) | refine ⟨fun hg => ?_, fun hg => ?_⟩) <;> (try simp only [BN2] at hg) <;> (try simp only [hg, cond_true, cond_false])) <;> (try (refine hK1 _ ?_; clear hK1 K1)) <;> (try simp only [BN3] at hg))) | (refine awp_seq_k fun K hK => ?_) | ((first | refine awp_region ?_ | refine awp_draw (by kernel_rfl) ?_ | refine awp_block ?_ | refine awp_exit ?_ | refine awp_skip ?_ | refine awp_ret ?_); (try simp only [NB, simprocAttr])))
    all_goals simp only [EndP, FinP, resA, resL, resA1, lastV, lastA, lastAs, pur, purs, take_app, List.take_length, S1, simprocAttr, TTToO, Nat.le_add_right, Nat.le_refl]
    all_goals rw [hst]; rfl
  | true =>
  rw [f3] at hst hf4
  by_cases h1 : v < 0
  · have f4 : decide (v < 0) = true := decide_eq_true h1
    have f5 : decide (0 ≤ v) = false := decide_eq_false (by omega)
    rw [f5] at hst
    repeat' (first | ((first | refine aops_nil ?_ | refine aqops_nil ?_); (try simp only [NB])) | ((repeat ((fail_if_success (refine hK _ ?_)); clear hK K)); refine hK _ ?_; clear hK K) | ((first | refine aops_k fun K1 hK1 => ?_ | refine aqops_k fun K1 hK1 => ?_ | refine awp_cond_k fun A B hA hB => ?_); simp only [S1, simprocAttr, TTToO, Int.lt_irrefl, eq0, rl, rtk, ar, dm, f4, hne, hS, all_scalar, takeA_arr, takeA_st, eqA, Q26, List.length_map, List.length_take, List.length_drop, Nat.mul_one, Nat.zero_add, Nat.add_zero, Int.toNat_natCast, and_self]; first | (refine hK1 _ ?_; clear hK1 K1) | ((first | refine hA ?_ | refine hB ?_); clear hA hB A B) | ((first | apply call_a E22 | apply call_q E22); exact hh1; (refine hK1 _ ?_; clear hK1 K1)) | ((first | apply call_a E22 | apply call_q E22); exact hh2; (refine hK1 _ ?_; clear hK1 K1)) | ((first | apply call_a E23 | apply call_q E23); exact (hf4 _); (refine hK1 _ ?_; clear hK1 K1)) | (refine join_x (v := ?_) (fun hg hk9 => ?_) ?_; rotate_left; (focus (try ((try simp only [BN] at hg); simp only [S1, simprocAttr, TTToO, Int.lt_irrefl, eq0, rl, rtk, ar, dm, f4, hne, hS, all_scalar, takeA_arr, takeA_st, eqA, Q26, List.length_map, List.length_take, List.length_drop, Nat.mul_one, Nat.zero_add, Nat.add_zero, Int.toNat_natCast, and_self, hg] at hk9 ⊢)); first | exact hk9 | ((first | apply call_a E22 | apply call_q E22); exact hh1; exact hk9) | ((first | apply call_a E22 | apply call_q E22); exact hh2; exact hk9) | ((first | apply call_a E23 | apply call_q E23); exact (hf4 _); exact hk9)); (refine hK1 _ ?_; clear hK1 K1)) | (((first | (refine ⟨fun hg => hA ?_, fun hg => hB ?_⟩ <;> clear hA hB A B) | refine ⟨fun hg => ?_, fun hg => ?_⟩) <;> (try simp only [BN2] at hg) <;> (try simp only [hg, cond_true, cond_false])) <;> (try (refine hK1 _ ?_; clear hK1 K1)) <;> (try simp only [BN3] at hg))) | (refine awp_seq_k fun K hK => ?_) | ((first | refine awp_region ?_ | refine awp_draw (by kernel_rfl) ?_ | refine awp_block ?_ | refine awp_exit ?_ | refine awp_skip ?_ | refine awp_ret ?_); (try simp only [NB, simprocAttr])))
    all_goals simp only [EndP, FinP, resA, resL, resA1, lastV, lastA, lastAs, pur, purs, take_app, List.take_length, S1, simprocAttr, TTToO, Nat.le_add_right, Nat.le_refl]
    all_goals rw [hst]; rfl
  have f4 : decide (v < 0) = false := decide_eq_false h1
  have f5 : decide (0 ≤ v) = true := decide_eq_true (by omega)
  by_cases h2 : 2 < v
  · have f6 : decide (2 < v) = true := decide_eq_true h2
    have f7 : decide (v ≤ 2) = false := decide_eq_false (by omega)
    rw [f5, f7] at hst
    repeat' (first | ((first | refine aops_nil ?_ | refine aqops_nil ?_); (try simp only [NB])) | ((repeat ((fail_if_success (refine hK _ ?_)); clear hK K)); refine hK _ ?_; clear hK K) | ((first | refine aops_k fun K1 hK1 => ?_ | refine aqops_k fun K1 hK1 => ?_ | refine awp_cond_k fun A B hA hB => ?_); simp only [S1, simprocAttr, TTToO, Int.lt_irrefl, eq0, rl, rtk, ar, dm, f4, f6, hne, hS, all_scalar, takeA_arr, takeA_st, eqA, Q26, List.length_map, List.length_take, List.length_drop, Nat.mul_one, Nat.zero_add, Nat.add_zero, Int.toNat_natCast, and_self]; first | (refine hK1 _ ?_; clear hK1 K1) | ((first | refine hA ?_ | refine hB ?_); clear hA hB A B) | ((first | apply call_a E22 | apply call_q E22); exact hh1; (refine hK1 _ ?_; clear hK1 K1)) | ((first | apply call_a E22 | apply call_q E22); exact hh2; (refine hK1 _ ?_; clear hK1 K1)) | ((first | apply call_a E23 | apply call_q E23); exact (hf4 _); (refine hK1 _ ?_; clear hK1 K1)) | (refine join_x (v := ?_) (fun hg hk9 => ?_) ?_; rotate_left; (focus (try ((try simp only [BN] at hg); simp only [S1, simprocAttr, TTToO, Int.lt_irrefl, eq0, rl, rtk, ar, dm, f4, f6, hne, hS, all_scalar, takeA_arr, takeA_st, eqA, Q26, List.length_map, List.length_take, List.length_drop, Nat.mul_one, Nat.zero_add, Nat.add_zero, Int.toNat_natCast, and_self, hg] at hk9 ⊢)); first | exact hk9 | ((first | apply call_a E22 | apply call_q E22); exact hh1; exact hk9) | ((first | apply call_a E22 | apply call_q E22); exact hh2; exact hk9) | ((first | apply call_a E23 | apply call_q E23); exact (hf4 _); exact hk9)); (refine hK1 _ ?_; clear hK1 K1)) | (((first | (refine ⟨fun hg => hA ?_, fun hg => hB ?_⟩ <;> clear hA hB A B) | refine ⟨fun hg => ?_, fun hg => ?_⟩) <;> (try simp only [BN2] at hg) <;> (try simp only [hg, cond_true, cond_false])) <;> (try (refine hK1 _ ?_; clear hK1 K1)) <;> (try simp only [BN3] at hg))) | (refine awp_seq_k fun K hK => ?_) | ((first | refine awp_region ?_ | refine awp_draw (by kernel_rfl) ?_ | refine awp_block ?_ | refine awp_exit ?_ | refine awp_skip ?_ | refine awp_ret ?_); (try simp only [NB, simprocAttr])))
    all_goals simp only [EndP, FinP, resA, resL, resA1, lastV, lastA, lastAs, pur, purs, take_app, List.take_length, S1, simprocAttr, TTToO, Nat.le_add_right, Nat.le_refl]
    all_goals rw [hst]; rfl
  have f6 : decide (2 < v) = false := decide_eq_false h2
  have f7 : decide (v ≤ 2) = true := decide_eq_true (by omega)
  rw [f5, f7] at hst
  repeat' (first | ((first | refine aops_nil ?_ | refine aqops_nil ?_); (try simp only [NB])) | ((repeat ((fail_if_success (refine hK _ ?_)); clear hK K)); refine hK _ ?_; clear hK K) | ((first | refine aops_k fun K1 hK1 => ?_ | refine aqops_k fun K1 hK1 => ?_ | refine awp_cond_k fun A B hA hB => ?_); simp only [S1, simprocAttr, TTToO, Int.lt_irrefl, eq0, rl, rtk, ar, dm, f4, f6, hne, hS, all_scalar, takeA_arr, takeA_st, eqA, Q26, List.length_map, List.length_take, List.length_drop, Nat.mul_one, Nat.zero_add, Nat.add_zero, Int.toNat_natCast, and_self]; first | (refine hK1 _ ?_; clear hK1 K1) | ((first | refine hA ?_ | refine hB ?_); clear hA hB A B) | ((first | apply call_a E22 | apply call_q E22); exact hh1; (refine hK1 _ ?_; clear hK1 K1)) | ((first | apply call_a E22 | apply call_q E22); exact hh2; (refine hK1 _ ?_; clear hK1 K1)) | ((first | apply call_a E23 | apply call_q E23); exact (hf4 _); (refine hK1 _ ?_; clear hK1 K1)) | (refine join_x (v := ?_) (fun hg hk9 => ?_) ?_; rotate_left; (focus (try ((try simp only [BN] at hg); simp only [S1, simprocAttr, TTToO, Int.lt_irrefl, eq0, rl, rtk, ar, dm, f4, f6, hne, hS, all_scalar, takeA_arr, takeA_st, eqA, Q26, List.length_map, List.length_take, List.length_drop, Nat.mul_one, Nat.zero_add, Nat.add_zero, Int.toNat_natCast, and_self, hg] at hk9 ⊢)); first | exact hk9 | ((first | apply call_a E22 | apply call_q E22); exact hh1; exact hk9) | ((first | apply call_a E22 | apply call_q E22); exact hh2; exact hk9) | ((first | apply call_a E23 | apply call_q E23); exact (hf4 _); exact hk9)); (refine hK1 _ ?_; clear hK1 K1)) | (((first | (refine ⟨fun hg => hA ?_, fun hg => hB ?_⟩ <;> clear hA hB A B) | refine ⟨fun hg => ?_, fun hg => ?_⟩) <;> (try simp only [BN2] at hg) <;> (try simp only [hg, cond_true, cond_false])) <;> (try (refine hK1 _ ?_; clear hK1 K1)) <;> (try simp only [BN3] at hg))) | (refine awp_seq_k fun K hK => ?_) | ((first | refine awp_region ?_ | refine awp_draw (by kernel_rfl) ?_ | refine awp_block ?_ | refine awp_exit ?_ | refine awp_skip ?_ | refine awp_ret ?_); (try simp only [NB, simprocAttr])))
  all_goals simp only [EndP, FinP, resA, resL, resA1, lastV, lastA, lastAs, pur, purs, take_app, List.take_length, S1, simprocAttr, TTToO, Nat.le_add_right, Nat.le_refl]
  all_goals rw [hst]; rfl
end Go.Proofs.YtjpphhcimpclpaaDoor.AM
end

section
set_option linter.unusedVariables false
set_option linter.unusedSimpArgs false
namespace Go.Proofs.YtjpphhcimpclpaaDoor.AM
open Go Go.Proofs

/-- The tokens of a state, as a function. -/
def tokF (S : List Int) : Int → Int := fun i => if 0 ≤ i ∧ i < 40 then tk S i else 0
def listF (t : Int → Int) : List Int := (List.range 40).map fun (i : Nat) => t (i : Int)
theorem aA_listF (t : Int → Int) : aA t = (listF t).map AV.i := by unfold aA listF; rw [List.map_map]; rfl
theorem listF_tokF {S : List Int} (hS : S.length = 49) : listF (tokF S) = S.take 40 := by
  apply List.ext_getElem?
  intro i
  unfold listF
  rw [List.getElem?_map]
  rcases Nat.lt_or_ge i 40 with hi | hi
  · rw [List.getElem?_range hi, List.getElem?_take_of_lt hi, at_get hS (by omega)]
    unfold tokF
    rw [Option.map_some, if_pos ⟨by omega, by omega⟩]; rfl
  · rw [List.getElem?_eq_none (by simpa using hi), List.getElem?_eq_none (by rw [List.length_take]; omega)]; rfl

structure RelT (S : List Int) (t : Int → Int) : Prop where
  len : S.length = 49
  eq : ∀ i : Int, 0 ≤ i → i < 40 → tk S i = t i
theorem RelT.tokF {S : List Int} (hS : S.length = 49) : RelT S (tokF S) := ⟨hS, fun i h0 h1 => by unfold AM.tokF; rw [if_pos ⟨h0, h1⟩]⟩
theorem RelT.take {S : List Int} {t : Int → Int} (h : RelT S t) : S.take 40 = listF t := by
  rw [← listF_tokF h.len]
  unfold listF
  apply List.map_congr_left
  intro i hi
  have := List.mem_range.mp hi
  unfold AM.tokF
  rw [if_pos ⟨by omega, by omega⟩, h.eq _ (by omega) (by omega)]
theorem RelT.set {S : List Int} {t : Int → Int} (h : RelT S t) {f v : Int} (h0 : 0 ≤ f) (h1 : f < 40) : RelT (S.set f.toNat v) (setT t f v) := by
  have hl := h.len
  refine ⟨by rw [List.length_set, hl], fun i i0 i1 => ?_⟩
  unfold tk setT
  rw [List.getD_eq_getElem?_getD, List.getElem?_set]
  by_cases e : i = f
  · subst e; rw [if_pos rfl, if_pos rfl, if_pos (by omega)]; rfl
  · rw [if_neg (by omega), if_neg e, ← List.getD_eq_getElem?_getD]
    exact h.eq i i0 i1
theorem joinS_len {S T : List Int} (hS : S.length = 49) (hT : T.length = 49) : (joinS S T).length = 49 := by simp [joinS, hS, hT]
theorem joinS_rel {S T : List Int} {t : Int → Int} (h : RelT S t) (hT : T.length = 49) : RelT (joinS S T) t := by
  have hl := h.len
  refine ⟨joinS_len hl hT, fun i i0 i1 => ?_⟩
  rw [← h.eq i i0 i1]
  unfold tk joinS
  rw [List.getD_eq_getElem?_getD, List.getElem?_append_left (by rw [List.length_take]; omega), List.getElem?_take_of_lt (by omega), ← List.getD_eq_getElem?_getD]

end Go.Proofs.YtjpphhcimpclpaaDoor.AM
end

section
set_option linter.unusedVariables false
set_option linter.unusedSimpArgs false
namespace Go.Proofs.YtjpphhcimpclpaaDoor.AM
open Go Go.Proofs

theorem mem_ruTo {ns : List Nd} {fl : List Fl} {r : Ru} : ∀ {n : Nat}, r ∈ ruTo ns fl n → ∃ j, j < n ∧ r ∈ ruOf fl j (kindAt ns j)
  | 0, h => by simp [ruTo] at h
  | n + 1, h => by
    rw [ruTo] at h
    rcases List.mem_append.mp h with h | h
    · obtain ⟨j, h1, h2⟩ := mem_ruTo h; exact ⟨j, by omega, h2⟩
    · exact ⟨n, by omega, h⟩
end Go.Proofs.YtjpphhcimpclpaaDoor.AM
end
