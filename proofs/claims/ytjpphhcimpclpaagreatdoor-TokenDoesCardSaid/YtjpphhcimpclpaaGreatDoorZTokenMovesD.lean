/- Proved here, in parts, for one law: contracts of the functions that the laws call, and the plain facts behind them. Conditions: none. -/
import Derived.Test.YtjpphhcimpclpaaGreatDoorZTokenMovesC
import Derived.ProofKit
import Derived.LaidMore
import Derived.OpenShut
import Derived.Stop.Joined
import Derived.Test.YtjpphhcimpclpaaGreatDoorRows
import Derived.IntWalk
set_option linter.unusedVariables false
set_option linter.unusedSimpArgs false
set_option linter.defProp false
set_option maxRecDepth 4000
set_option maxHeartbeats 4000000
namespace Go.Proofs.YtjpphhcimpclpaaGreatDoor.AM
open Go Go.Proofs
section
open Go Go.ChangeShapes Go.WideShapes Go.RowKit
mutual
def t7 {H : Type} : DataW H → List PV
  | .lit (.bool b) => [.bool b]
  | .lit (.int k n) => [.int k n]
  | .lit (.string l) => [.str ⟨l.toArray⟩]
  | .lit _ => []
  | .nil => [.sl []]
  | .slice elems _ => [.sl (C4 elems)]
  | .agg parts => kz parts
  | .ptr _ => []
  | .iface _ _ => []
  | .map _ => []
  | .held _ => []
def C4 {H : Type} : List (DataW H) → List (List PV)
  | [] => []
  | d :: r => t7 d :: C4 r
def kz {H : Type} : List (DataW H) → List PV
  | [] => []
  | d :: r => t7 d ++ kz r
end
def dR (P : Program) (S : List Nat) (t : Nat) : Bool :=
  match P.underlying t with
  | some .bool | some (.int _) | some .string => P.cellsOf t == 1
  | some (.slice e) => S.contains e && decide (0 < P.cellsOf e) && P.cellsOf t == 1
  | some (.array n e) => S.contains e && P.cellsOf t == n * P.cellsOf e
  | some (.struct fs) => fs.toList.all (fun f => S.contains f.type) &&
      (fs.toList.foldl (fun (acc : Option Nat) f => acc.bind fun o => if f.offset == o then some (o + P.cellsOf f.type) else none) (some 0) == some (P.cellsOf t))
  | _ => false
def plainB (P : Program) (S : List Nat) : Bool := S.all (dR P S)
def Ty (P : Program) : Nat → Nat → List PV → Prop
  | 0, _, _ => False
  | fuel + 1, t, xs =>
    match P.underlying t with
    | some .bool => ∃ b, xs = [.bool b]
    | some (.int k) => ∃ n, E1 k n ∧ xs = [.int k n]
    | some .string => ∃ s, xs = [.str s]
    | some (.slice e) => ∃ rows, xs = [.sl rows] ∧ ∀ row ∈ rows, Ty P fuel e row
    | some (.array n e) => ∃ rows : List (List PV), rows.length = n ∧ xs = rows.flatMap id ∧ ∀ row ∈ rows, Ty P fuel e row
    | some (.struct fs) => ∃ rows : List (List PV), rows.length = fs.size ∧ xs = rows.flatMap id ∧ ∀ (i : Nat) f row, fs[i]? = some f → rows[i]? = some row → Ty P fuel f.type row
    | _ => False
def LR (w : World) (xs : List PV) (cs : List Value) : Prop := xs.length = cs.length ∧ ∀ (i : Nat) x v, xs[i]? = some x → cs[i]? = some v → PRel w (fun _ => False) x v
section
variable {P : Program} {w : World} {H : Type} {enc : TypeId × Value → H} {spare : Nat → Bool} {held : Bool}
theorem gV {α β : Type} {f : α → Option β} : ∀ {l : List α} {r : List β}, l.mapM f = some r → r.length = l.length ∧ ∀ (i : Nat) x y, l[i]? = some x → r[i]? = some y → f x = some y
  | [], r, h => by simp at h; subst h; simp
  | a :: l, r, h => by
    simp only [List.mapM_cons] at h
    cases ha : f a with
    | none => simp [ha] at h
    | some b =>
      cases hl : l.mapM f with
      | none => simp [ha, hl] at h
      | some bs =>
        simp [ha, hl] at h
        subst h
        obtain ⟨l1, l2⟩ := gV hl
        refine ⟨by simp [l1], fun i x y hx hy => ?_⟩
        cases i with
        | zero => simp at hx hy; rw [← hx, ← hy]; exact ha
        | succ i => simp at hx hy; exact l2 i x y hx hy
theorem LR.append {xs ys : List PV} {cs ds : List Value} (h1 : LR w xs cs) (h2 : LR w ys ds) : LR w (xs ++ ys) (cs ++ ds) := by
  refine ⟨by simp [h1.1, h2.1], fun i x v hx hv => ?_⟩
  by_cases hi : i < xs.length
  · rw [List.getElem?_append_left hi] at hx
    rw [List.getElem?_append_left (by rw [← h1.1]; exact hi)] at hv
    exact h1.2 i x v hx hv
  · rw [List.getElem?_append_right (by omega)] at hx
    rw [List.getElem?_append_right (by rw [← h1.1]; omega), ← h1.1] at hv
    exact h2.2 _ x v hx hv
theorem dS (ds : List (DataW H)) : ∀ i : Nat, (C4 ds)[i]? = (ds[i]?).map t7 := by
  induction ds with
  | nil => intro i; simp [C4]
  | cons d r ih => intro i; cases i with
    | zero => simp [C4]
    | succ i => simp [C4, ih]
theorem ae (ds : List (DataW H)) : (C4 ds).length = ds.length := by
  induction ds with
  | nil => rfl
  | cons d r ih => simp [C4, ih]
theorem bA (ds : List (DataW H)) : kz ds = (C4 ds).flatMap id := by
  induction ds with
  | nil => rfl
  | cons d r ih => simp [kz, C4, ih]
theorem LR.rows : ∀ (rows : List (List PV)) (sizes : List Nat) (cs : List Value), rows.length = sizes.length → cs.length = sizes.foldl (· + ·) 0 →
    (∀ (i : Nat) row n, rows[i]? = some row → sizes[i]? = some n → LR w row ((cs.drop ((sizes.take i).foldl (· + ·) 0)).take n)) → LR w (rows.flatMap id) cs := by
  have hf : ∀ (l : List Nat) (a : Nat), l.foldl (· + ·) a = a + l.foldl (· + ·) 0 := by
    intro l
    induction l with
    | nil => intro a; rfl
    | cons x r ih => intro a; simp only [List.foldl_cons]; rw [ih, ih (0 + x)]; omega
  intro rows
  induction rows with
  | nil =>
    intro sizes cs hl hc _
    cases sizes with
    | nil => simp at hc; subst hc; exact ⟨rfl, fun i x v hx => by simp at hx⟩
    | cons => simp at hl
  | cons row rest ih =>
    intro sizes cs hl hc h
    cases sizes with
    | nil => simp at hl
    | cons n ns =>
      simp only [List.foldl_cons] at hc
      rw [hf] at hc
      have h0 := h 0 row n rfl rfl
      simp at h0
      have hrest : LR w (rest.flatMap id) (cs.drop n) := by
        refine ih ns (cs.drop n) (by simpa using hl) (by simp; omega) fun i r m hr hm => ?_
        have := h (i + 1) r m (by simpa using hr) (by simpa using hm)
        simp only [List.take_succ_cons, List.foldl_cons] at this
        rw [hf] at this
        rw [List.drop_drop]
        simpa using this
      have := h0.append hrest
      simpa using this
theorem bi {a : Addr} {n : Nat} {cs : List Value} (h : w.cells? 0 a n = some cs) : cs.length = n ∧ ∀ (i : Nat) v, cs[i]? = some v → w.cell? (a.add i) = some v := by
  unfold World.cells? at h
  simp only [Nat.zero_le, if_true] at h
  obtain ⟨l1, l2⟩ := gV h
  refine ⟨by simpa using l1, fun i v hv => ?_⟩
  have hi : i < n := by have := m6 hv; simp at l1; omega
  exact l2 i i v (by simp [hi]) hv
theorem rL {S : List Nat} (hS : plainB P S = true) : ∀ (fuel t : Nat) (cs : List Value) (x : DataW H × List MemPlace), t ∈ S → DataW.trod enc P w 0 spare held fuel t cs = some x →
    LR w (t7 x.1) cs ∧ Ty P fuel t (t7 x.1) ∧ cs.length = P.cellsOf t := by
  have hpl : ∀ t ∈ S, dR P S t = true := by simpa [plainB] using hS
  intro fuel
  induction fuel with
  | zero => intro t cs x _ h; simp [DataW.trod] at h
  | succ fuel ih =>
    intro t cs x ht h
    have hp := hpl t ht
    unfold dR at hp
    unfold Ty
    have one : ∀ (y : PV) (v : Value), PRel w (fun _ => False) y v → LR w [y] [v] := by
      intro y v hy
      refine ⟨rfl, fun i x v hx hv => ?_⟩
      cases i with
      | zero => simp at hx hv; rw [← hx, ← hv]; exact hy
      | succ i => simp at hx
    cases hu : P.underlying t with
    | none => rw [hu] at hp; simp at hp
    | some d =>
      rw [hu] at hp
      cases d with
      | bool =>
        simp only [beq_iff_eq] at hp
        obtain ⟨b, rfl, rfl⟩ := DataW.trod_bool hu h
        exact ⟨one _ _ (.bool b), ⟨b, rfl⟩, hp.symm⟩
      | int k =>
        simp only [beq_iff_eq] at hp
        obtain ⟨n, rfl, rfl, hw⟩ := DataW.trod_int hu h
        have hr : E1 k n := by
          simp only [Lit.wf] at hw
          unfold E1
          simpa using hw
        exact ⟨one _ _ (.int _ _ hr), ⟨n, hr, rfl⟩, hp.symm⟩
      | string =>
        simp only [beq_iff_eq] at hp
        obtain ⟨s, rfl, rfl, hs⟩ := DataW.trod_string hu h
        have hm : s.size ≤ 9223372036854775807 := by unfold maxLen at hs; omega
        have e : (⟨s.data.toList.toArray⟩ : ByteArray) = s := by simp
        refine ⟨?_, ⟨_, rfl⟩, hp.symm⟩
        simp only [t7, e]
        exact one _ _ (.str s hm)
      | slice e =>
        simp only [Bool.and_eq_true, beq_iff_eq, decide_eq_true_eq, List.contains_iff_mem] at hp
        obtain ⟨⟨he, hpos⟩, h1⟩ := hp
        rcases DataW.trod_slice hu h with ⟨rfl, rfl⟩ | ⟨a, len, cap, elems, rest, m, hm, rfl, rfl, _, hlc, hcm, m1, m2, _⟩
        · exact ⟨one _ _ (.slz _ _), ⟨[], rfl, by simp⟩, h1.symm⟩
        · have : m = fuel := by omega
          subst this
          have hrow : ∀ (i : Nat) y, elems[i]? = some y → ∃ rc, w.cells? 0 (a.add (i * P.cellsOf e)) (P.cellsOf e) = some rc ∧ LR w (t7 y.1) rc ∧ Ty P m e (t7 y.1) := by
            intro i y hy
            have hi : i < len := by have := m6 hy; omega
            have := m2 i hi
            rw [hy] at this
            obtain ⟨rc, hrc, ht'⟩ := Option.bind_eq_some_iff.mp this
            obtain ⟨q1, q2, _⟩ := ih e rc y he ht'
            exact ⟨rc, hrc, q1, q2⟩
          have hrg : ∀ i : Nat, (C4 (elems.map (·.1)))[i]? = (elems[i]?).map fun y => t7 y.1 := by
            intro i; rw [dS]; simp
            cases elems[i]? <;> rfl
          have hrl : (C4 (elems.map (·.1))).length = len := by rw [ae]; simp [m1]
          have hmem : ∀ row ∈ C4 (elems.map (·.1)), ∃ (i : Nat) (y : DataW H × List MemPlace), elems[i]? = some y ∧ t7 y.1 = row := by
            intro row hr
            obtain ⟨i, hi, rfl⟩ := List.getElem_of_mem hr
            have h1 : (C4 (elems.map (·.1)))[i]? = some ((C4 (elems.map (·.1)))[i]) := List.getElem?_eq_getElem hi
            rw [hrg] at h1
            obtain ⟨y, hy, hye⟩ := Option.map_eq_some_iff.mp h1
            exact ⟨i, y, hy, hye⟩
          have hcd : t7 (DataW.slice (elems.map (·.1)) (rest.map (·.1))) = [.sl (C4 (elems.map (fun y : DataW H × List MemPlace => y.1)))] := by simp only [t7]
          show LR w (t7 (DataW.slice (elems.map (·.1)) (rest.map (·.1)))) _ ∧ (∃ rows, t7 (DataW.slice (elems.map (·.1)) (rest.map (·.1))) = [.sl rows] ∧ ∀ row ∈ rows, Ty P m e row) ∧ _
          rw [hcd]
          refine ⟨one (.sl (C4 (elems.map (fun y : DataW H × List MemPlace => y.1)))) _ ?_, ⟨_, rfl, fun row hr => ?_⟩, h1.symm⟩
          · by_cases hz : len = 0
            · have : C4 (elems.map (·.1)) = [] := List.eq_nil_of_length_eq_zero (by omega)
              rw [this, hz]
              exact .slz _ _
            · obtain ⟨y0, hy0⟩ : ∃ y, elems[0]? = some y := ⟨elems[0]'(by omega), by simp⟩
              obtain ⟨rc0, hrc0, _, _⟩ := hrow 0 y0 hy0
              obtain ⟨c1, c2⟩ := bi hrc0
              have hc0 : w.cell? a = some (rc0[0]'(by omega)) := by
                have := c2 0 (rc0[0]'(by omega)) (by simp)
                simpa [Addr.add] using this
              have hspot : a.spot = none := by
                unfold World.cell? at hc0
                split at hc0
                · split at hc0
                  · cases hc0
                  · rename_i hs; simpa using hs
                · cases hc0
              obtain ⟨blk, off, sp⟩ := a
              simp only at hspot
              subst hspot
              have hb := block_lt_of_cell hc0
              have hf : ∀ q : Nat × Nat, ∃ v, ∀ x, P5 (C4 (elems.map (·.1))) q.1 q.2 = some x → w.cell? ⟨blk, off + (q.1 * P.cellsOf e + q.2), none⟩ = some v ∧ PRel w (fun _ => False) x v := by
                intro q
                cases hq : P5 (C4 (elems.map (·.1))) q.1 q.2 with
                | none => exact ⟨undef, fun x hx => by cases hx⟩
                | some x =>
                  unfold P5 at hq
                  obtain ⟨row, hr1, hr2⟩ := Option.bind_eq_some_iff.mp hq
                  rw [hrg] at hr1
                  obtain ⟨y, hy, rfl⟩ := Option.map_eq_some_iff.mp hr1
                  obtain ⟨rc, hrc, ⟨l1, l2⟩, _⟩ := hrow q.1 y hy
                  obtain ⟨d1, d2⟩ := bi hrc
                  have hj : q.2 < rc.length := by have := m6 hr2; omega
                  refine ⟨rc[q.2], fun x' hx' => ?_⟩
                  cases hx'
                  refine ⟨?_, l2 q.2 x rc[q.2] hr2 (by simp)⟩
                  have := d2 q.2 rc[q.2] (by simp)
                  rw [Addr.add_lit, Addr.add_lit] at this
                  rw [← Nat.add_assoc]
                  exact this
              obtain ⟨f, hf⟩ := Classical.axiomOfChoice hf
              have := PRel.sl (w := w) (own := fun _ => False) (C4 (elems.map (·.1))) blk off cap (P.cellsOf e) (fun i j => f (i, j)) (by omega) (by unfold maxLen at hcm; omega) (fun h => h) hb
                (fun row hr => by
                  obtain ⟨i, y, hy, hye⟩ := hmem row hr
                  obtain ⟨rc, hrc, ⟨l1, _⟩, _⟩ := hrow i y hy
                  rw [← hye, l1, (bi hrc).1])
                (fun i j x hx => (hf (i, j) x hx).1) (fun i j x hx => (hf (i, j) x hx).2)
              rwa [hrl] at this
          · obtain ⟨i, y, hy, hye⟩ := hmem row hr
            obtain ⟨rc, hrc, _, q⟩ := hrow i y hy
            rw [← hye]; exact q
      | array n e =>
        simp only [Bool.and_eq_true, beq_iff_eq, List.contains_iff_mem] at hp
        obtain ⟨he, hc⟩ := hp
        obtain ⟨xs, m, hm, rfl, hlen, m1, m2⟩ := DataW.trod_array hu h
        have : m = fuel := by omega
        subst this
        have hrg : ∀ i : Nat, (C4 (xs.map (·.1)))[i]? = (xs[i]?).map fun y => t7 y.1 := by
          intro i; rw [dS]; simp
          cases xs[i]? <;> rfl
        have hrl : (C4 (xs.map (·.1))).length = n := by rw [ae]; simp [m1]
        have hrow : ∀ (i : Nat) y, xs[i]? = some y → LR w (t7 y.1) ((cs.drop (i * P.cellsOf e)).take (P.cellsOf e)) ∧ Ty P m e (t7 y.1) := by
          intro i y hy
          have hi : i < n := by have := m6 hy; omega
          obtain ⟨q1, q2, _⟩ := ih e _ y he ((m2 i hi).trans hy)
          exact ⟨q1, q2⟩
        refine ⟨?_, ⟨C4 (xs.map (·.1)), hrl, by simp only [t7, bA], fun row hr => ?_⟩, hlen⟩
        · simp only [t7, bA]
          have hsum : ∀ m : Nat, (List.replicate m (P.cellsOf e)).foldl (· + ·) 0 = m * P.cellsOf e := by
            intro m
            have hf : ∀ (l : List Nat) (a : Nat), l.foldl (· + ·) a = a + l.foldl (· + ·) 0 := by
              intro l
              induction l with
              | nil => intro a; rfl
              | cons x r ih => intro a; simp only [List.foldl_cons]; rw [ih, ih (0 + x)]; omega
            induction m with
            | zero => simp
            | succ m ih => rw [List.replicate_succ, List.foldl_cons, hf, ih, Nat.succ_mul]; omega
          refine LR.rows _ (List.replicate n (P.cellsOf e)) cs (by simp [hrl]) (by rw [hsum, hlen, hc]) fun i row k hr hk => ?_
          rw [hrg] at hr
          obtain ⟨y, hy, rfl⟩ := Option.map_eq_some_iff.mp hr
          have hi : i < n := by have := m6 hy; omega
          rw [List.getElem?_replicate, if_pos hi] at hk
          cases hk
          rw [List.take_replicate, show min i n = i by omega, hsum]
          exact (hrow i y hy).1
        · obtain ⟨i, hi, rfl⟩ := List.getElem_of_mem hr
          have h1 : (C4 (xs.map (·.1)))[i]? = some ((C4 (xs.map (·.1)))[i]) := List.getElem?_eq_getElem hi
          rw [hrg] at h1
          obtain ⟨y, hy, hye⟩ := Option.map_eq_some_iff.mp h1
          rw [← hye]; exact (hrow i y hy).2
      | struct fs =>
        rw [Bool.and_eq_true, List.all_eq_true, beq_iff_eq] at hp
        obtain ⟨hfs0, hoff⟩ := hp
        have hfs : ∀ f ∈ fs.toList, f.type ∈ S := fun f hf => by simpa using hfs0 f hf
        obtain ⟨xs, m, hm, rfl, hlen, m1, m2⟩ := DataW.trod_struct hu h
        have : m = fuel := by omega
        subst this
        have hrg : ∀ i : Nat, (C4 (xs.map (·.1)))[i]? = (xs[i]?).map fun y => t7 y.1 := by
          intro i; rw [dS]; simp
          cases xs[i]? <;> rfl
        have hrl : (C4 (xs.map (·.1))).length = fs.toList.length := by rw [ae]; simp [m1]
        have hrow : ∀ (i : Nat) y f, xs[i]? = some y → fs.toList[i]? = some f → LR w (t7 y.1) ((cs.drop f.offset).take (P.cellsOf f.type)) ∧ Ty P m f.type (t7 y.1) := by
          intro i y f hy hf
          obtain ⟨q1, q2, _⟩ := ih f.type _ y (hfs f (List.mem_of_getElem? hf)) ((m2 i f (by simpa using hf)).trans hy)
          exact ⟨q1, q2⟩
        have hgen : ∀ (l : List Field) (o tot : Nat), l.foldl (fun (acc : Option Nat) f => acc.bind fun o => if f.offset == o then some (o + P.cellsOf f.type) else none) (some o) = some tot →
            tot = o + (l.map fun f => P.cellsOf f.type).foldl (· + ·) 0 ∧ ∀ (i : Nat) f, l[i]? = some f → f.offset = o + ((l.map fun f => P.cellsOf f.type).take i).foldl (· + ·) 0 := by
          have hf : ∀ (l : List Nat) (a : Nat), l.foldl (· + ·) a = a + l.foldl (· + ·) 0 := by
            intro l
            induction l with
            | nil => intro a; rfl
            | cons x r ih => intro a; simp only [List.foldl_cons]; rw [ih, ih (0 + x)]; omega
          have hnone : ∀ l : List Field, l.foldl (fun (acc : Option Nat) f => acc.bind fun o => if f.offset == o then some (o + P.cellsOf f.type) else none) none = none := by
            intro l; induction l with
            | nil => rfl
            | cons f r ih => simpa using ih
          intro l
          induction l with
          | nil => intro o tot h; simp at h; subst h; simp
          | cons f r ihl =>
            intro o tot h
            simp only [List.foldl_cons, Option.bind_some] at h
            split at h
            · rename_i ho
              obtain ⟨e1, e2⟩ := ihl _ _ h
              refine ⟨by simp only [List.map_cons, List.foldl_cons]; rw [hf]; omega, fun i g hg => ?_⟩
              cases i with
              | zero => simp at hg ho; subst hg; simpa using ho
              | succ i =>
                simp at hg
                have := e2 i g hg
                simp only [List.map_cons, List.take_succ_cons, List.foldl_cons]
                rw [hf]; omega
            · rw [hnone] at h; cases h
        obtain ⟨g1, g2⟩ := hgen fs.toList 0 _ hoff
        refine ⟨?_, ⟨C4 (xs.map (·.1)), by simpa using hrl, by simp only [t7, bA], fun i f row hf hr => ?_⟩, hlen⟩
        · simp only [t7, bA]
          refine LR.rows _ (fs.toList.map fun f => P.cellsOf f.type) cs (by simpa using hrl) (by omega) fun i row k hr hk => ?_
          rw [hrg] at hr
          obtain ⟨y, hy, rfl⟩ := Option.map_eq_some_iff.mp hr
          simp only [List.getElem?_map, Option.map_eq_some_iff] at hk
          obtain ⟨f, hf, rfl⟩ := hk
          have := g2 i f hf
          rw [Nat.zero_add] at this
          rw [← this]
          exact (hrow i y f hy hf).1
        · rw [hrg] at hr
          obtain ⟨y, hy, rfl⟩ := Option.map_eq_some_iff.mp hr
          exact (hrow i y f hy (by simpa using hf)).2
      | _ => simp at hp
end
end
section
open Go Go.ChangeShapes Go.WideShapes Go.RowKit
def sW (P : Program) (t : Nat) : Bool := match P.underlying t with | some (.struct _) | some (.array _ _) => true | _ => false
def dT (P : Program) (t : Nat) (xs : List PV) : AV :=
  if sW P t then .agg (xs.map .p) else match xs with | x :: _ => .p x | [] => .undef
section
variable {P : Program} {G : Nat → Option (List PV)} {H : Type} {enc : TypeId × Value → H}
theorem iG {f : Func} {s : ChangeSpec} {apart fresh handsOn again : Bool} {W W' : World} {args : Array Value} {v : Value} {ds gs : List (DataW H)} {before pa pv : List MemPlace}
    (hW : DataW.Whole enc P f.params.toList s.vars apart W args.toList ds gs before)
    (hres : ∀ (b : Nat) (sp : Nat → Bool) (hd : Bool), DataW.TrodAll enc P W' b sp hd f.resultTypes.toList (v.resultList f.resultTypes.size) (s.fn H (ds ++ gs)).results [])
    (hargs : ∀ sp : Nat → Bool, (∀ p ∈ before, sp p.block = true) → DataW.TrodAll enc P W' 0 sp true f.params.toList args.toList (s.fn H (ds ++ gs)).args pa)
    (hvars : ∀ sp : Nat → Bool, (∀ p ∈ before, sp p.block = true) → DataW.TrodVars enc P W' sp s.vars (s.fn H (ds ++ gs)).vars pv)
    (hps : before = pa ++ pv) (hb : Below W.heap.size W W')
    (hok : ∀ (j : Nat) (t : TypeId) (r : Value), f.resultTypes[j]? = some t → (v.resultList f.resultTypes.size)[j]? = some r → Value.okWide P W' .any 0 t r) :
    s.post enc P f apart fresh handsOn again W args v W' := by
  have hlt : ∀ p ∈ before, p.block < W.heap.size := fun p hp => hW.lt p hp
  have hold : ∀ p ∈ before, (fun b => decide (b < W.heap.size)) p.block = true := fun p hp => by simpa using hlt p hp
  refine ⟨ds, gs, before, [], pa, pv, hW, hres _ _ _, hargs _ hold, hvars _ hold, World.keptBut_mono (fun p hp => ⟨hp, ?_⟩) (hb.frame (· ∈ before)), fun _ => ?_⟩
  · rw [hps, List.mem_append] at hp
    exact Or.inr hp
  · obtain ⟨_, _, _, _, _, hz, hn⟩ := hW
    refine ⟨hok, _, _, ([] ++ pa) ++ pv, ⟨[] ++ pa, pv, trodAll_append (hargs _ (fun _ _ => rfl)) (hres _ _ _), hvars _ (fun _ _ => rfl), rfl, ?_, ?_⟩, ?_⟩
    · intro b off hp
      have hin : MemPlace.cell b off ∈ before := by rw [hps]; simpa using hp
      rw [hb.frozen (hlt _ hin)]
      exact hz b off hin
    · intro ha
      have := hn ha
      rw [hps] at this
      simpa using this
    · intro p hp _
      rw [hps]
      simpa using hp
theorem bB {ι : Nat → Nat × Nat} {k : Nat} : ¬ own ι [] k := fun ⟨b, bk, h, _⟩ => by simp at h
theorem PRel.weak {w : World} {o : Nat → Prop} {x : PV} {v : Value} (h : PRel w (fun _ => False) x v) (ho : ∀ k, ¬ o k) : PRel w o x v :=
  h.mono (Nat.le_refl _) fun k _ _ => ⟨rfl, ho k⟩
theorem sX {W : World} {S : List Nat} (hS : plainB P S = true) {t : Nat} (ht : t ∈ S) {sp : Nat → Bool} {held : Bool} {v : Value} {d : DataW H} {ps : List MemPlace} (hd : DataW.Trod enc P W 0 sp held t v d ps)
    {r : Reach} {b0 : Nat} (hok : Value.okWide P W r b0 t v) (ι : Nat → Nat × Nat) : VRel ι [] W (dT P t (t7 d)) v ∧ ∃ fuel, Ty P fuel t (t7 d) := by
  obtain ⟨fuel, hf⟩ := hd
  obtain ⟨⟨l1, l2⟩, hty, hlen⟩ := rL hS fuel t _ _ ht hf
  refine ⟨?_, fuel, hty⟩
  unfold dT sW
  unfold Value.okWide at hok
  have hpl : dR P S t = true := by
    have : ∀ t ∈ S, dR P S t = true := by simpa [plainB] using hS
    exact this t ht
  unfold dR at hpl
  have agg : ∀ cs, v = .agg cs → VRel ι [] W (.agg ((t7 d).map .p)) v := by
    intro cs hc
    subst hc
    refine .agg _ _ (by simpa [Value.cells] using l1) fun i x u hx hu => ?_
    simp only [List.getElem?_map, Option.map_eq_some_iff] at hx
    obtain ⟨y, hy, rfl⟩ := hx
    exact .p _ _ ((l2 i y u hy (by simpa [Value.cells] using hu)).weak fun _ => bB)
  cases hu : P.underlying t with
  | none => rw [hu] at hpl; simp at hpl
  | some D =>
    rw [hu] at hok hpl
    have one : P.cellsOf t = 1 → (∀ cs, v ≠ .agg cs) → VRel ι [] W (match t7 d with | x :: _ => .p x | [] => .undef) v := by
      intro h1 hna
      have hc : v.cells = #[v] := by cases v <;> first | rfl | exact absurd rfl (hna _)
      rw [hc] at l1 l2
      match hq : t7 d, l1, l2 with
      | [x], l1, l2 => exact .p _ _ ((l2 0 x v rfl rfl).weak fun _ => bB)
      | [], l1, _ => simp at l1
      | _ :: _ :: _, l1, _ => simp at l1
    cases D with
    | struct fs => obtain ⟨cs, hc, _⟩ := hok; simpa using agg cs hc
    | array n e => obtain ⟨cs, hc, _⟩ := hok; simpa using agg cs hc
    | bool => simpa using one (by simpa using hpl) (fun cs e => by subst e; simp [Cell.okWide, hu, Cell.ok] at hok)
    | int k => simpa using one (by simpa using hpl) (fun cs e => by subst e; simp [Cell.okWide, hu, Cell.ok] at hok)
    | string => simpa using one (by simpa using hpl) (fun cs e => by subst e; simp [Cell.okWide, hu, Cell.ok] at hok)
    | slice e =>
      have h1 : P.cellsOf t = 1 := by simp only [Bool.and_eq_true, beq_iff_eq] at hpl; exact hpl.2
      simpa using one h1 (fun cs e => by subst e; simp [Cell.okWide, hu, Cell.ok] at hok)
    | _ => simp at hpl
theorem mg {W : World} {S : List Nat} (hS : plainB P S = true) {sp : Nat → Bool} {held : Bool} {r : Reach} {b0 : Nat} (ι : Nat → Nat × Nat) :
    ∀ (ts : List Nat) (vs : List Value) (ds : List (DataW H)) (ps : List MemPlace), (∀ t ∈ ts, t ∈ S) → DataW.TrodAll enc P W 0 sp held ts vs ds ps →
      (∀ (j : Nat) t v, ts[j]? = some t → vs[j]? = some v → Value.okWide P W r b0 t v) →
      ds.length = ts.length ∧ vs.length = ts.length ∧ (∀ (j : Nat) t v d, ts[j]? = some t → vs[j]? = some v → ds[j]? = some d → VRel ι [] W (dT P t (t7 d)) v ∧ ∃ fuel, Ty P fuel t (t7 d))
  | [], [], [], ps, _, h, _ => ⟨rfl, rfl, fun j t v d ht => by simp at ht⟩
  | t :: ts, v :: vs, d :: ds, ps, hin, h, hok => by
    obtain ⟨p, q, h1, h2, rfl⟩ := h
    obtain ⟨l1, l2, l3⟩ := mg hS ι ts vs ds q (fun t ht => hin t (by simp [ht])) h2 (fun j t v ht hv => hok (j + 1) t v (by simpa using ht) (by simpa using hv))
    refine ⟨by simp [l1], by simp [l2], fun j t' v' d' ht hv hd => ?_⟩
    cases j with
    | zero =>
      simp at ht hv hd
      subst ht; subst hv; subst hd
      exact sX hS (hin t (by simp)) h1 (hok 0 t v rfl rfl) ι
    | succ j => simp at ht hv hd; exact l3 j t' v' d' ht hv hd
  | [], [], _ :: _, _, _, h, _ => h.elim
  | [], _ :: _, _, _, _, h, _ => h.elim
  | _ :: _, [], _, _, _, h, _ => h.elim
  | _ :: _, _ :: _, [], _, _, h, _ => h.elim
theorem jq {W W' : World} (hl : laidOutB P = true) (hb : Below W.heap.size W W') {sp' : Nat → Bool} : ∀ (ts : List Nat) (vs : List Value) (ds : List (DataW H)) (ps : List MemPlace),
    (∀ t ∈ ts, P.readableRec t = true ∧ t < P.types.size) → DataW.TrodAll enc P W 0 (fun _ => true) true ts vs ds ps → (∀ p ∈ ps, p.block < W.heap.size) → (∀ p ∈ ps, sp' p.block = true) →
      DataW.TrodAll enc P W' 0 sp' true ts vs ds ps
  | [], [], [], ps, _, h, _, _ => h
  | t :: ts, v :: vs, d :: ds, ps, hin, h, hlt, hsp => by
    obtain ⟨p, q, h1, h2, rfl⟩ := h
    obtain ⟨r1, r2⟩ := hin t (by simp)
    exact ⟨p, q, WideElems.Trod_stays hl r1 r2 h1 (fun x hx => hb.same (hlt x (by simp [hx]))) (fun x hx => hsp x (by simp [hx])),
      jq hl hb ts vs ds q (fun t ht => hin t (by simp [ht])) h2 (fun x hx => hlt x (by simp [hx])) (fun x hx => hsp x (by simp [hx])), rfl⟩
  | [], [], _ :: _, _, _, h, _, _ => h.elim
  | [], _ :: _, _, _, _, h, _, _ => h.elim
  | _ :: _, [], _, _, _, h, _, _ => h.elim
  | _ :: _, _ :: _, [], _, _, h, _, _ => h.elim
theorem law_contract {f : FuncId} {fn : Func} {S : List Nat} (hS : plainB P S = true) (hl : laidOutB P = true) {ts : List Nat} (hts : fn.params.toList = ts) (hin : ∀ t ∈ ts, t ∈ S) (hrd : ∀ t ∈ ts, P.readableRec t = true ∧ t < P.types.size)
    {bt : Nat} (hres : fn.resultTypes = #[bt]) (hbt : P.underlying bt = some .bool)
    {s : ChangeSpec} (hsv : s.vars = []) (hsf : ∀ (H : Type) (ds : List (DataW H)), ds.length = ts.length → s.fn H ds = { results := [.lit (.bool true)], args := ds })
    (hlaw : ∀ xss : List (List PV), xss.length = ts.length → (∀ (j : Nat) t xs, ts[j]? = some t → xss[j]? = some xs → ∃ fuel, Ty P fuel t xs) →
      f9 P G f (List.zipWith (dT P) ts xss) [] fun r h' => r = .b true ∧ h' = [])
    {apart fresh handsOn again : Bool} {W : World} (hG : ∀ g cells, G g = some cells → W0 W (fun _ => False) cells g 0) {base : Nat} {args : Array Value} {ds gs : List (DataW H)} {before : List MemPlace}
    (hval : ∀ (j : Nat) t v, fn.params[j]? = some t → args[j]? = some v → Value.okWide P W .any base t v)
    (hW : DataW.Whole enc P fn.params.toList s.vars apart W args.toList ds gs before) :
    Calls P f args W fun e W' => ∃ v, e = .returned v ∧ s.post enc P fn apart fresh handsOn again W args v W' := by
  have hW' := hW
  obtain ⟨p, q, hA, hV, hps, hfz, hnd⟩ := hW
  rw [hsv] at hV
  obtain ⟨rfl, rfl⟩ := trodVars_none hV
  rw [hts] at hA
  obtain ⟨l1, l2, l3⟩ := mg hS (fun _ => (0, 0)) ts args.toList ds p hin hA (fun j t v ht hv => hval j t v (by rw [← hts] at ht; simpa using ht) (by simpa using hv))
  have hSim : SimH P G (fun _ => (0, 0)) [] W := ⟨⟨fun b bk hb => by simp at hb, fun b b' bk bk' hb => by simp at hb⟩, fun g cells hg => (hG g cells hg).mono (Nat.le_refl _) fun k _ _ => ⟨rfl, bB⟩⟩
  have hcall := hlaw (ds.map t7) (by simp [l1]) (fun j t xs ht hx => by
    simp only [List.getElem?_map, Option.map_eq_some_iff] at hx
    obtain ⟨d, hd, rfl⟩ := hx
    have hj : j < args.toList.length := by have := m6 ht; omega
    exact (l3 j t args.toList[j] d ht (List.getElem?_eq_getElem hj) hd).2) (fun _ => (0, 0)) W args hSim ⟨by simp [l1]; simpa using l2.symm, fun i x v hx hv => by
      simp only [List.getElem?_zipWith, List.getElem?_map] at hx
      cases ht : ts[i]? with
      | none => simp [ht] at hx
      | some t =>
        cases hd : ds[i]? with
        | none => simp [ht, hd] at hx
        | some d =>
          simp [ht, hd] at hx
          rw [← hx]
          exact (l3 i t v d ht (by simpa using hv) hd).1⟩
  refine hcall.mono fun e W' ⟨v, r, h', ι', he, ⟨hr, hh⟩, hS', hv, hev⟩ => ⟨v, he, ?_⟩
  subst hr
  subst hh
  have := hv.bool_inv
  subst this
  have hb : Below W.heap.size W W' := ⟨hev.os, hev.tape, hev.output, hev.size, fun k hk => (hev.keep k hk bB).1⟩
  have hbefore : before = p := by simpa using hps
  have hfn : s.fn H (ds ++ []) = { results := [.lit (.bool true)], args := ds } := by rw [List.append_nil]; exact hsf H ds l1
  have hlt : ∀ x ∈ before, x.block < W.heap.size := fun x hx => hW'.lt x hx
  refine iG (pa := p) (pv := []) hW' (fun b sp hd => ?_) (fun sp hsp => ?_) (fun sp _ => ?_) (by simpa using hps) hb ?_
  · rw [hfn, hres]
    exact trodAll_mk1 (shut_bool hbt true)
  · rw [hfn, hts]
    exact jq hl hb ts args.toList ds p hrd hA (fun x hx => hlt x (by rw [hbefore]; exact hx)) (fun x hx => hsp x (by rw [hbefore]; exact hx))
  · rw [hfn, hsv]; rfl
  · exact ok_one hres rfl (okWide_bool_mk hbt true)
theorem rM {W : World} {S : List Nat} (hS : plainB P S = true) {name : String} {D : DataW Unit} {g0 t0 : Nat} (hg : P.globalNamed name = some g0) (ht : (P.globals[g0]?).map (·.type) = some t0) (hin : t0 ∈ S)
    (hpos : t7 D ≠ []) (h : ∃ g t cs fuel sp held p, P.globalNamed name = some g ∧ (P.globals[g]?).map (·.type) = some t ∧ W.var? P name = some cs ∧ DataW.trod (fun _ => ()) P W 0 sp held fuel t cs.toList = some (D, p)) :
    W0 W (fun _ => False) (t7 D) g0 0 := by
  obtain ⟨g, t, cs, fuel, sp, held, p, e1, e2, e3, e4⟩ := h
  obtain rfl := Option.some.inj (hg.symm.trans e1)
  obtain rfl := Option.some.inj (ht.symm.trans e2)
  obtain ⟨⟨l1, l2⟩, _, _⟩ := rL hS fuel t0 _ _ hin e4
  have hcell : ∀ i : Nat, W.cell? ⟨g0, i, none⟩ = cs[i]? := fun i => World.var?_cell e1 e3 i
  refine ⟨fun h => h, ?_, fun j x hx => ?_⟩
  · have h0 : 0 < cs.toList.length := by
      rw [← l1]; exact List.length_pos_iff.mpr hpos
    have hc : W.cell? ⟨g0, 0, none⟩ = some (cs[0]'(by simpa using h0)) := by rw [hcell]; simp
    exact block_lt_of_cell hc
  · have hj : j < cs.toList.length := Nat.lt_of_lt_of_eq (m6 hx) l1
    refine ⟨cs.toList[j], by rw [Nat.zero_add, hcell]; simp, l2 j x _ hx (by simp)⟩
end
end
section
section
variable {P : Program}
theorem af {k : IntKind} {a b : Nat} {z : Option (List PV)} {t fuel : Nat} {xs : List PV} (ht : l7 P t = some ⟨.int k, a, b, z⟩) (h : Ty P fuel t xs) : ∃ n, E1 k n ∧ xs = [.int k n] := by
  obtain ⟨_, d, _, h2, h3, _⟩ := m5 ht
  have := cC h3; subst this
  cases fuel with
  | zero => exact h.elim
  | succ m => unfold Ty at h; rw [h2] at h; exact h
theorem sY {a b : Nat} {z : Option (List PV)} {t fuel : Nat} {xs : List PV} (ht : l7 P t = some ⟨.bool, a, b, z⟩) (h : Ty P fuel t xs) : ∃ x, xs = [.bool x] := by
  obtain ⟨_, d, _, h2, h3, _⟩ := m5 ht
  have := dx h3; subst this
  cases fuel with
  | zero => exact h.elim
  | succ m => unfold Ty at h; rw [h2] at h; exact h
theorem cX {e a b : Nat} {z : Option (List PV)} {t fuel : Nat} {xs : List PV} (ht : l7 P t = some ⟨.slice e, a, b, z⟩) (h : Ty P fuel t xs) : ∃ (m : Nat) (rows : List (List PV)), fuel = m + 1 ∧ xs = [.sl rows] ∧ ∀ row ∈ rows, Ty P m e row := by
  obtain ⟨_, d, _, h2, h3, _⟩ := m5 ht
  have := J8 h3; subst this
  cases fuel with
  | zero => exact h.elim
  | succ m => unfold Ty at h; rw [h2] at h; obtain ⟨rows, h1, h2⟩ := h; exact ⟨m, rows, rfl, h1, h2⟩
theorem rN {n e a b : Nat} {z : Option (List PV)} {t fuel : Nat} {xs : List PV} (ht : l7 P t = some ⟨.array n e, a, b, z⟩) (h : Ty P fuel t xs) : ∃ (m : Nat) (rows : List (List PV)), fuel = m + 1 ∧ rows.length = n ∧ xs = rows.flatMap id ∧ ∀ row ∈ rows, Ty P m e row := by
  obtain ⟨_, d, _, h2, h3, _⟩ := m5 ht
  have := J9 h3; subst this
  cases fuel with
  | zero => exact h.elim
  | succ m => unfold Ty at h; rw [h2] at h; obtain ⟨rows, h1, h2, h3⟩ := h; exact ⟨m, rows, rfl, h1, h2, h3⟩
theorem X7 {fs : List (Nat × Nat × Nat)} {a b : Nat} {z : Option (List PV)} {t fuel : Nat} {xs : List PV} (ht : l7 P t = some ⟨.struct fs, a, b, z⟩) (h : Ty P fuel t xs) :
    ∃ (m : Nat) (rows : List (List PV)), fuel = m + 1 ∧ rows.length = fs.length ∧ xs = rows.flatMap id ∧ ∀ (i : Nat) f row, fs[i]? = some f → rows[i]? = some row → Ty P m f.2.2 row := by
  obtain ⟨_, d, _, h2, h3, _⟩ := m5 ht
  obtain ⟨F, rfl, h4⟩ := O0 h3
  cases fuel with
  | zero => exact h.elim
  | succ m =>
    unfold Ty at h
    rw [h2] at h
    obtain ⟨rows, g1, g2, g3⟩ := h
    refine ⟨m, rows, rfl, by rw [h4]; simpa using g1, g2, fun i f row hf hr => ?_⟩
    rw [h4] at hf
    simp only [List.getElem?_map, Option.map_eq_some_iff] at hf
    obtain ⟨fd, hfd, rfl⟩ := hf
    exact g3 i fd row (by simpa using hfd) hr
theorem kA {k : IntKind} {a b : Nat} {z : Option (List PV)} {e m : Nat} (ht : l7 P e = some ⟨.int k, a, b, z⟩) : ∀ (rows : List (List PV)), (∀ row ∈ rows, Ty P m e row) → ∃ l : List Int, l.length = rows.length ∧ (∀ n ∈ l, E1 k n) ∧ rows = l.map fun n => [.int k n]
  | [], _ => ⟨[], rfl, by simp, rfl⟩
  | r :: rows, h => by
    obtain ⟨n, hn, rfl⟩ := af ht (h r (by simp))
    obtain ⟨l, h1, h2, h3⟩ := kA ht rows fun row hr => h row (by simp [hr])
    exact ⟨n :: l, by simp [h1], by simpa using ⟨hn, h2⟩, by simp [h3]⟩
theorem qd {k : IntKind} (l : List Int) : (l.map fun n => [PV.int k n]).flatMap id = l.map (.int k) := by
  induction l with
  | nil => rfl
  | cons x r ih => simp only [List.map_cons, List.flatMap_cons, ih]; rfl
theorem dU {k : IntKind} {a b a' b' n e t fuel : Nat} {z z' : Option (List PV)} {xs : List PV} (hta : l7 P t = some ⟨.array n e, a, b, z⟩) (ht : l7 P e = some ⟨.int k, a', b', z'⟩) (h : Ty P fuel t xs) :
    ∃ l : List Int, l.length = n ∧ (∀ x ∈ l, E1 k x) ∧ xs = l.map (.int k) := by
  obtain ⟨m, rows, rfl, h1, rfl, h3⟩ := rN hta h
  obtain ⟨l, g1, g2, g3⟩ := kA ht rows h3
  exact ⟨l, by omega, g2, by rw [g3, qd]⟩
theorem fG {i : TI} {t : Nat} (ht : l7 P t = some i) (xs : List PV) : dT P t xs = if i.isAgg then .agg (xs.map .p) else match xs with | x :: _ => .p x | [] => .undef := by
  obtain ⟨_, d, _, h2, h3, _⟩ := m5 ht
  have : sW P t = i.isAgg := by
    unfold sW TI.isAgg
    rw [h2, ← h3]
    cases d <;> rfl
  unfold dT
  rw [this]
  all_goals (cases xs <;> rfl)
end
end
section
open Go Go.Proofs Go.ChangeShapes Go.WideShapes Go.RowKit
theorem mh : plainB Tryz.prog [3, 9, 146, 147] = true := by kernel_rfl
theorem gW_pin {W : World} (h : laidMetH Tryz.prog [("treenail/term.words", Rows.laid_treenail_term_words)] W) : ∀ g cells, gW g = some cells → W0 W (fun _ => False) cells g 0 := by
  intro g cells hg
  unfold gW at hg
  split at hg
  · rename_i e
    cases hg
    subst e
    rw [MakeChecks.laidMetH_plain _ _ _ (by kernel_rfl)] at h
    obtain ⟨ps, ⟨g0, t0, cs0, f0, p0, q0, hg0, ht0, hv0, hd0, _⟩, _⟩ := h
    have e : t7 (Rows.laid_treenail_term_words : DataW Unit) = gz := by kernel_rfl
    rw [← e]
    exact rM mh (name := "treenail/term.words") (t0 := 147) (by kernel_rfl) (by kernel_rfl) (by decide) (by rw [e]; unfold gz; simp) ⟨g0, t0, cs0, f0, _, _, p0, hg0, ht0, hv0, hd0⟩
  · cases hg
theorem kB : ∀ (fuel : Nat) (xs : List PV), Ty Tryz.prog fuel 68 xs → ∃ t : Tm, xs = eT t
  | 0, xs, h => h.elim
  | fuel + 1, xs, h => by
    obtain ⟨m, rows, e, hl, rfl, hf⟩ := X7 T68 h
    match rows, hl with
    | [r0, r1, r2], _ =>
      have h0 : Ty Tryz.prog m 3 r0 := hf 0 _ r0 rfl rfl
      have h1 : Ty Tryz.prog m 3 r1 := hf 1 _ r1 rfl rfl
      have h2 : Ty Tryz.prog m 66 r2 := hf 2 _ r2 rfl rfl
      obtain ⟨o, _, rfl⟩ := af T3 h0
      obtain ⟨n, _, rfl⟩ := af T3 h1
      obtain ⟨m', rows, e2, rfl, hr⟩ := cX T66 h2
      have key : ∀ rows : List (List PV), (∀ row ∈ rows, Ty Tryz.prog m' 68 row) → ∃ ks : List Tm, rows = ks.map eT := by
        intro rows
        induction rows with
        | nil => intro _; exact ⟨[], rfl⟩
        | cons r rs ih =>
          intro hh
          obtain ⟨t, ht⟩ := kB m' r (hh r (by simp))
          obtain ⟨ks, hks⟩ := ih fun row hrow => hh row (by simp [hrow])
          exact ⟨t :: ks, by rw [ht, hks]; rfl⟩
      obtain ⟨ks, hks⟩ := key rows hr
      refine ⟨.mk o n ks, ?_⟩
      rw [hks]
      simp [eT]
termination_by fuel => fuel
decreasing_by omega
theorem kC {α : Type} {e : α → List PV} {p : List PV → Prop} (h : ∀ row, p row → ∃ a, row = e a) : ∀ rows : List (List PV), (∀ row ∈ rows, p row) → ∃ l : List α, rows = l.map e
  | [], _ => ⟨[], rfl⟩
  | r :: rs, hr => by
    obtain ⟨a, ha⟩ := h r (hr r (by simp))
    obtain ⟨l, hl⟩ := kC h rs fun row hrow => hr row (by simp [hrow])
    exact ⟨a :: l, by rw [ha, hl]; rfl⟩
theorem sZ {fuel : Nat} {xs : List PV} (h : Ty Tryz.prog fuel 70 xs) : ∃ k : Nd, xs = eN k := by
  obtain ⟨m, rows, e, hl, rfl, hf⟩ := X7 T70 h
  match rows, hl with
  | [r0, r1, r2], _ =>
    have h0 : Ty Tryz.prog m 3 r0 := hf 0 _ r0 rfl rfl
    have h1 : Ty Tryz.prog m 3 r1 := hf 1 _ r1 rfl rfl
    have h2 : Ty Tryz.prog m 68 r2 := hf 2 _ r2 rfl rfl
    obtain ⟨o, _, rfl⟩ := af T3 h0
    obtain ⟨n, _, rfl⟩ := af T3 h1
    obtain ⟨t, rfl⟩ := kB _ _ h2
    exact ⟨⟨o, n, t⟩, by simp [eN, n8]⟩
theorem ta {fuel : Nat} {xs : List PV} (h : Ty Tryz.prog fuel 73 xs) : ∃ k : Fl, xs = eF k := by
  obtain ⟨m, rows, e, hl, rfl, hf⟩ := X7 T73 h
  match rows, hl with
  | [r0, r1, r2, r3], _ =>
    have h0 : Ty Tryz.prog m 3 r0 := hf 0 _ r0 rfl rfl
    have h1 : Ty Tryz.prog m 3 r1 := hf 1 _ r1 rfl rfl
    have h2 : Ty Tryz.prog m 4 r2 := hf 2 _ r2 rfl rfl
    have h3 : Ty Tryz.prog m 68 r3 := hf 3 _ r3 rfl rfl
    obtain ⟨o, _, rfl⟩ := af T3 h0
    obtain ⟨n, _, rfl⟩ := af T3 h1
    obtain ⟨b, rfl⟩ := sY T4 h2
    obtain ⟨t, rfl⟩ := kB _ _ h3
    exact ⟨⟨o, n, b, t⟩, by simp [eF, n8]⟩
theorem kD {fuel : Nat} {xs : List PV} (h : Ty Tryz.prog fuel 25 xs) : ∃ (ns : List Nd) (fl : List Fl), dT Tryz.prog 25 xs = N5 ns fl := by
  obtain ⟨m, rows, e, hl, rfl, hf⟩ := X7 T25 h
  match rows, hl with
  | [r0, r1], _ =>
    have h0 : Ty Tryz.prog m 22 r0 := hf 0 _ r0 rfl rfl
    have h1 : Ty Tryz.prog m 23 r1 := hf 1 _ r1 rfl rfl
    obtain ⟨m0, rows0, _, rfl, hr0⟩ := cX T22 h0
    obtain ⟨m1, rows1, _, rfl, hr1⟩ := cX T23 h1
    obtain ⟨ns, rfl⟩ := kC (fun row hrow => sZ hrow) rows0 hr0
    obtain ⟨fl, rfl⟩ := kC (fun row hrow => ta hrow) rows1 hr1
    exact ⟨ns, fl, by rw [fG T25]; rfl⟩
end
section
mutual
def gX : PV → PV → Bool
  | .int k n, .int k' n' => decide (k = k') && decide (n = n')
  | .bool a, .bool b => a == b
  | .str s, .str t => decide (s = t)
  | .nils, .nils => true
  | .nilp, .nilp => true
  | .nilf, .nilf => true
  | .sl r, .sl r' => jr r r'
  | _, _ => false
def gY : List PV → List PV → Bool
  | [], [] => true
  | x :: r, y :: r' => gX x y && gY r r'
  | _, _ => false
def jr : List (List PV) → List (List PV) → Bool
  | [], [] => true
  | x :: r, y :: r' => gY x y && jr r r'
  | _, _ => false
end
mutual
theorem oZ : ∀ (x y : PV), gX x y = true → x = y
  | .int k n, y, h => by cases y <;> simp [gX] at h; rw [h.1, h.2]
  | .bool a, y, h => by cases y <;> simp [gX] at h; rw [h]
  | .str s, y, h => by cases y <;> simp [gX] at h; rw [h]
  | .nils, y, h => by cases y <;> simp [gX] at h; rfl
  | .nilp, y, h => by cases y <;> simp [gX] at h; rfl
  | .nilf, y, h => by cases y <;> simp [gX] at h; rfl
  | .sl r, y, h => by
    cases y with
    | sl r' => simp only [gX] at h; rw [mi r r' h]
    | _ => simp [gX] at h
theorem gZ : ∀ (x y : List PV), gY x y = true → x = y
  | [], y, h => by cases y <;> simp [gY] at h; rfl
  | a :: r, y, h => by
    cases y with
    | nil => simp [gY] at h
    | cons b r' => simp only [gY, Bool.and_eq_true] at h; rw [oZ a b h.1, gZ r r' h.2]
theorem mi : ∀ (x y : List (List PV)), jr x y = true → x = y
  | [], y, h => by cases y <;> simp [jr] at h; rfl
  | a :: r, y, h => by
    cases y with
    | nil => simp [jr] at h
    | cons b r' => simp only [jr, Bool.and_eq_true] at h; rw [gZ a b h.1, mi r r' h.2]
end
mutual
def iI : AV → AV → Bool
  | .p x, .p y => gX x y
  | .agg l, .agg l' => cY l l'
  | .tup l, .tup l' => cY l l'
  | .fn f l, .fn f' l' => decide (f = f') && cY l l'
  | .ref b g o s n, .ref b' g' o' s' n' => decide (b = b') && (decide (g = g') && (decide (o = o') && (decide (s = s') && decide (n = n'))))
  | .ptr b g o, .ptr b' g' o' => decide (b = b') && (decide (g = g') && decide (o = o'))
  | .pin c, .pin c' => gY c c'
  | _, _ => false
def cY : List AV → List AV → Bool
  | [], [] => true
  | x :: r, y :: r' => iI x y && cY r r'
  | _, _ => false
end
mutual
theorem pb : ∀ (x y : AV), iI x y = true → x = y
  | .p x, y, h => by cases y <;> simp [iI] at h; rw [oZ _ _ h]
  | .agg l, y, h => by cases y <;> simp [iI] at h; rw [bj _ _ h]
  | .tup l, y, h => by cases y <;> simp [iI] at h; rw [bj _ _ h]
  | .fn f l, y, h => by cases y <;> simp [iI] at h; rw [h.1, bj _ _ h.2]
  | .ref b g o s n, y, h => by cases y <;> simp [iI] at h; obtain ⟨rfl, rfl, rfl, rfl, rfl⟩ := h; rfl
  | .ptr b g o, y, h => by cases y <;> simp [iI] at h; obtain ⟨rfl, rfl, rfl⟩ := h; rfl
  | .pin c, y, h => by cases y <;> simp [iI] at h; rw [gZ _ _ h]
theorem bj : ∀ (x y : List AV), cY x y = true → x = y
  | [], y, h => by cases y <;> simp [cY] at h; rfl
  | a :: r, y, h => by
    cases y with
    | nil => simp [cY] at h
    | cons b r' => simp only [cY, Bool.and_eq_true] at h; rw [pb a b h.1, bj r r' h.2]
end
def N7 : Heap → Heap → Bool
  | [], [] => true
  | none :: r, none :: r' => N7 r r'
  | some ⟨g, c⟩ :: r, some ⟨g', c'⟩ :: r' => decide (g = g') && (cY c c' && N7 r r')
  | _, _ => false
theorem X8 : ∀ (x y : Heap), N7 x y = true → x = y
  | [], y, h => by cases y <;> simp [N7] at h; rfl
  | none :: r, y, h => by
    match y, h with
    | none :: r', h => simp only [N7] at h; rw [X8 r r' h]
    | some _ :: r', h => simp [N7] at h
    | [], h => simp [N7] at h
  | some ⟨g, c⟩ :: r, y, h => by
    match y, h with
    | some ⟨g', c'⟩ :: r', h =>
      simp only [N7, Bool.and_eq_true, decide_eq_true_eq] at h
      rw [h.1, bj c c' h.2.1, X8 r r' h.2.2]
    | none :: r', h => simp [N7] at h
    | [], h => simp [N7] at h
mutual
def hM (m : Nat) : AV → Bool
  | .p _ => true
  | .agg l => cn m l
  | .tup l => cn m l
  | .fn _ l => cn m l
  | .ref b _ _ _ _ => decide (b < m)
  | .ptr b _ _ => decide (b < m)
  | .pin _ => true
def cn (m : Nat) : List AV → Bool
  | [] => true
  | x :: r => hM m x && cn m r
end
mutual
theorem rO {m : Nat} : ∀ x : AV, hM m x = true → AVlt m x
  | .p x, _ => .p x
  | .agg l, h => .agg l (X9 l (by simpa [hM] using h))
  | .tup l, h => .tup l (X9 l (by simpa [hM] using h))
  | .fn f l, h => .fn f l (X9 l (by simpa [hM] using h))
  | .ref b g o s n, h => .ref b g o s n (by simpa [hM] using h)
  | .ptr b g o, h => .ptr b g o (by simpa [hM] using h)
  | .pin c, _ => .pin c
theorem X9 {m : Nat} : ∀ l : List AV, cn m l = true → ∀ x ∈ l, AVlt m x
  | [], _ => fun x hx => by simp at hx
  | y :: r, h => fun x hx => by
    simp only [cn, Bool.and_eq_true] at h
    rcases List.mem_cons.mp hx with e | e
    · rw [e]; exact rO y h.1
    · exact X9 r h.2 x e
end
def fx {α β : Type} (f : α → Option β) : List α → Option (List β)
  | [] => some []
  | x :: r => match f x, fx f r with
    | some y, some ys => some (y :: ys)
    | _, _ => none
def dV (h : Heap) (n : Nat) : Nat → AV → Option PV
  | 0, x => match x with
    | .p .nils => some (.sl [])
    | .p x => some x
    | _ => none
  | fuel + 1, x => match x with
    | .p .nils => some (.sl [])
    | .p x => some x
    | .ref b g off sz len =>
      if len = 0 then some (.sl []) else
      match t4 h b g with
      | some cells => if n ≤ b ∧ off + len * sz ≤ cells.length then (fx (dV h n fuel) ((cells.drop off).take (len * sz))).map fun l => .sl (B5 sz len l) else none
      | none => none
    | _ => none
theorem hN {h : Heap} {n fuel : Nat} (hp : ∀ x, pur h n fuel x = dV h n fuel x) : ∀ l, I2 h n fuel l = fx (dV h n fuel) l
  | [] => by unfold I2 fx; rfl
  | x :: r => by unfold I2 fx; rw [hp x, hN hp r]; cases dV h n fuel x <;> cases fx (dV h n fuel) r <;> rfl
theorem pc (h : Heap) (n : Nat) : ∀ fuel x, pur h n fuel x = dV h n fuel x := by
  intro fuel
  induction fuel with
  | zero =>
    intro x
    cases x with
    | p y => cases y <;> (unfold pur dV; rfl)
    | _ => unfold pur dV; rfl
  | succ fuel ih =>
    intro x
    cases x with
    | p y => cases y <;> (unfold pur dV; rfl)
    | ref b g off sz len =>
      unfold pur dV
      dsimp only
      by_cases h0 : len = 0
      · rw [if_pos h0, if_pos h0]
      · rw [if_neg h0, if_neg h0]
        cases hb : t4 h b g with
        | none => rfl
        | some cells =>
          dsimp only
          rw [hN ih]
    | _ => unfold pur dV; rfl
def bl (h : Heap) (n : Nat) : AV → Option AV
  | .agg cells => (fx (dV h n 5) cells).map fun l => .agg (l.map .p)
  | .ptr b g off => if b < n then some (.ptr b g off) else none
  | x => (dV h n 5 x).map .p
theorem js (h : Heap) (n : Nat) (x : AV) : D8 h n x = bl h n x := by
  cases x with
  | agg cells => unfold D8 bl; dsimp only; rw [hN (pc h n 5)]
  | ptr b g off => rfl
  | _ => unfold D8 bl; dsimp only; rw [pc]
def kE (h : Heap) (n : Nat) : AV → Option AV
  | .tup vs => (fx (bl h n) vs).map .tup
  | x => bl h n x
theorem pd (h : Heap) (n : Nat) : ∀ l, D3 h n l = fx (bl h n) l
  | [] => by unfold D3 fx; rfl
  | x :: r => by unfold D3 fx; rw [js, pd h n r]; cases bl h n x <;> cases fx (bl h n) r <;> rfl
theorem qe (h : Heap) (n : Nat) (x : AV) : F2 h n x = kE h n x := by
  cases x with
  | tup vs => unfold F2 kE; dsimp only; rw [pd]
  | _ => unfold F2 kE; exact js h n _
section
variable (P : Program) (G : Nat → Option (List PV)) (rl : List String)
abbrev P7 := FuncId → List AV → Heap → Option (AV × Heap)
def mj (call : P7) (o : Oper) (s : St) : Option (AV × Heap) :=
  match z5 o with
  | some (f, args) =>
    match r4 G s f, F9 (r4 G s) args.toList with
    | some (.fn g caps), some xs => call g (xs ++ caps) s.heap
    | _, _ => none
  | none => opA P rl o (r4 G s) s.heap
def rOp (call : P7) (ops : Array Oper) (o : Oper) (s : St) : Option St :=
  match H9 ops o s with
  | some true => match mj P G rl call o s with
    | some (r, h') => some (({ s with heap := h' } : St).put o.dst r)
    | none => none
  | some false => some (s.put o.dst .undef)
  | none => none
def qf (call : P7) (ops : Array Oper) : List Oper → St → Option St
  | [], s => some s
  | o :: rest, s => match rOp P G rl call ops o s with
    | some s1 => qf call ops rest s1
    | none => none
def uE (call : P7) (ops : Array Oper) (o : Oper) (s : St) : Option St :=
  match H9 ops o s with
  | some true => match mj P G rl call o s with
    | some (r, h') => if N7 h' s.heap then some (s.put o.dst r) else none
    | none => none
  | some false => some (s.put o.dst .undef)
  | none => none
def ml (call : P7) (ops : Array Oper) : List Oper → St → Option St
  | [], s => some s
  | o :: rest, s => match uE P G rl call ops o s with
    | some s1 => ml call ops rest s1
    | none => none
def hO : List (List PV) → List Heap
  | [] => [[]]
  | z :: rest => (hO rest).flatMap fun R => [some ⟨0, []⟩ :: R, some ⟨1, z.map .p⟩ :: R]
def nP (o : Oper) : Bool := match o.op with | .build _ _ | .buildSlice _ _ _ | .binOp _ _ _ _ _ | .unOp _ _ _ | .makeFunc _ _ _ | .index _ _ _ | .field _ _ _ => true | _ => false
def rP (o : Oper) (fr : Nat → Option AV) (nt : Nat) : Option AV :=
  (opA P rl o (r4 G ⟨fr, nt, []⟩) []).bind fun q => if q.2.isEmpty then some q.1 else none
def rQ (call : P7) (o : Oper) (fr : Nat → Option AV) (nt : Nat) (hp : Heap) (cs : List Heap) : Option AV :=
  match o.op with
  | .load t a => (r4 G ⟨fr, nt, hp⟩ a).bind fun x => aL P hp t x
  | .indexAddr t a i => (r4 G ⟨fr, nt, hp⟩ a).bind fun x => (r4 G ⟨fr, nt, hp⟩ i).bind fun y => A3 P hp t x y
  | .call ⟨.value f, args, _⟩ => match r4 G ⟨fr, nt, hp⟩ f, F9 (r4 G ⟨fr, nt, hp⟩) args.toList, cs with
    | some (.fn g caps), some xs, R0 :: _ => match call g (xs ++ caps) (hp ++ R0) with
      | some (v, _) => if cs.all (fun R => match call g (xs ++ caps) (hp ++ R) with | some (v', h') => iI v' v && N7 h' (hp ++ R) | none => false) then some v else none
      | none => none
    | _, _, _ => none
  | _ => if nP o then rP P G rl o fr nt else none
def jt (o : Oper) (fr : Nat → Option AV) (nt : Nat) : Option AV :=
  (opA P rl o (r4 G ⟨fr, nt, []⟩) []).bind fun q => if q.2.isEmpty then some q.1 else none
def ju (call : P7) (ops : Array Oper) : List Nat → St → Option St
  | [], s => some s
  | k :: rest, s => match ops.toList[k]? with
    | none => none
    | some o =>
      if r6 o then none
      else if I1 o then (match rOp P G rl call ops o s with
        | some s1 => ju call ops rest s1
        | none => none)
      else if y5 o && (H9 ops o s == some true) then
        (match jt P G rl o s.fr s.nt with
        | some v => ju call ops rest (s.put o.dst v)
        | none => none)
      else none
def hP (call : P7) (ops : Array Oper) (fs : List Nat) (nt : Nat) (hp : Heap) (cs : List Heap) : List Nat → (Nat → Option AV) → Heap → Option St
  | [], fr, R => some ⟨fr, nt, hp ++ R⟩
  | k :: rest, fr, R => match ops.toList[k]? with
    | none => none
    | some o =>
      if r6 o then
        (match u9 P o, R[y3 ops k]?, o.dst with
        | some z, some (some ⟨0, []⟩), some d => if d < nt then hP call ops fs nt hp cs rest (upd fr d (.ptr (hp.length + y3 ops k) 1 0)) (R.set (y3 ops k) (some ⟨1, z.map .p⟩)) else none
        | _, _, _ => none)
      else if I1 o then ju P G rl call ops (k :: rest) ⟨fr, nt, hp ++ R⟩
      else if H9 ops o ⟨fr, nt, hp⟩ == some true then
        (match (if (y5 o || fs.contains k) = true then jt P G rl o fr nt else rQ P G rl call o fr nt hp cs), o.dst with
        | some v, some d => if d < nt then hP call ops fs nt hp cs rest (upd fr d v) R else none
        | _, _ => none)
      else none
def bC (o : Oper) : Bool := match o.op with | .load _ _ | .indexAddr _ _ _ => true | _ => false
def pe (ops : Array Oper) : List Nat := (List.range ops.size).filter fun k => match ops.toList[k]? with | some o => bC o | none => false
def mn (step : St → Option (Exit × St)) : Nat → St → Option (Exit × St)
  | 0, _ => none
  | n + 1, s => match step s with
    | some (.normal, s1) => mn step n s1
    | r => r
def K8 (call : P7) (F : Nat) : Code → St → Option (Exit × St)
  | .skip, s => some (.normal, s)
  | .label _, s => some (.normal, s)
  | .region _ ops draw, s =>
    if draw then (if Region.lexB .any ops && (ops.toList.all fun o => !I1 o) then (ml P G rl call ops ops.toList s).map fun s1 => (.normal, s1)
      else if dD .any ops [] (List.range ops.size) (Array.replicate ops.size false) then (hP P G rl call ops [] s.nt s.heap (hO (zsB P ops)) (List.range ops.size) s.fr (List.replicate (zsB P ops).length (some ⟨0, []⟩))).map fun s1 => (.normal, s1)
      else if dD .any ops (pe ops) (List.range ops.size) (Array.replicate ops.size false) then (hP P G rl call ops (pe ops) s.nt s.heap (hO (zsB P ops)) (List.range ops.size) s.fr (List.replicate (zsB P ops).length (some ⟨0, []⟩))).map fun s1 => (.normal, s1) else none)
    else (qf P G rl call ops ops.toList s).map fun s1 => (.normal, s1)
  | .seq a b, s => match K8 call F a s with
    | some (.normal, s1) => K8 call F b s1
    | r => r
  | .cond c x y, s => match r4 G s c with
    | some (.p (.bool true)) => K8 call F x s
    | some (.p (.bool false)) => K8 call F y s
    | _ => none
  | .block id c, s => match K8 call F c s with
    | some (.exit i, s1) => if i = id then some (.normal, s1) else some (.exit i, s1)
    | r => r
  | .loop c, s => mn (K8 call F c) F s
  | .exit id, s => some (.exit id, s)
  | .ret, s => some (.ret, s)
  | _, _ => none
def jv (h0 : Heap) (n : Nat) : Heap → Nat → Bool
  | [], _ => true
  | none :: r, i => jv h0 n r (i + 1)
  | some bk :: r, i => ((match h0[i]? with | some (some bk') => N7 [some bk'] [some bk] | _ => false) || cn n bk.cells) && jv h0 n r (i + 1)
def tb (rs : List ResultVar) (h : Heap) (s : St) : Option (AV × Heap) :=
  match Q6 P s rs with
  | some r =>
    if h.length ≤ s.heap.length then
      match kE s.heap h.length r with
      | some r' => if jv h h.length (s.heap.take h.length) 0 then some (r', s.heap.take h.length) else some (r, s.heap)
      | none => some (r, s.heap)
    else none
  | none => none
def jw (F : Nat) : Nat → P7
  | 0 => fun _ _ _ => none
  | n + 1 => fun f args h =>
    match P.funcs[f]? with
    | some fn =>
      match fn.body with
      | some c =>
        if fn.name == "runtime.NumGoroutine" then none
        else if args.length ≤ fn.ntmps then
          match K8 P G rl (jw F n) F c (aY args fn.ntmps h) with
          | some (.normal, s) => tb P fn.results.toList h s
          | some (.ret, s) => tb P fn.results.toList h s
          | _ => none
        else none
      | none => none
    | none => none
end
section
variable {P : Program} {G : Nat → Option (List PV)} {rl : List String} {h0 : Heap}
def eW (P : Program) (G : Nat → Option (List PV)) (call : P7) : Prop :=
  ∀ f args h r h', call f args h = some (r, h') → j5 P f ∧ f9 P G f args h fun r0 h1 => r0 = r ∧ h1 = h'
variable {call : P7}
theorem mo (hc : eW P G call) {o : Oper} {s : St} {r : AV} {h' : Heap} (h : mj P G rl call o s = some (r, h')) {K : St → Prop} (hk : K (({ s with heap := h' } : St).put o.dst r)) : P9 P G rl o K s := by
  unfold mj at h
  unfold P9
  split at h
  · rename_i f args e
    rw [e]
    dsimp only
    split at h
    · rename_i g caps xs e1 e2
      rw [e1, e2]
      obtain ⟨h1, h2⟩ := hc _ _ _ _ _ h
      exact ⟨h1, h2.mono fun r0 h1 ⟨a, b⟩ => by subst a; subst b; exact hk⟩
    · cases h
  · rename_i e
    rw [e]
    dsimp only
    rw [h]
    exact hk
theorem co (hc : eW P G call) {ops : Array Oper} : ∀ (l : List Oper) (s s' : St), qf P G rl call ops l s = some s' → ∀ K : St → Prop, K s' → q9 P G rl ops K l s
  | [], s, s', h, K, hk => by simp [qf] at h; subst h; exact hk
  | o :: rest, s, s', h, K, hk => by
    unfold qf at h
    split at h
    · rename_i s1 e
      have ih := co hc rest s1 s' h K hk
      unfold rOp at e
      show aop P G rl ops o (q9 P G rl ops K rest) s
      unfold aop
      split at e
      · rename_i hw
        rw [hw]
        split at e
        · rename_i r h' hx
          cases e
          exact ⟨fun _ => mo hc hx ih, fun e => (by cases e)⟩
        · cases e
      · rename_i hw
        rw [hw]
        cases e
        exact ⟨fun e => (by cases e), fun _ => ih⟩
      · cases e
    · cases h
theorem eY (hc : eW P G call) {ops : Array Oper} : ∀ (l : List Oper) (s s' : St), ml P G rl call ops l s = some s' → ∀ K : St → Prop, K s' → m7 P G rl ops K l s
  | [], s, s', h, K, hk => by simp [ml] at h; subst h; exact hk
  | o :: rest, s, s', h, K, hk => by
    unfold ml at h
    split at h
    · rename_i s1 e
      have ih := eY hc rest s1 s' h K hk
      unfold uE at e
      show aG P G rl ops o (m7 P G rl ops K rest) s
      unfold aG
      split at e
      · rename_i hw
        rw [hw]
        split at e
        · rename_i r h' hx
          split at e
          · rename_i hq
            cases e
            have := X8 _ _ hq
            subst this
            refine ⟨fun _ => ?_, fun e => (by cases e)⟩
            unfold mj at hx
            unfold bY
            split at hx
            · rename_i f args e
              rw [e]
              dsimp only
              split at hx
              · rename_i g caps xs e1 e2
                rw [e1, e2]
                obtain ⟨h1, h2⟩ := hc _ _ _ _ _ hx
                exact ⟨h1, r, h2, ih⟩
              · cases hx
            · rename_i e
              rw [e]
              dsimp only
              rw [hx]
              exact ⟨rfl, ih⟩
          · cases e
        · cases e
      · rename_i hw
        rw [hw]
        cases e
        exact ⟨fun e => (by cases e), fun _ => ih⟩
      · cases e
    · cases h
theorem qh {hp R : Heap} {b g : Nat} {cells : List AV} (hc : t4 hp b g = some cells) : t4 (hp ++ R) b g = some cells := by
  unfold t4 at *
  have hlt : b < hp.length := by
    rcases Nat.lt_or_ge b hp.length with hl | hl
    · exact hl
    · rw [List.getElem?_eq_none hl] at hc; cases hc
  rw [List.getElem?_append_left hlt]; exact hc
theorem jx {hp R : Heap} {t : Nat} {x v : AV} (h : aL P hp t x = some v) : aL P (hp ++ R) t x = some v := by
  unfold aL at *
  split at h
  · rename_i i b g off ht
    obtain ⟨cells, hc, hv⟩ := Option.bind_eq_some_iff.mp h
    have : t4 (hp ++ R) b g = some cells := by
      unfold t4 at *
      have hlt : b < hp.length := by
        rcases Nat.lt_or_ge b hp.length with hl | hl
        · exact hl
        · rw [List.getElem?_eq_none hl] at hc; cases hc
      rw [List.getElem?_append_left hlt]; exact hc
    simp only [this, Option.bind_some, hv]
  · exact h
  · cases h
theorem H2 {fr : Nat → Option AV} {nt : Nat} {H H' : Heap} (x : Operand) : r4 G ⟨fr, nt, H⟩ x = r4 G ⟨fr, nt, H'⟩ x := by cases x <;> rfl
theorem jy : ∀ (zs : List (List PV)) (R : Heap), R.length = zs.length → (∀ (j : Nat) (z : List PV), zs[j]? = some z → R[j]? = some (some ⟨0, []⟩) ∨ R[j]? = some (some ⟨1, z.map .p⟩)) → R ∈ hO zs
  | [], R, hl, _ => by simp [hO]; exact List.eq_nil_of_length_eq_zero (by simpa using hl)
  | z :: rest, R, hl, h => by
    match R, hl, h with
    | b :: R', hl, h =>
      have ih := jy rest R' (by simpa using hl) fun j y hy => by simpa using h (j + 1) y (by simpa using hy)
      simp only [hO, List.mem_flatMap]
      refine ⟨R', ih, ?_⟩
      rcases h 0 z rfl with h0 | h0
      · simp at h0; subst h0; simp
      · simp at h0; subst h0; simp
theorem eZ {ops : Array Oper} {o : Oper} {fr : Nat → Option AV} {nt : Nat} {H0 : Heap} {v : AV} (hf : y5 o = true) (hw : H9 ops o ⟨fr, nt, H0⟩ = some true) (h : jt P G rl o fr nt = some v) : S3 P G rl ops o v ⟨fr, nt, H0⟩ := fun H => by
  have hev : r4 G ⟨fr, nt, []⟩ = r4 G ⟨fr, nt, H⟩ := funext fun x => H2 x
  refine .inl ⟨hw, ?_⟩
  unfold jt at h
  obtain ⟨q, hq, h⟩ := Option.bind_eq_some_iff.mp h
  split at h
  · rename_i hem
    cases h
    obtain ⟨q1, q2⟩ := q
    have : q2 = [] := by simpa using hem
    subst this
    have hcall : z5 o = none := by
      unfold y5 at hf; unfold z5
      split <;> simp_all
    unfold AQ
    rw [hcall]
    dsimp only
    rw [← hev]
    exact lr (H' := H) hf hq
  · cases h
theorem hQ {hp R : Heap} {t : Nat} {x ix v : AV} (h : A3 P hp t x ix = some v) : A3 P (hp ++ R) t x ix = some v := by
  cases x with
  | ref b g off sz len =>
    by_cases hs : (t4 hp b g).isSome = true
    · obtain ⟨cs, hcs⟩ := Option.isSome_iff_exists.mp hs
      have e : (t4 (hp ++ R) b g).isSome = (t4 hp b g).isSome := by rw [qh hcs, hcs]
      rw [← h]
      unfold A3
      simp only [e]
    · exfalso
      unfold A3 at h
      simp only [hs, Bool.false_eq_true, and_false, if_false] at h
      split at h
      · split at h <;> cases h
      · cases h
      · cases h
  | p y => cases y <;> exact h
  | _ => exact h
theorem hY {H : Heap} {t : Nat} {x ix v : AV} (h : A3 P [] t x ix = some v) : A3 P H t x ix = some v := by
  cases x with
  | ref b g off sz len =>
    unfold A3 at h
    split at h
    · split at h <;> cases h
    · simp only [t4, List.getElem?_nil, Option.isSome_none, Bool.false_eq_true, and_false, if_false] at h
      cases h
    · cases h
  | p y => cases y <;> exact h
  | _ => exact h
theorem qi {o : Oper} (hf : bC o = true) {ρ : Operand → Option AV} {H' : Heap} {v : AV} (h : opA P rl o ρ [] = some (v, [])) : opA P rl o ρ H' = some (v, H') := by
  obtain ⟨dst, op, type, pos, after, guard⟩ := o
  cases op with
  | load t a =>
    simp only [opA] at *
    obtain ⟨x, hx, he⟩ := Option.bind_eq_some_iff.mp h
    obtain ⟨y, hy, he⟩ := Option.map_eq_some_iff.mp he
    cases he
    rw [hx]
    have : aL P H' t x = some v := by
      have := jx (R := H') hy
      simpa using this
    simp only [Option.bind_some, this, Option.map_some]
  | indexAddr t a i =>
    simp only [opA] at *
    split at h
    · rename_i x i' hx hi
      obtain ⟨y, hy, he⟩ := Option.map_eq_some_iff.mp h
      cases he
      simp only [hx, hi, hY hy, Option.map_some]
    · cases h
  | _ => cases hf
theorem kF {ops : Array Oper} {o : Oper} {fr : Nat → Option AV} {nt : Nat} {H0 : Heap} {v : AV} (hf : y5 o = true ∨ bC o = true) (hw : H9 ops o ⟨fr, nt, H0⟩ = some true) (h : jt P G rl o fr nt = some v) : S3 P G rl ops o v ⟨fr, nt, H0⟩ := by
  rcases hf with hf | hf
  · exact eZ hf hw h
  intro H
  have hev : r4 G ⟨fr, nt, []⟩ = r4 G ⟨fr, nt, H⟩ := funext fun x => H2 x
  refine .inl ⟨hw, ?_⟩
  unfold jt at h
  obtain ⟨q, hq, h⟩ := Option.bind_eq_some_iff.mp h
  split at h
  · rename_i hem
    cases h
    obtain ⟨q1, q2⟩ := q
    have : q2 = [] := by simpa using hem
    subst this
    have hcall : z5 o = none := by
      unfold bC at hf; unfold z5
      split <;> simp_all
    unfold AQ
    rw [hcall]
    dsimp only
    rw [← hev]
    exact qi (H' := H) hf hq
  · cases h
theorem mq {ops : Array Oper} (k : Nat) (o : Oper) (hk : (pe ops).contains k = true) (ho : ops.toList[k]? = some o) : bC o = true := by
  unfold pe at hk
  rw [List.contains_iff_mem, List.mem_filter] at hk
  have := hk.2
  rw [ho] at this
  exact this
theorem qj {o : Oper} (hf : nP o = true) {ρ : Operand → Option AV} {H' : Heap} {v : AV} (h : opA P rl o ρ [] = some (v, [])) : opA P rl o ρ H' = some (v, H') := by
  obtain ⟨dst, op, type, pos, after, guard⟩ := o
  cases op with
  | build t parts =>
    simp only [opA] at *
    split at h
    · split at h
      · rename_i hc
        obtain ⟨cs, hcs, he⟩ := Option.map_eq_some_iff.mp h
        cases he
        rw [if_pos hc, hcs]; rfl
      · cases h
    · split at h
      · rename_i hc
        obtain ⟨cs, hcs, he⟩ := Option.map_eq_some_iff.mp h
        cases he
        rw [if_pos hc, hcs]; rfl
      · cases h
    · cases h
  | buildSlice t len parts =>
    simp only [opA] at *
    split at h
    · rename_i e _ _ _ ht
      split at h
      · rename_i k size by' z he
        split at h
        · rename_i hc
          split at h
          · rename_i cs hcs
            rw [if_pos hc]
            split at h
            · rename_i h0
              cases h
              simp only [h0, if_true]
            · rename_i h0
              simp only [h0, if_false]
              split at h
              · simp at h
              · rename_i hr
                obtain ⟨l, hl, hq⟩ := Option.map_eq_some_iff.mp h
                cases hq
                rw [if_neg hr, hl]; rfl
          · cases h
        · cases h
      · cases h
    · cases h
  | binOp op t x y m =>
    simp only [opA] at *
    split at h
    · rename_i x' y' hx hy
      obtain ⟨r, hr, he⟩ := Option.map_eq_some_iff.mp h
      cases he
      simp only [hx, hy, hr, Option.map_some]
    · cases h
  | unOp op t x =>
    simp only [opA] at *
    obtain ⟨x', hx, h⟩ := Option.bind_eq_some_iff.mp h
    obtain ⟨r, hr, he⟩ := Option.map_eq_some_iff.mp h
    cases he
    simp only [hx, hr, Option.bind_some, Option.map_some]
  | makeFunc f first captured =>
    cases f with
    | func f =>
      simp only [opA] at *
      split at h
      · rename_i hc
        obtain ⟨r, hr, he⟩ := Option.map_eq_some_iff.mp h
        cases he
        rw [if_pos hc, hr]; rfl
      · cases h
    | _ => simp only [opA] at h; cases h
  | index t x ix =>
    simp only [opA] at *
    split at h
    · rename_i x' y' hx hy
      obtain ⟨r, hr, he⟩ := Option.map_eq_some_iff.mp h
      cases he
      simp only [hx, hy, hr, Option.map_some]
    · cases h
  | field t x f =>
    simp only [opA] at *
    obtain ⟨x', hx, h⟩ := Option.bind_eq_some_iff.mp h
    obtain ⟨r, hr, he⟩ := Option.map_eq_some_iff.mp h
    cases he
    simp only [hx, hr, Option.bind_some, Option.map_some]
  | _ => cases hf
theorem mr (hc : eW P G call) {ops : Array Oper} {o : Oper} {fr : Nat → Option AV} {nt : Nat} {hp : Heap} {v : AV} {cs : List Heap} (hw : H9 ops o ⟨fr, nt, hp⟩ = some true) (h : rQ P G rl call o fr nt hp cs = some v) (R : Heap) (hR : R ∈ cs) :
    C0 P G rl ops o v ⟨fr, nt, hp ++ R⟩ := by
  have hev : r4 G ⟨fr, nt, hp⟩ = r4 G ⟨fr, nt, hp ++ R⟩ := funext fun x => H2 x
  refine .inl ⟨hw, ?_⟩
  unfold rQ at h
  split at h
  · rename_i t a ho
    obtain ⟨x, hx, hl⟩ := Option.bind_eq_some_iff.mp h
    unfold AQ z5
    rw [ho]
    dsimp only
    unfold opA
    rw [ho]
    dsimp only
    rw [← H2 (H := hp), hx]
    simp only [Option.bind_some, jx hl, Option.map_some]
  · rename_i t a i ho
    obtain ⟨x, hx, hl⟩ := Option.bind_eq_some_iff.mp h
    obtain ⟨y, hy, hl⟩ := Option.bind_eq_some_iff.mp hl
    unfold AQ z5
    rw [ho]
    dsimp only
    unfold opA
    rw [ho]
    dsimp only
    rw [← H2 (H := hp), hx, ← H2 (H := hp), hy]
    simp only [hQ hl, Option.map_some]
  · rename_i f args ats ho
    split at h
    · rename_i g caps xs R0 rest hf hxs
      split at h
      · rename_i v0 h0 hq
        split at h
        · rename_i hall
          cases h
          have hr := List.all_eq_true.mp hall R hR
          split at hr
          · rename_i v' h' hq'
            simp only [Bool.and_eq_true] at hr
            have e1 := pb _ _ hr.1
            have e2 := X8 _ _ hr.2
            subst e1; subst e2
            obtain ⟨c1, c2⟩ := hc _ _ _ _ _ hq'
            unfold AQ z5
            rw [ho]
            dsimp only
            exact ⟨g, caps, xs, by rw [← H2 (H := hp)]; exact hf, by rw [← hev]; exact hxs, c1, c2⟩
          · cases hr
        · cases h
      · cases h
    · cases h
  · split at h
    · rename_i hf
      unfold rP at h
      obtain ⟨q, hq, h⟩ := Option.bind_eq_some_iff.mp h
      split at h
      · rename_i hem
        cases h
        obtain ⟨q1, q2⟩ := q
        have : q2 = [] := by simpa using hem
        subst this
        have hcall : z5 o = none := by
          unfold nP at hf; unfold z5
          split <;> simp_all
        have he0 : r4 G ⟨fr, nt, []⟩ = r4 G ⟨fr, nt, hp ++ R⟩ := funext fun x => H2 x
        unfold AQ
        rw [hcall]
        dsimp only
        rw [← he0]
        exact qj (H' := hp ++ R) hf hq
      · cases h
    · cases h
theorem bm (hc : eW P G call) {ops : Array Oper} : ∀ (l : List Nat) (s s' : St), ju P G rl call ops l s = some s' → ∀ K : St → Prop, K s' → q8 P G rl ops K l s
  | [], s, s', h, K, hk => by simp [ju] at h; subst h; exact hk
  | k :: rest, s, s', h, K, hk => by
    unfold ju at h
    split at h
    · cases h
    · rename_i o ho
      have ho' : ops[k]? = some o := by rw [← Array.getElem?_toList]; exact ho
      unfold q8
      simp only [ho']
      split at h
      · cases h
      · rename_i ha
        split at h
        · rename_i he
          rw [if_pos he]
          split at h
          · rename_i s1 h1
            have ih := bm hc rest s1 s' h K hk
            exact ⟨by simpa using ha, co hc [o] s s1 (by unfold qf; rw [h1]; rfl) (q8 P G rl ops K rest) ih⟩
          · cases h
        · rename_i he
          rw [if_neg he]
          split at h
          · rename_i hcond
            simp only [Bool.and_eq_true, beq_iff_eq] at hcond
            split at h
            · rename_i v hv
              exact ⟨hcond.1, v, eZ (H0 := s.heap) hcond.1 hcond.2 hv, bm hc rest _ s' h K hk⟩
            · cases h
          · cases h
theorem V7 (hc : eW P G call) {ops : Array Oper} {fs : List Nat} (hfs : ∀ k o, fs.contains k = true → ops.toList[k]? = some o → bC o = true) {nt : Nat} {hp : Heap} : ∀ (l : List Nat) (fr : Nat → Option AV) (R : Heap) (s' : St), hP P G rl call ops fs nt hp (hO (zsB P ops)) l fr R = some s' → ∀ K : St → Prop, K s' → r5 P G rl ops fs hp.length (zsB P ops).length K l ⟨fr, nt, hp ++ R⟩
  | [], fr, R, s', h, K, hk => by simp [hP] at h; subst h; exact hk
  | k :: rest, fr, R, s', h, K, hk => by
    unfold hP at h
    split at h
    · cases h
    · rename_i o ho
      have ho' : ops[k]? = some o := by rw [← Array.getElem?_toList]; exact ho
      split at h
      · rename_i ha
        split at h
        · rename_i z d hz hs hd
          split at h
          · rename_i hlt
            exact gi ho ha hz hd hlt hs (V7 hc hfs rest _ _ s' h K hk)
          · cases h
        · cases h
      · rename_i ha
        split at h
        · rename_i he
          unfold r5
          simp only [ho']
          rw [if_neg ha, if_pos he]
          exact bm hc _ _ _ h K hk
        · rename_i he
          split at h
          · rename_i hw
            have hw := beq_iff_eq.mp hw
            split at h
            · rename_i v d hv hd
              split at h
              · rename_i hlt
                have ih := V7 hc hfs rest _ _ s' h K hk
                unfold r5
                simp only [ho']
                rw [if_neg ha, if_neg he]
                split at hv
                · rename_i hh
                  rw [if_pos hh]
                  refine ⟨v, kF ((Bool.or_eq_true _ _ ▸ hh).imp id fun e => hfs k o e ho) hw hv, ?_⟩
                  rw [hd]; simp only [St.put, hlt, if_true]; exact ih
                · rename_i hh
                  rw [if_neg hh]
                  refine ⟨v, fun R' hR' => ?_, ?_⟩
                  · have : (hp ++ R).take hp.length = hp := by simp
                    simp only [this]
                    exact mr hc hw hv R' (jy _ R' hR'.1 hR'.2)
                  · rw [hd]; simp only [St.put, hlt, if_true]; exact ih
              · cases h
            · cases h
          · cases h
theorem fa (hc : eW P G call) (F : Nat) : ∀ (c : Code) (s : St) (e : Exit) (s' : St), K8 P G rl call F c s = some (e, s') → ∀ Q : Exit → St → Prop, Q e s' → awp P G rl h0 c Q s := by
  intro c
  induction c with
  | skip => intro s e s' h Q hq; simp only [K8, Option.some.injEq, Prod.mk.injEq] at h; obtain ⟨rfl, rfl⟩ := h; exact hq
  | label l => intro s e s' h Q hq; simp only [K8, Option.some.injEq, Prod.mk.injEq] at h; obtain ⟨rfl, rfl⟩ := h; exact hq
  | region id ops draw =>
    intro s e s' h Q hq
    simp only [K8] at h
    split at h
    · rename_i hd
      subst hd
      split at h
      · rename_i hl
        obtain ⟨s1, h1, h2⟩ := Option.map_eq_some_iff.mp h
        cases h2
        simp only [Bool.and_eq_true] at hl
        exact j4 hl.1 (eY hc _ _ _ h1 _ hq)
      · split at h
        · rename_i hl
          obtain ⟨s1, h1, h2⟩ := Option.map_eq_some_iff.mp h
          cases h2
          exact p6 (List.range ops.size) (zsB P ops).length (by simp) rfl hl (V7 hc (fun k o e => by simp at e) _ _ _ _ h1 _ hq)
        · split at h
          · rename_i hl
            obtain ⟨s1, h1, h2⟩ := Option.map_eq_some_iff.mp h
            cases h2
            exact p6 (List.range ops.size) (zsB P ops).length (by simp) rfl hl (V7 hc mq _ _ _ _ h1 _ hq)
          · cases h
    · rename_i hd
      obtain ⟨s1, h1, h2⟩ := Option.map_eq_some_iff.mp h
      cases h2
      have : draw = false := by simpa using hd
      subst this
      exact a9 (co hc _ _ _ h1 _ hq)
  | seq a b iha ihb =>
    intro s e s' h Q hq
    simp only [K8] at h
    split at h
    · rename_i s1 h1
      exact jX (fun s2 => s2 = s1) (iha s .normal s1 h1 _ ⟨s1, .refl, rfl⟩) fun s2 e2 => by subst e2; exact ihb _ _ _ h _ hq
    · rename_i hn
      refine jX (fun _ => False) (iha s e s' h _ ?_) fun _ hf => hf.elim
      cases e with
      | normal => exact (hn s' h).elim
      | _ => exact hq
  | cond c x y ihx ihy =>
    intro s e s' h Q hq
    simp only [K8] at h
    split at h
    · rename_i hv; exact lB (t := true) hv (fun _ => ihx _ _ _ h _ hq) (fun e => (by cases e))
    · rename_i hv; exact lB (t := false) hv (fun e => (by cases e)) (fun _ => ihy _ _ _ h _ hq)
    · cases h
  | block id c ih =>
    intro s e s' h Q hq
    simp only [K8] at h
    refine b7 ?_
    split at h
    · rename_i i s1 h1
      refine ih _ _ _ h1 _ ?_
      simp only [W2]
      split at h
      · rename_i hi; rw [if_pos hi]; cases h; exact hq
      · rename_i hi; rw [if_neg hi]; cases h; exact hq
    · rename_i hn
      refine ih _ _ _ h _ ?_
      cases e with
      | exit i => exact (hn i s' h).elim
      | _ => exact hq
  | loop c ih =>
    intro s e s' h Q hq
    simp only [K8] at h
    refine aZ (fun n s1 => mn (K8 P G rl call F c) n s1 = some (e, s')) F s .refl h fun n s1 hn => ?_
    cases n with
    | zero => simp [mn] at hn
    | succ n =>
      unfold mn at hn
      split at hn
      · rename_i s2 h2
        exact ih _ _ _ h2 _ ⟨n, s2, Nat.lt_succ_self n, .refl, hn⟩
      · rename_i hno
        refine ih _ _ _ hn _ ?_
        cases e with
        | normal => exact (hno s' hn).elim
        | _ => exact hq
  | exit id => intro s e s' h Q hq; simp only [K8, Option.some.injEq, Prod.mk.injEq] at h; obtain ⟨rfl, rfl⟩ := h; exact hq
  | ret => intro s e s' h Q hq; simp only [K8, Option.some.injEq, Prod.mk.injEq] at h; obtain ⟨rfl, rfl⟩ := h; exact hq
  | _ => intro s e s' h; simp [K8] at h
theorem cp {n : Nat} : ∀ (l : Heap) (i : Nat), jv h0 n l i = true → ∀ (b : Nat) (bk : Blk), l[b]? = some (some bk) → h0[i + b]? = some (some bk) ∨ ∀ x ∈ bk.cells, AVlt n x
  | [], i, _, b, bk, h => by simp at h
  | none :: r, i, hk, b, bk, h => by
    simp only [jv] at hk
    cases b with
    | zero => simp at h
    | succ b =>
      have := cp r (i + 1) hk b bk (by simpa using h)
      rwa [show i + 1 + b = i + (b + 1) by omega] at this
  | some bk0 :: r, i, hk, b, bk, h => by
    simp only [jv, Bool.and_eq_true, Bool.or_eq_true] at hk
    cases b with
    | zero =>
      simp at h
      subst h
      rcases hk.1 with h1 | h1
      · left
        rw [Nat.add_zero]
        split at h1
        · rename_i bk' e
          have := X8 _ _ h1
          simp only [List.cons.injEq, Option.some.injEq, and_true] at this
          rw [e, this]
        · cases h1
      · exact .inr (X9 _ h1)
    | succ b =>
      have := cp r (i + 1) hk.2 b bk (by simpa using h)
      rwa [show i + 1 + b = i + (b + 1) by omega] at this
theorem cq (hm : P.follows .mixedOrders = true) (F : Nat) : ∀ n, eW P G (jw P G rl F n)
  | 0 => fun f args h r h' e => by simp [jw] at e
  | n + 1 => fun f args h r h' e => by
    unfold jw at e
    split at e
    case h_2 => cases e
    rename_i fn hf
    split at e
    case h_2 => cases e
    rename_i c hb
    split at e
    · cases e
    · rename_i hname
      split at e
      case isFalse => cases e
      rename_i hnt
      refine ⟨⟨fn, c, hf, hb, by simpa using hname⟩, ?_⟩
      have fin : ∀ (ex : Exit) (s : St), (ex = .normal ∨ ex = .ret) → K8 P G rl (jw P G rl F n) F c (aY args fn.ntmps h) = some (ex, s) → tb P fn.results.toList h s = some (r, h') → f9 P G f args h fun r0 h1 => r0 = r ∧ h1 = h' := by
        intro ex s hex hrun hend
        unfold tb at hend
        split at hend
        case h_2 => cases hend
        rename_i r1 hr1
        split at hend
        case isFalse => cases hend
        rename_i hlen
        have keepK : r1 = r → s.heap = h' → f9 P G f args h fun r0 h1 => r0 = r ∧ h1 = h' := fun e1 e2 => by
          refine Sim.evoKeep (rl := rl) hm hf hb hnt (fa (cq hm F n) F c _ _ _ hrun _ ⟨hex, hlen, ?_⟩)
          rw [hr1]; exact ⟨e1, e2⟩
        split at hend
        · rename_i r2 hr2
          split at hend
          · rename_i hkept
            cases hend
            have hk := cp _ _ hkept
            refine Z0 (rl := rl) hm hf hb hnt h.length (fa (cq hm F n) F c _ _ _ hrun _ ⟨hex, Nat.le_refl _, hlen, r1, r, hr1, (qe _ _ _).trans hr2, fun b bk hbk => ?_, rfl, rfl⟩)
            have := hk b bk hbk
            rwa [Nat.zero_add] at this
          · cases hend; exact keepK rfl rfl
        · cases hend; exact keepK rfl rfl
      split at e
      · rename_i s hrun; exact fin _ s (.inl rfl) hrun e
      · rename_i s hrun; exact fin _ s (.inr rfl) hrun e
      · cases e
theorem f9.bool_lift {f : FuncId} {b : Bool} (h : f9 P G f [] [] fun r h' => r = .b b ∧ h' = []) (H : Heap) : f9 P G f [] H fun r h' => r = .b b ∧ h' = H := by
  intro ι w vs hS hv
  have hS0 : SimH P G ι [] w := ⟨⟨fun b bk hb => by simp at hb, fun b b' bk bk' hb => by simp at hb⟩, fun g cells hg => (hS.gr g cells hg).mono (Nat.le_refl _) fun k _ _ => ⟨rfl, bB⟩⟩
  refine (h ι w vs hS0 ⟨hv.1, fun i x v hx => by simp at hx⟩).mono ?_
  rintro e w' ⟨v, r, h', ι', he, ⟨rfl, rfl⟩, hS', hvr, hev⟩
  have hvb := hvr.bool_inv
  subst hvb
  have hk : ∀ k, k < w.heap.size → w'.heap[k]? = w.heap[k]? := fun k hk => (hev.keep k hk bB).1
  have hE : Evo H.length ι H w ι H w' := by
    refine ⟨hev.size, fun k hk' ho => ⟨hk k hk', ho⟩, Nat.le_refl _, fun b bk' hb hq => ⟨bk', hq, Nat.le_refl _, fun _ => ⟨rfl, id, fun cs ty fr hc => ?_⟩⟩, hev.os, hev.output, hev.tape⟩
    exact ⟨cs, ty, fr, by rw [hk _ (by have := Array.getElem?_eq_some_iff.mp hc; exact this.1)]; exact hc, rfl⟩
  have hH : HRel ι H w' := by
    refine ⟨fun b bk hb hne => ?_, hS.hr.inj⟩
    obtain ⟨c, ty, hc, hsz, hv⟩ := hS.hr.blk b bk hb hne
    exact ⟨c, ty, by rw [hk _ (Array.getElem?_eq_some_iff.mp hc).1]; exact hc, hsz, fun j x hx => by obtain ⟨v, p1, p2⟩ := hv j x hx; exact ⟨v, p1, p2.evo hE⟩⟩
  exact ⟨_, _, H, ι, he, ⟨rfl, rfl⟩, ⟨hH, fun g cells hg => (hS.gr g cells hg).mono hev.size fun k hk' ho => ⟨hk k hk', ho⟩⟩, .p _ _ (.bool b), hE⟩
end
end
section
theorem Right.event {ns : List Nd} {fl : List Fl} (h : Right ns fl) {i : Nat} (hi : i < ns.length) (hk : u3 ns i = 7) : (p5 fl i).length = 1 ∧ 2 ≤ (k3 fl i).length := by
  have := h.three hi
  unfold C8 at this
  simp only [hk] at this
  simp only [Int.reduceEq, reduceIte, Bool.or_eq_true, Bool.and_eq_true, beq_iff_eq, decide_eq_true_eq] at this
  omega
theorem Right.start {ns : List Nd} {fl : List Fl} (h : Right ns fl) {i : Nat} (hi : i < ns.length) (hk : u3 ns i = 1) : (p5 fl i).length = 0 ∧ (k3 fl i).length = 1 := by
  have := h.three hi
  unfold C8 at this
  simp only [hk] at this
  simp only [Int.reduceEq, reduceIte, Bool.or_eq_true, Bool.and_eq_true, beq_iff_eq, decide_eq_true_eq] at this
  omega
theorem Right.count {ns : List Nd} {fl : List Fl} (h : Right ns fl) {i : Nat} (hi : i < ns.length) :
    (u3 ns i = 1 → (nM fl i (u3 ns i)).length = 0) ∧ (u3 ns i = 5 ∨ u3 ns i = 7 → (nM fl i (u3 ns i)).length = (p5 fl i).length * (k3 fl i).length) ∧
    (u3 ns i ≠ 1 → u3 ns i ≠ 5 → u3 ns i ≠ 7 → (nM fl i (u3 ns i)).length = 1) := by
  refine ⟨fun hk => ?_, fun hk => ?_, fun k1 k5 k7 => ?_⟩
  · unfold nM; rw [if_pos hk]; rfl
  · rcases hk with hk | hk
    · unfold nM
      rw [if_neg (by omega), if_neg (by omega), if_neg (by omega), if_pos hk]
      rcases h.xor hi hk with ⟨a, b⟩ | ⟨a, b⟩
      · rw [if_pos (by omega), List.length_map, a, Nat.one_mul]
      · rw [if_neg (by omega), List.length_map, b, Nat.mul_one]
    · unfold nM
      rw [if_neg (by omega), if_pos hk, List.length_map, (h.event hi hk).1, Nat.one_mul]
  · unfold nM
    rw [if_neg k1, if_neg k7]
    split <;> rfl
def ia := And.intro T2 (And.intro T3 (And.intro T4 (And.intro T22 (And.intro T23 (And.intro T25 (And.intro T26 (And.intro T27 (And.intro T32 (And.intro T40 (And.intro T46 (And.intro T53 (And.intro T61 (And.intro T70 (And.intro T73 (And.intro T84 T86)))))))))))))))
attribute [local irreducible] awp q9 m7 n7 r5 q8
variable {G : Nat → Option (List PV)}
structure StOk (S : List Int) : Prop where
  held : cU S
  queue : ∀ i x, 44 ≤ i → i < 48 → S[i]? = some x → 0 ≤ x ∧ x ≤ 3
def qAt (S : List Int) (a : Int) : Int := S.getD (44 + a.toNat) 0
def ndA (ns : List Nd) (c : Int) : Int := match ns[c.toNat]? with | some k => k.a | none => 0
def s9 (ns : List Nd) (fl : List Fl) (S : List Int) (node arg c : Int) (fr : List Int) : List Sp :=
  if ndA ns c < 4 then (if qAt S (ndA ns c) = 0 then [] else p9 S ⟨node, arg, 3, c, 0, S.set (44 + (ndA ns c).toNat) (qAt S (ndA ns c) - 1)⟩ fr (k3 fl c))
  else p9 S ⟨node, arg, 4, c, 0, S⟩ fr (k3 fl c)
theorem i9 {ns : List Nd} {fl : List Fl} {S : List Int} {lb n e bt : Nat} {z : Option (List PV)} : P8 ⟨.slice e, 1, bt, z⟩ (gmC ns fl S lb n) = some (.p (.sl (ns.map eN))) := rfl
theorem StOk.q {S : List Int} (h : StOk S) {k : Nat} (hk : k < 4) : S[44 + k]? = some (qAt S k) ∧ 0 ≤ qAt S k ∧ qAt S k ≤ 3 := by
  have hl := h.held.1
  have e : S[44 + k]? = some (qAt S k) := by
    unfold qAt
    rw [Int.toNat_natCast, List.getD_eq_getElem?_getD, List.getElem?_eq_getElem (by omega)]; rfl
  exact ⟨e, h.queue _ _ (by omega) (by omega) e⟩
theorem A0 {fl : List Fl} (hf : fl.length ≤ 40) (i : Int) : InF (k3 fl i) := by
  refine ⟨Nat.le_trans (mf fl i) (by omega), fun f hm => ?_⟩
  obtain ⟨j, _, h1, rfl, _⟩ := F5 hm
  omega
theorem J5 {fl : List Fl} (hf : fl.length ≤ 40) (i : Int) : InF (p5 fl i) := by
  refine ⟨Nat.le_trans (oX fl i) (by omega), fun f hm => ?_⟩
  obtain ⟨j, _, h1, rfl, _⟩ := F5 hm
  omega
theorem nQ {S : List Int} {a : Nat} {q : Int} (hq : S[44 + a]? = some q) (x1 x2 x3 x4 x5 : AV) : (x1 :: x2 :: x3 :: x4 :: x5 :: S.map AV.i).drop (49 + a) = .p (.int .i64 q) :: (S.drop (44 + a + 1)).map AV.i := by
  rw [show 49 + a = (44 + a) + 1 + 1 + 1 + 1 + 1 by omega, List.drop_succ_cons, List.drop_succ_cons, List.drop_succ_cons, List.drop_succ_cons, List.drop_succ_cons, J1 hq]
theorem qk (S : List Int) (a : Nat) (v : Int) (x1 x2 x3 x4 x5 : AV) : (x1 :: x2 :: x3 :: x4 :: x5 :: S.map AV.i).set (49 + a) (.p (.int .i64 v)) = x1 :: x2 :: x3 :: x4 :: x5 :: (S.set (44 + a) v).map AV.i := by
  rw [show 49 + a = (44 + a) + 1 + 1 + 1 + 1 + 1 by omega, List.set_cons_succ, List.set_cons_succ, List.set_cons_succ, List.set_cons_succ, List.set_cons_succ, F0]
theorem tI {ns : List Nd} {fl : List Fl} {S : List Int} {lb n a : Nat} {q : Int} (hq : S[44 + a]? = some q) : (gmC ns fl S lb n).drop (46 + a) = .p (.int .i64 q) :: ((S.drop (44 + a + 1)).map AV.i ++ [.ref lb n 0 54 n]) := by
  rw [show 46 + a = 2 + (44 + a) by omega, U2 hq]
theorem fb {h : Heap} {b lb : Nat} {ns : List Nd} {fl : List Fl} {S : List Int} {l : List Sp} (ok : GmOk h b lb S l) (st : StOk S) (hf : fl.length ≤ 40) (node arg : Int) (Z : List Int) (hZ : Z.length = 49) (lk ln la : Int) (c : Nat) {k : Nd} (hc : ns[c]? = some k) (ha : 0 ≤ k.a ∧ k.a ≤ 4) (fr : List Int) (hfr : InF fr) :
    f9 Tryz.prog G 46 [.ptr b 0 0, .agg (.p (.int .i64 node) :: .p (.int .i64 arg) :: .p (.int .i64 lk) :: .p (.int .i64 ln) :: .p (.int .i64 la) :: Z.map AV.i), .i c, aI fr] (m3 h b lb ns fl S l) (fun r h' => r = .undef ∧ h' = m3 h b lb ns fl S (l ++ s9 ns fl S node arg c fr)) := by
  have hb := ok.hb
  have hl := ok.hl
  have hne := ok.ne
  have hS := ok.held.1
  have gl := v4 (ns := ns) (fl := fl) (lb := lb) (n := l.length) hS
  have t49 := v8 (ns := ns) (fl := fl) (lb := lb) (n := l.length) hS
  have c0 : (0 : Int) ≤ (c : Int) := by omega
  have hc' := B8 hc
  have htl := F6 hS
  have en : ndA ns c = k.a := by unfold ndA; rw [Int.toNat_natCast, hc]
  have tk54 : ∀ a b c d e : AV, (a :: b :: c :: d :: e :: S.map AV.i).take 54 = a :: b :: c :: d :: e :: S.map AV.i := fun a b c d e => List.take_of_length_le (by simp [hS])
  by_cases h4 : k.a = 4
  · have eg : s9 ns fl S node arg c fr = p9 S ⟨node, arg, 4, c, 0, S⟩ fr (k3 fl c) := by unfold s9; rw [en, if_neg (by omega)]
    rw [eg]
    refine j8 (rl := []) i6 Tryz.func46 rfl (rs := []) rfl Tryz.ntmps46 (by simp) ?_
    repeat' (first | ((first | refine c8 ?_ | refine b8 ?_ | refine o5 ?_ | refine m9 ?_); (try simp only [NB])) | ((repeat ((fail_if_success (refine hK _ ?_)); clear hK K)); refine hK _ ?_; clear hK K) | ((first | refine d8 fun K1 p7 => ?_ | refine d6 fun K1 p7 => ?_ | refine o6 rfl rfl rfl fun K1 p7 => ?_ | refine b5 fun A B hA hB => ?_); simp only [S1, simprocAttr, ia, t49, c0, hc', htl, hZ, hS, i9, k8, tk54, h4, eN, PGB, n6 hb hne, k9 hl, l6 hb hne, j9 hl, gmB, spB, gl]; first | (refine p7 _ ?_; clear p7 K1) | ((first | refine hA ?_ | refine hB ?_); clear hA hB A B) | ((first | apply b9 E36 | apply c7 E36); exact (o8 _ fl (by omega) _ _); (refine p7 _ ?_; clear p7 K1)) | ((first | apply b9 E28 | apply c7 E28); exact (W5 ok ⟨node, arg, 4, c, 0, S⟩ hS fr (k3 fl c) hfr (A0 hf c) _); (refine p7 _ ?_; clear p7 K1)) | (((first | (refine ⟨fun hg => hA ?_, fun hg => hB ?_⟩ <;> clear hA hB A B) | refine ⟨fun hg => ?_, fun hg => ?_⟩) <;> (try simp only [BN2] at hg) <;> (try simp only [hg, cndB])) <;> (try (refine p7 _ ?_; clear p7 K1)) <;> (try simp only [BN3] at hg))) | ((first | refine t9 (v := ?_) rfl rfl rfl rfl (by decide) (fun R1 K1 p7 => ?_) ?_ | refine t8 (v := ?_) rfl rfl rfl (by decide) (fun K1 p7 => ?_) ?_ | refine r8 (v := ?_) rfl rfl rfl (by decide) (fun K1 p7 => ?_) ?_); rotate_left; (focus (simp only [S1, simprocAttr, ia, t49, c0, hc', htl, hZ, hS, i9, k8, tk54, h4, eN, PGB, n6 hb hne, k9 hl, l6 hb hne, j9 hl, gmB, spB, gl]; first | (exact p7 _ _ _) | ((first | apply b9 E36 | apply c7 E36); exact (o8 _ fl (by omega) _ _); exact p7 _ _ _) | ((first | apply b9 E28 | apply c7 E28); exact (W5 ok ⟨node, arg, 4, c, 0, S⟩ hS fr (k3 fl c) hfr (A0 hf c) _); exact p7 _ _ _)))) | (refine n5 rfl rfl rfl ?_) | ((first | refine i3 (z := ?_) 0 rfl rfl rfl rfl (by decide) rfl ?_ ?_ | refine i3 (z := ?_) 1 rfl rfl rfl rfl (by decide) rfl ?_ ?_ | refine i3 (z := ?_) 2 rfl rfl rfl rfl (by decide) rfl ?_ ?_); rotate_left; (focus (simp only [S1, simprocAttr, ia, t49, c0, hc', htl, hZ, hS, i9, k8, tk54, h4, eN, PGB, n6 hb hne, k9 hl, l6 hb hne, j9 hl, gmB, spB, gl, u9]; rfl))) | (refine b6 fun K hK => ?_) | (refine p6 [0, 1, 2, 3, 4, 5, 6, 7, 8, 9] 0 (fs := []) rfl (by kernel_rfl) (by kernel_rfl) ?_) | ((first | refine a9 ?_ | refine j4 (by kernel_rfl) ?_ | refine b7 ?_ | refine c9 ?_ | refine d4 ?_ | refine d7 ?_); try simp only [NB, simprocAttr]))
    all_goals simp only [S1, simprocAttr, ENB, y8, y1, j7, m8, l8] <;> first | exact i5 hl | exact ⟨i5 hl, rfl⟩ | exact ⟨i5 hl, rfl, rfl⟩
  · obtain ⟨a, hka⟩ := Int.eq_ofNat_of_zero_le ha.1
    have a4 : a < 4 := by omega
    have a0 : (0 : Int) ≤ (a : Int) := by omega
    have a4' : (a : Int) < 4 := by omega
    have a4d : decide ((a : Int) < 4) = true := decide_eq_true a4'
    obtain ⟨hq, q0, q3⟩ := st.q a4
    have gq := tI (ns := ns) (fl := fl) (lb := lb) (n := l.length) hq
    have cd := nQ hq
    have cs := qk S a
    have e2 : qAt S k.a = qAt S a := by rw [hka]
    generalize hqv : qAt S (a : Int) = q at *
    by_cases hz : q = 0
    · have eg : s9 ns fl S node arg c fr = [] := by unfold s9; rw [en, if_pos (by omega), e2, if_pos hz]
      have hz' : (q == 0) = true := by simp [hz]
      rw [eg, List.append_nil]
      refine j8 (rl := []) i6 Tryz.func46 rfl (rs := []) rfl Tryz.ntmps46 (by simp) ?_
      repeat' (first | ((repeat ((fail_if_success (refine hK _ ?_)); clear hK K)); refine hK _ ?_; clear hK K) | ((first | refine d8 fun K1 p7 => ?_ | refine d6 fun K1 p7 => ?_ | refine b5 fun A B hA hB => ?_); simp only [S1, simprocAttr, ia, t49, c0, hc', htl, hZ, hS, i9, k8, tk54, hka, a0, a4', a4d, gq, hz', eN, PGB, n6 hb hne, k9 hl, l6 hb hne, j9 hl, gmB, spB, gl]; first | refine p7 _ ?_; clear p7 K1 | ((first | refine hA ?_ | refine hB ?_); clear hA hB A B) | (((first | (refine ⟨fun hg => hA ?_, fun hg => hB ?_⟩ <;> clear hA hB A B) | refine ⟨fun hg => ?_, fun hg => ?_⟩) <;> (try simp only [BN2] at hg) <;> (try simp only [hg, cndB])) <;> (try (refine p7 _ ?_; clear p7 K1)) <;> (try simp only [BN3] at hg))) | refine b6 fun K hK => ?_ | ((first | apply c8 | apply b8 | apply a9 | refine d5 ?_ | apply b7 | apply c9 | apply d4 | apply d7); try simp only [NB, simprocAttr]))
      all_goals simp only [S1, simprocAttr, ENB, y8, y1, j7, m8, l8] <;> first | exact i5 hl | exact ⟨i5 hl, rfl⟩ | exact ⟨i5 hl, rfl, rfl⟩
    · have eg : s9 ns fl S node arg c fr = p9 S ⟨node, arg, 3, c, 0, S.set (44 + a) (q - 1)⟩ fr (k3 fl c) := by
        unfold s9; rw [en, if_pos (by omega), e2, if_neg hz, hka, Int.toNat_natCast]
      have hz' : (q == 0) = false := by simp [hz]
      have hw : IntKind.i64.wrap (q - 1) = q - 1 := IntWalk.i64_in _ (by omega)
      have hS2 : (S.set (44 + a) (q - 1)).length = 49 := by rw [List.length_set, hS]
      have tk2 : ∀ a1 b1 c1 d1 e1 : AV, (a1 :: b1 :: c1 :: d1 :: e1 :: (S.set (44 + a) (q - 1)).map AV.i).take 54 = a1 :: b1 :: c1 :: d1 :: e1 :: (S.set (44 + a) (q - 1)).map AV.i := fun _ _ _ _ _ => List.take_of_length_le (by simp [hS])
      have h54 : 49 + a + 1 ≤ 54 := by omega
      rw [eg]
      refine j8 (rl := []) i6 Tryz.func46 rfl (rs := []) rfl Tryz.ntmps46 (by simp) ?_
      repeat' (first | ((first | refine c8 ?_ | refine b8 ?_ | refine o5 ?_ | refine m9 ?_); (try simp only [NB])) | ((repeat ((fail_if_success (refine hK _ ?_)); clear hK K)); refine hK _ ?_; clear hK K) | ((first | refine d8 fun K1 p7 => ?_ | refine d6 fun K1 p7 => ?_ | refine o6 rfl rfl rfl fun K1 p7 => ?_ | refine b5 fun A B hA hB => ?_); simp only [S1, simprocAttr, ia, t49, c0, hc', htl, hZ, hS, hS2, i9, k8, tk54, tk2, hka, a0, a4', a4d, gq, cd, cs, hz', hw, h54, eN, PGB, n6 hb hne, k9 hl, l6 hb hne, j9 hl, gmB, spB, gl]; first | (refine p7 _ ?_; clear p7 K1) | ((first | refine hA ?_ | refine hB ?_); clear hA hB A B) | ((first | apply b9 E36 | apply c7 E36); exact (o8 _ fl (by omega) _ _); (refine p7 _ ?_; clear p7 K1)) | ((first | apply b9 E28 | apply c7 E28); exact (W5 ok ⟨node, arg, 3, c, 0, S.set (44 + a) (q - 1)⟩ hS2 fr (k3 fl c) hfr (A0 hf c) _); (refine p7 _ ?_; clear p7 K1)) | (((first | (refine ⟨fun hg => hA ?_, fun hg => hB ?_⟩ <;> clear hA hB A B) | refine ⟨fun hg => ?_, fun hg => ?_⟩) <;> (try simp only [BN2] at hg) <;> (try simp only [hg, cndB])) <;> (try (refine p7 _ ?_; clear p7 K1)) <;> (try simp only [BN3] at hg))) | ((first | refine t9 (v := ?_) rfl rfl rfl rfl (by decide) (fun R1 K1 p7 => ?_) ?_ | refine t8 (v := ?_) rfl rfl rfl (by decide) (fun K1 p7 => ?_) ?_ | refine r8 (v := ?_) rfl rfl rfl (by decide) (fun K1 p7 => ?_) ?_); rotate_left; (focus (simp only [S1, simprocAttr, ia, t49, c0, hc', htl, hZ, hS, hS2, i9, k8, tk54, tk2, hka, a0, a4', a4d, gq, cd, cs, hz', hw, h54, eN, PGB, n6 hb hne, k9 hl, l6 hb hne, j9 hl, gmB, spB, gl]; first | (exact p7 _ _ _) | ((first | apply b9 E36 | apply c7 E36); exact (o8 _ fl (by omega) _ _); exact p7 _ _ _) | ((first | apply b9 E28 | apply c7 E28); exact (W5 ok ⟨node, arg, 3, c, 0, S.set (44 + a) (q - 1)⟩ hS2 fr (k3 fl c) hfr (A0 hf c) _); exact p7 _ _ _)))) | (refine n5 rfl rfl rfl ?_) | ((first | refine i3 (z := ?_) 0 rfl rfl rfl rfl (by decide) rfl ?_ ?_ | refine i3 (z := ?_) 1 rfl rfl rfl rfl (by decide) rfl ?_ ?_ | refine i3 (z := ?_) 2 rfl rfl rfl rfl (by decide) rfl ?_ ?_); rotate_left; (focus (simp only [S1, simprocAttr, ia, t49, c0, hc', htl, hZ, hS, hS2, i9, k8, tk54, tk2, hka, a0, a4', a4d, gq, cd, cs, hz', hw, h54, eN, PGB, n6 hb hne, k9 hl, l6 hb hne, j9 hl, gmB, spB, gl, u9]; rfl))) | (refine b6 fun K hK => ?_) | (refine p6 [0, 1, 2, 3, 4, 5, 6, 7, 8, 9] 0 (fs := []) rfl (by kernel_rfl) (by kernel_rfl) ?_) | ((first | refine a9 ?_ | refine j4 (by kernel_rfl) ?_ | refine b7 ?_ | refine c9 ?_ | refine d4 ?_ | refine d7 ?_); try simp only [NB, simprocAttr]))
      all_goals simp only [S1, simprocAttr, ENB, y8, y1, j7, m8, l8] <;> first | exact i5 hl | exact ⟨i5 hl, rfl⟩ | exact ⟨i5 hl, rfl, rfl⟩
end
section
def J2 := And.intro T2 (And.intro T3 (And.intro T4 (And.intro T27 (And.intro T34 (And.intro T68 (And.intro nm ka))))))
attribute [local irreducible] awp q9 m7
variable {G : Nat → Option (List PV)}
def Num (n : Int) : Prop := -1099511627776 ≤ n ∧ n ≤ 1099511627776
theorem ib {n : Int} (hn : -9223372036854775807 ≤ n ∧ n ≤ 9223372036854775807) (h : Heap) : f9 Tryz.prog G 109 [.i n] h (fun r h' => r = .i (n.natAbs : Int) ∧ h' = h) := by
  have hw := IntWalk.i64_in (0 - n) (by omega)
  refine f9.mono (pP n h) ?_
  rintro r h' ⟨rfl, rfl⟩
  refine ⟨?_, rfl⟩
  rw [hw]
  refine congrArg AV.i ?_
  split <;> omega
theorem K9 {n : Int} (hn : -9223372036854775807 ≤ n ∧ n ≤ 9223372036854775807) (h : Heap) : f9 Tryz.prog G 103 [.i n] h (fun r h' => r = .i (n.natAbs : Int) ∧ h' = h) := by
  have hw := IntWalk.i64_in (0 - n) (by omega)
  refine f9.mono (nn n h) ?_
  rintro r h' ⟨rfl, rfl⟩
  refine ⟨?_, rfl⟩
  rw [hw]
  refine congrArg AV.i ?_
  split <;> omega
def O9 (a b : Int) : Int × Int := if b ≠ 0 ∧ 1099511627776 / b.natAbs < a.natAbs then (0, 40) else (a * b, 0)
theorem ic {a b : Int} (hb : b ≠ 0) (h : ¬ (1099511627776 / b.natAbs < a.natAbs)) : Num (a * b) := by
  have h1 : a.natAbs ≤ 1099511627776 / b.natAbs := Nat.le_of_not_lt h
  have h2 : a.natAbs * b.natAbs ≤ 1099511627776 := by
    have := Nat.mul_le_mul_right b.natAbs h1
    exact Nat.le_trans this (Nat.div_mul_le_self _ _)
  have h3 : (a * b).natAbs ≤ 1099511627776 := by rw [Int.natAbs_mul]; exact h2
  unfold Num; omega
theorem pf {b : Int} (hb : b ≠ 0) : IntKind.i64.wrap ((1099511627776 : Int).tdiv (b.natAbs : Int)) = ((1099511627776 / b.natAbs : Nat) : Int) := by
  have e : (1099511627776 : Int).tdiv (b.natAbs : Int) = ((1099511627776 / b.natAbs : Nat) : Int) := by
    rw [show (1099511627776 : Int) = ((1099511627776 : Nat) : Int) from rfl, ← Int.ofNat_tdiv]
  have h1 : 1099511627776 / b.natAbs ≤ 1099511627776 := Nat.div_le_self _ _
  rw [e]
  generalize 1099511627776 / b.natAbs = q at *
  rw [IntWalk.i64_in _ (by omega)]
theorem iJ {a b : Int} (ha : Num a) (hb : Num b) (h : Heap) : f9 Tryz.prog G 102 [.i a, .i b] h (fun r h' => r = .tup [.i (O9 a b).1, .i (O9 a b).2] ∧ h' = h) := by
  unfold Num at ha hb
  by_cases hz : a = 0 ∨ b = 0
  · have f1 : (a == 0 || b == 0) = true := by rcases hz with e | e <;> simp [e]
    have e : O9 a b = (0, 0) := by
      unfold O9
      rcases hz with e | e
      · subst e; simp
      · subst e; simp
    rw [e]
    refine d9 (rl := []) i6 Tryz.func102 rfl (rs := [.tmp 4, .tmp 5]) rfl Tryz.ntmps102 (by simp) ?_
    repeat' (first | ((repeat ((fail_if_success (refine hK _ ?_)); clear hK K)); refine hK _ ?_; clear hK K) | ((first | refine d8 fun K1 p7 => ?_ | refine d6 fun K1 p7 => ?_ | refine b5 fun A B hA hB => ?_); simp only [S1, simprocAttr, J2, f1]; first | refine p7 _ ?_; clear p7 K1 | ((first | refine hA ?_ | refine hB ?_); clear hA hB A B) | (refine g8 (v := ?_) (fun hg p8 => ?_) ?_; rotate_left; (focus (try ((try simp only [BN] at hg); simp only [S1, simprocAttr, J2, f1, hg] at p8 ⊢)); first | exact p8); refine p7 _ ?_; clear p7 K1) | (((first | (refine ⟨fun hg => hA ?_, fun hg => hB ?_⟩ <;> clear hA hB A B) | refine ⟨fun hg => ?_, fun hg => ?_⟩) <;> (try simp only [BN2] at hg) <;> (try simp only [hg, cndB])) <;> (try (refine p7 _ ?_; clear p7 K1)) <;> (try simp only [BN3] at hg))) | refine b6 fun K hK => ?_ | ((first | apply c8 | apply b8 | apply a9 | refine d5 ?_ | apply b7 | apply c9 | apply d4 | apply d7); try simp only [NB, simprocAttr]))
    simp only [S1, simprocAttr, ENB, J2]
  · have f0 : ¬ b = 0 := fun e => hz (.inr e)
    have f1 : (a == 0) = false := by simpa using fun e => hz (.inl e)
    have f2 : (b == 0) = false := by simpa using f0
    have f3 : ¬ ((b.natAbs : Int) = 0) := by omega
    have f4 := pf f0
    refine d9 (rl := []) i6 Tryz.func102 rfl (rs := [.tmp 4, .tmp 5]) rfl Tryz.ntmps102 (by simp) ?_
    repeat' (first | ((repeat ((fail_if_success (refine hK _ ?_)); clear hK K)); refine hK _ ?_; clear hK K) | ((first | refine d8 fun K1 p7 => ?_ | refine d6 fun K1 p7 => ?_ | refine b5 fun A B hA hB => ?_); simp only [S1, simprocAttr, J2, f1, f2, f3, f4]; first | refine p7 _ ?_; clear p7 K1 | ((first | refine hA ?_ | refine hB ?_); clear hA hB A B) | ((first | apply b9 sM | apply c7 sM); exact (ib (by omega) _); refine p7 _ ?_; clear p7 K1) | (refine g8 (v := ?_) (fun hg p8 => ?_) ?_; rotate_left; (focus (try ((try simp only [BN] at hg); simp only [S1, simprocAttr, J2, f1, f2, f3, f4, hg] at p8 ⊢)); first | exact p8 | ((first | apply b9 sM | apply c7 sM); exact (ib (by omega) _); exact p8)); refine p7 _ ?_; clear p7 K1) | (((first | (refine ⟨fun hg => hA ?_, fun hg => hB ?_⟩ <;> clear hA hB A B) | refine ⟨fun hg => ?_, fun hg => ?_⟩) <;> (try simp only [BN2] at hg) <;> (try simp only [hg, cndB])) <;> (try (refine p7 _ ?_; clear p7 K1)) <;> (try simp only [BN3] at hg))) | refine b6 fun K hK => ?_ | ((first | apply c8 | apply b8 | apply a9 | refine d5 ?_ | apply b7 | apply c9 | apply d4 | apply d7); try simp only [NB, simprocAttr]))
    · simp only [S1, simprocAttr, ENB, J2]
      have hq : 1099511627776 / b.natAbs < a.natAbs := by generalize 1099511627776 / b.natAbs = q at *; omega
      simp [O9, f0, hq]
    · simp only [S1, simprocAttr, ENB, J2]
      have hq : ¬ 1099511627776 / b.natAbs < a.natAbs := by generalize 1099511627776 / b.natAbs = q at *; omega
      have hn := ic f0 hq
      unfold Num at hn
      rw [IntWalk.i64_in _ (by omega)]
      simp [O9, f0, hq]
def v9 (op a b : Int) : Int × Bool × Int :=
  if op = 10 then (0, a == b, 0) else if op = 11 then (0, decide (a < b), 0) else if op = 12 then (0, a == b || decide (a < b), 0)
  else if op = 8 then (if b = 0 then (0, false, 41) else (a.tdiv b, false, 0))
  else if op = 9 then (if b = 0 then (0, false, 41) else (a.tmod b, false, 0))
  else if op = 7 then ((O9 a b).1, false, (O9 a b).2)
  else if op = 6 then (if 1099511627776 < (a - b).natAbs then (0, false, 40) else (a - b, false, 0))
  else (if 1099511627776 < (a + b).natAbs then (0, false, 40) else (a + b, false, 0))
theorem cZ {a b : Int} (ha : Num a) : Num (a.tdiv b) := by
  have : (a.tdiv b).natAbs ≤ a.natAbs := Int.natAbs_tdiv_le_natAbs a b
  unfold Num at *; omega
theorem da {a b : Int} (ha : Num a) : Num (a.tmod b) := by
  have : (a.tmod b).natAbs ≤ a.natAbs := by rw [Int.natAbs_tmod]; exact Nat.mod_le _ _
  unfold Num at *; omega
theorem db {n : Int} : inM n = true ↔ ¬ 1099511627776 < n.natAbs := by unfold inM; simp; omega
theorem nR {a b : Int} (ha : Num a) (hb : Num b) (h : Heap) : f9 Tryz.prog G 95 [.i 5, .i a, .i b] h (fun r h' => r = .tup [.i (v9 5 a b).1, .i (v9 5 a b).2.2] ∧ h' = h) := by
  unfold Num at *
  have w1 := IntWalk.i64_in (a + b) (by omega)
  refine d9 (rl := []) i6 Tryz.func95 rfl (rs := [.tmp 6, .tmp 7]) rfl Tryz.ntmps95 (by simp) ?_
  repeat' (first | ((repeat ((fail_if_success (refine hK _ ?_)); clear hK K)); refine hK _ ?_; clear hK K) | ((first | refine d8 fun K1 p7 => ?_ | refine d6 fun K1 p7 => ?_ | refine b5 fun A B hA hB => ?_); simp only [S1, simprocAttr, J2, w1]; first | refine p7 _ ?_; clear p7 K1 | ((first | refine hA ?_ | refine hB ?_); clear hA hB A B) | ((first | apply b9 E38 | apply c7 E38); exact (cl _ _); refine p7 _ ?_; clear p7 K1) | (((first | (refine ⟨fun hg => hA ?_, fun hg => hB ?_⟩ <;> clear hA hB A B) | refine ⟨fun hg => ?_, fun hg => ?_⟩) <;> (try simp only [BN2] at hg) <;> (try simp only [hg, cndB])) <;> (try (refine p7 _ ?_; clear p7 K1)) <;> (try simp only [BN3] at hg))) | refine b6 fun K hK => ?_ | ((first | apply c8 | apply b8 | apply a9 | refine d5 ?_ | apply b7 | apply c9 | apply d4 | apply d7); try simp only [NB, simprocAttr]))
  all_goals simp only [S1, simprocAttr, ENB, J2]
  all_goals (try simp only [Bool.not_eq_true', Bool.not_eq_false'] at hg)
  all_goals (first
    | (have := db.mp hg; simp [v9, this])
    | (have := Classical.byContradiction (fun e => Bool.false_ne_true (hg.symm.trans (db.mpr e))); simp [v9, this]))
theorem nS {a b : Int} (ha : Num a) (hb : Num b) (h : Heap) : f9 Tryz.prog G 95 [.i 6, .i a, .i b] h (fun r h' => r = .tup [.i (v9 6 a b).1, .i (v9 6 a b).2.2] ∧ h' = h) := by
  unfold Num at *
  have w1 := IntWalk.i64_in (a - b) (by omega)
  refine d9 (rl := []) i6 Tryz.func95 rfl (rs := [.tmp 6, .tmp 7]) rfl Tryz.ntmps95 (by simp) ?_
  repeat' (first | ((repeat ((fail_if_success (refine hK _ ?_)); clear hK K)); refine hK _ ?_; clear hK K) | ((first | refine d8 fun K1 p7 => ?_ | refine d6 fun K1 p7 => ?_ | refine b5 fun A B hA hB => ?_); simp only [S1, simprocAttr, J2, w1]; first | refine p7 _ ?_; clear p7 K1 | ((first | refine hA ?_ | refine hB ?_); clear hA hB A B) | ((first | apply b9 E38 | apply c7 E38); exact (cl _ _); refine p7 _ ?_; clear p7 K1) | (((first | (refine ⟨fun hg => hA ?_, fun hg => hB ?_⟩ <;> clear hA hB A B) | refine ⟨fun hg => ?_, fun hg => ?_⟩) <;> (try simp only [BN2] at hg) <;> (try simp only [hg, cndB])) <;> (try (refine p7 _ ?_; clear p7 K1)) <;> (try simp only [BN3] at hg))) | refine b6 fun K hK => ?_ | ((first | apply c8 | apply b8 | apply a9 | refine d5 ?_ | apply b7 | apply c9 | apply d4 | apply d7); try simp only [NB, simprocAttr]))
  all_goals simp only [S1, simprocAttr, ENB, J2]
  all_goals (try simp only [Bool.not_eq_true', Bool.not_eq_false'] at hg)
  all_goals (first
    | (have := db.mp hg; simp [v9, this])
    | (have := Classical.byContradiction (fun e => Bool.false_ne_true (hg.symm.trans (db.mpr e))); simp [v9, this]))
theorem nT {a b : Int} (ha : Num a) (hb : Num b) (h : Heap) : f9 Tryz.prog G 95 [.i 7, .i a, .i b] h (fun r h' => r = .tup [.i (v9 7 a b).1, .i (v9 7 a b).2.2] ∧ h' = h) := by
  unfold Num at *
  skip
  refine d9 (rl := []) i6 Tryz.func95 rfl (rs := [.tmp 6, .tmp 7]) rfl Tryz.ntmps95 (by simp) ?_
  repeat' (first | ((repeat ((fail_if_success (refine hK _ ?_)); clear hK K)); refine hK _ ?_; clear hK K) | ((first | refine d8 fun K1 p7 => ?_ | refine d6 fun K1 p7 => ?_ | refine b5 fun A B hA hB => ?_); simp only [S1, simprocAttr, J2]; first | refine p7 _ ?_; clear p7 K1 | ((first | refine hA ?_ | refine hB ?_); clear hA hB A B) | ((first | apply b9 uy | apply c7 uy); exact (iJ (by assumption) (by assumption) _); refine p7 _ ?_; clear p7 K1) | (((first | (refine ⟨fun hg => hA ?_, fun hg => hB ?_⟩ <;> clear hA hB A B) | refine ⟨fun hg => ?_, fun hg => ?_⟩) <;> (try simp only [BN2] at hg) <;> (try simp only [hg, cndB])) <;> (try (refine p7 _ ?_; clear p7 K1)) <;> (try simp only [BN3] at hg))) | refine b6 fun K hK => ?_ | ((first | apply c8 | apply b8 | apply a9 | refine d5 ?_ | apply b7 | apply c9 | apply d4 | apply d7); try simp only [NB, simprocAttr]))
  all_goals simp only [S1, simprocAttr, ENB, J2]
  all_goals simp [v9]
theorem nU {a b : Int} (ha : Num a) (hb : Num b) (hz : ¬ b = 0) (h : Heap) : f9 Tryz.prog G 95 [.i 8, .i a, .i b] h (fun r h' => r = .tup [.i (v9 8 a b).1, .i (v9 8 a b).2.2] ∧ h' = h) := by
  have hd := cZ (b := b) ha
  unfold Num at *
  have f2 : (b == 0) = false := by simpa using hz
  have w1 := IntWalk.i64_in (a.tdiv b) (by omega)
  refine d9 (rl := []) i6 Tryz.func95 rfl (rs := [.tmp 6, .tmp 7]) rfl Tryz.ntmps95 (by simp) ?_
  repeat' (first | ((repeat ((fail_if_success (refine hK _ ?_)); clear hK K)); refine hK _ ?_; clear hK K) | ((first | refine d8 fun K1 p7 => ?_ | refine d6 fun K1 p7 => ?_ | refine b5 fun A B hA hB => ?_); simp only [S1, simprocAttr, J2, w1, f2, hz]; first | refine p7 _ ?_; clear p7 K1 | ((first | refine hA ?_ | refine hB ?_); clear hA hB A B) | (((first | (refine ⟨fun hg => hA ?_, fun hg => hB ?_⟩ <;> clear hA hB A B) | refine ⟨fun hg => ?_, fun hg => ?_⟩) <;> (try simp only [BN2] at hg) <;> (try simp only [hg, cndB])) <;> (try (refine p7 _ ?_; clear p7 K1)) <;> (try simp only [BN3] at hg))) | refine b6 fun K hK => ?_ | ((first | apply c8 | apply b8 | apply a9 | refine d5 ?_ | apply b7 | apply c9 | apply d4 | apply d7); try simp only [NB, simprocAttr]))
  all_goals simp only [S1, simprocAttr, ENB, J2]
  all_goals simp [v9, hz]
theorem nV {a b : Int} (ha : Num a) (hb : Num b) (hz : ¬ b = 0) (h : Heap) : f9 Tryz.prog G 95 [.i 9, .i a, .i b] h (fun r h' => r = .tup [.i (v9 9 a b).1, .i (v9 9 a b).2.2] ∧ h' = h) := by
  have hd := da (b := b) ha
  unfold Num at *
  have f2 : (b == 0) = false := by simpa using hz
  have w5 : (-9223372036854775808 ≤ a.tmod b) := by omega
  have w6 : (a.tmod b ≤ 9223372036854775807) := by omega
  refine d9 (rl := []) i6 Tryz.func95 rfl (rs := [.tmp 6, .tmp 7]) rfl Tryz.ntmps95 (by simp) ?_
  repeat' (first | ((repeat ((fail_if_success (refine hK _ ?_)); clear hK K)); refine hK _ ?_; clear hK K) | ((first | refine d8 fun K1 p7 => ?_ | refine d6 fun K1 p7 => ?_ | refine b5 fun A B hA hB => ?_); simp only [S1, simprocAttr, J2, w5, w6, f2, hz]; first | refine p7 _ ?_; clear p7 K1 | ((first | refine hA ?_ | refine hB ?_); clear hA hB A B) | (((first | (refine ⟨fun hg => hA ?_, fun hg => hB ?_⟩ <;> clear hA hB A B) | refine ⟨fun hg => ?_, fun hg => ?_⟩) <;> (try simp only [BN2] at hg) <;> (try simp only [hg, cndB])) <;> (try (refine p7 _ ?_; clear p7 K1)) <;> (try simp only [BN3] at hg))) | refine b6 fun K hK => ?_ | ((first | apply c8 | apply b8 | apply a9 | refine d5 ?_ | apply b7 | apply c9 | apply d4 | apply d7); try simp only [NB, simprocAttr]))
  all_goals simp only [S1, simprocAttr, ENB, J2]
  all_goals simp [v9, hz]
theorem ql {a : Int} (h : Heap) : f9 Tryz.prog G 95 [.i 8, .i a, .i 0] h (fun r h' => r = .tup [.i (v9 8 a 0).1, .i (v9 8 a 0).2.2] ∧ h' = h) := by
  refine d9 (rl := []) i6 Tryz.func95 rfl (rs := [.tmp 6, .tmp 7]) rfl Tryz.ntmps95 (by simp) ?_
  repeat' (first | ((repeat ((fail_if_success (refine hK _ ?_)); clear hK K)); refine hK _ ?_; clear hK K) | ((first | refine d8 fun K1 p7 => ?_ | refine d6 fun K1 p7 => ?_ | refine b5 fun A B hA hB => ?_); simp only [S1, simprocAttr, J2]; first | refine p7 _ ?_; clear p7 K1 | ((first | refine hA ?_ | refine hB ?_); clear hA hB A B) | (((first | (refine ⟨fun hg => hA ?_, fun hg => hB ?_⟩ <;> clear hA hB A B) | refine ⟨fun hg => ?_, fun hg => ?_⟩) <;> (try simp only [BN2] at hg) <;> (try simp only [hg, cndB])) <;> (try (refine p7 _ ?_; clear p7 K1)) <;> (try simp only [BN3] at hg))) | refine b6 fun K hK => ?_ | ((first | apply c8 | apply b8 | apply a9 | refine d5 ?_ | apply b7 | apply c9 | apply d4 | apply d7); try simp only [NB, simprocAttr]))
  all_goals simp only [S1, simprocAttr, ENB, J2]
  all_goals simp [v9]
theorem qm {a : Int} (h : Heap) : f9 Tryz.prog G 95 [.i 9, .i a, .i 0] h (fun r h' => r = .tup [.i (v9 9 a 0).1, .i (v9 9 a 0).2.2] ∧ h' = h) := by
  refine d9 (rl := []) i6 Tryz.func95 rfl (rs := [.tmp 6, .tmp 7]) rfl Tryz.ntmps95 (by simp) ?_
  repeat' (first | ((repeat ((fail_if_success (refine hK _ ?_)); clear hK K)); refine hK _ ?_; clear hK K) | ((first | refine d8 fun K1 p7 => ?_ | refine d6 fun K1 p7 => ?_ | refine b5 fun A B hA hB => ?_); simp only [S1, simprocAttr, J2]; first | refine p7 _ ?_; clear p7 K1 | ((first | refine hA ?_ | refine hB ?_); clear hA hB A B) | (((first | (refine ⟨fun hg => hA ?_, fun hg => hB ?_⟩ <;> clear hA hB A B) | refine ⟨fun hg => ?_, fun hg => ?_⟩) <;> (try simp only [BN2] at hg) <;> (try simp only [hg, cndB])) <;> (try (refine p7 _ ?_; clear p7 K1)) <;> (try simp only [BN3] at hg))) | refine b6 fun K hK => ?_ | ((first | apply c8 | apply b8 | apply a9 | refine d5 ?_ | apply b7 | apply c9 | apply d4 | apply d7); try simp only [NB, simprocAttr]))
  all_goals simp only [S1, simprocAttr, ENB, J2]
  all_goals simp [v9]
theorem dc {op a b : Int} (h1 : 5 ≤ op) (h2 : op ≤ 9) (ha : Num a) (hb : Num b) (h : Heap) : f9 Tryz.prog G 95 [.i op, .i a, .i b] h (fun r h' => r = .tup [.i (v9 op a b).1, .i (v9 op a b).2.2] ∧ h' = h) := by
  rcases (by omega : op = 5 ∨ op = 6 ∨ op = 7 ∨ op = 8 ∨ op = 9) with rfl | rfl | rfl | rfl | rfl
  · exact nR ha hb h
  · exact nS ha hb h
  · exact nT ha hb h
  · by_cases hz : b = 0
    · subst hz; exact ql h
    · exact nU ha hb hz h
  · by_cases hz : b = 0
    · subst hz; exact qm h
    · exact nV ha hb hz h
end
section
def A5 := And.intro T2 (And.intro T3 (And.intro T4 (And.intro T27 (And.intro T34 (And.intro T68 (And.intro nm ka))))))
attribute [local irreducible] awp q9 m7
variable {G : Nat → Option (List PV)}
abbrev aV3 (x : Int × Bool × Int) : AV := .agg [.i x.1, .b x.2.1, .i x.2.2]
theorem tc {a b : Int} (h : Heap) : f9 Tryz.prog G 97 [.i 10, .i a, .i b] h (fun r h' => r = aV3 (v9 10 a b) ∧ h' = h) := by
  skip
  refine d9 (rl := []) i6 Tryz.func97 rfl (rs := [.cell 6 134]) rfl Tryz.ntmps97 (by simp) ?_
  repeat' (first | ((repeat ((fail_if_success (refine hK _ ?_)); clear hK K)); refine hK _ ?_; clear hK K) | ((first | refine d8 fun K1 p7 => ?_ | refine d6 fun K1 p7 => ?_ | refine b5 fun A B hA hB => ?_); simp only [S1, simprocAttr, A5]; first | refine p7 _ ?_; clear p7 K1 | ((first | refine hA ?_ | refine hB ?_); clear hA hB A B) | (refine g8 (v := ?_) (fun hg p8 => ?_) ?_; rotate_left; (focus (try ((try simp only [BN] at hg); simp only [S1, simprocAttr, A5, hg] at p8 ⊢)); first | exact p8); refine p7 _ ?_; clear p7 K1) | (((first | (refine ⟨fun hg => hA ?_, fun hg => hB ?_⟩ <;> clear hA hB A B) | refine ⟨fun hg => ?_, fun hg => ?_⟩) <;> (try simp only [BN2] at hg) <;> (try simp only [hg, cndB])) <;> (try (refine p7 _ ?_; clear p7 K1)) <;> (try simp only [BN3] at hg))) | refine b6 fun K hK => ?_ | ((first | apply c8 | apply b8 | apply a9 | refine d5 ?_ | apply b7 | apply c9 | apply d4 | apply d7); try simp only [NB, simprocAttr]))
  all_goals simp only [S1, simprocAttr, ENB, A5]
  all_goals simp [v9]
theorem td {a b : Int} (h : Heap) : f9 Tryz.prog G 97 [.i 11, .i a, .i b] h (fun r h' => r = aV3 (v9 11 a b) ∧ h' = h) := by
  skip
  refine d9 (rl := []) i6 Tryz.func97 rfl (rs := [.cell 6 134]) rfl Tryz.ntmps97 (by simp) ?_
  repeat' (first | ((repeat ((fail_if_success (refine hK _ ?_)); clear hK K)); refine hK _ ?_; clear hK K) | ((first | refine d8 fun K1 p7 => ?_ | refine d6 fun K1 p7 => ?_ | refine b5 fun A B hA hB => ?_); simp only [S1, simprocAttr, A5]; first | refine p7 _ ?_; clear p7 K1 | ((first | refine hA ?_ | refine hB ?_); clear hA hB A B) | (refine g8 (v := ?_) (fun hg p8 => ?_) ?_; rotate_left; (focus (try ((try simp only [BN] at hg); simp only [S1, simprocAttr, A5, hg] at p8 ⊢)); first | exact p8); refine p7 _ ?_; clear p7 K1) | (((first | (refine ⟨fun hg => hA ?_, fun hg => hB ?_⟩ <;> clear hA hB A B) | refine ⟨fun hg => ?_, fun hg => ?_⟩) <;> (try simp only [BN2] at hg) <;> (try simp only [hg, cndB])) <;> (try (refine p7 _ ?_; clear p7 K1)) <;> (try simp only [BN3] at hg))) | refine b6 fun K hK => ?_ | ((first | apply c8 | apply b8 | apply a9 | refine d5 ?_ | apply b7 | apply c9 | apply d4 | apply d7); try simp only [NB, simprocAttr]))
  all_goals simp only [S1, simprocAttr, ENB, A5]
  all_goals simp [v9]
theorem te {a b : Int} (h : Heap) : f9 Tryz.prog G 97 [.i 12, .i a, .i b] h (fun r h' => r = aV3 (v9 12 a b) ∧ h' = h) := by
  skip
  refine d9 (rl := []) i6 Tryz.func97 rfl (rs := [.cell 6 134]) rfl Tryz.ntmps97 (by simp) ?_
  repeat' (first | ((repeat ((fail_if_success (refine hK _ ?_)); clear hK K)); refine hK _ ?_; clear hK K) | ((first | refine d8 fun K1 p7 => ?_ | refine d6 fun K1 p7 => ?_ | refine b5 fun A B hA hB => ?_); simp only [S1, simprocAttr, A5]; first | refine p7 _ ?_; clear p7 K1 | ((first | refine hA ?_ | refine hB ?_); clear hA hB A B) | (refine g8 (v := ?_) (fun hg p8 => ?_) ?_; rotate_left; (focus (try ((try simp only [BN] at hg); simp only [S1, simprocAttr, A5, hg] at p8 ⊢)); first | exact p8); refine p7 _ ?_; clear p7 K1) | (((first | (refine ⟨fun hg => hA ?_, fun hg => hB ?_⟩ <;> clear hA hB A B) | refine ⟨fun hg => ?_, fun hg => ?_⟩) <;> (try simp only [BN2] at hg) <;> (try simp only [hg, cndB])) <;> (try (refine p7 _ ?_; clear p7 K1)) <;> (try simp only [BN3] at hg))) | refine b6 fun K hK => ?_ | ((first | apply c8 | apply b8 | apply a9 | refine d5 ?_ | apply b7 | apply c9 | apply d4 | apply d7); try simp only [NB, simprocAttr]))
  all_goals simp only [S1, simprocAttr, ENB, A5]
  all_goals simp [v9]
theorem ue {a : Int} (h : Heap) : f9 Tryz.prog G 97 [.i 8, .i a, .i 0] h (fun r h' => r = aV3 (v9 8 a 0) ∧ h' = h) := by
  skip
  refine d9 (rl := []) i6 Tryz.func97 rfl (rs := [.cell 6 134]) rfl Tryz.ntmps97 (by simp) ?_
  repeat' (first | ((repeat ((fail_if_success (refine hK _ ?_)); clear hK K)); refine hK _ ?_; clear hK K) | ((first | refine d8 fun K1 p7 => ?_ | refine d6 fun K1 p7 => ?_ | refine b5 fun A B hA hB => ?_); simp only [S1, simprocAttr, A5]; first | refine p7 _ ?_; clear p7 K1 | ((first | refine hA ?_ | refine hB ?_); clear hA hB A B) | (refine g8 (v := ?_) (fun hg p8 => ?_) ?_; rotate_left; (focus (try ((try simp only [BN] at hg); simp only [S1, simprocAttr, A5, hg] at p8 ⊢)); first | exact p8); refine p7 _ ?_; clear p7 K1) | (((first | (refine ⟨fun hg => hA ?_, fun hg => hB ?_⟩ <;> clear hA hB A B) | refine ⟨fun hg => ?_, fun hg => ?_⟩) <;> (try simp only [BN2] at hg) <;> (try simp only [hg, cndB])) <;> (try (refine p7 _ ?_; clear p7 K1)) <;> (try simp only [BN3] at hg))) | refine b6 fun K hK => ?_ | ((first | apply c8 | apply b8 | apply a9 | refine d5 ?_ | apply b7 | apply c9 | apply d4 | apply d7); try simp only [NB, simprocAttr]))
  all_goals simp only [S1, simprocAttr, ENB, A5]
  all_goals simp [v9]
theorem uf {a : Int} (h : Heap) : f9 Tryz.prog G 97 [.i 9, .i a, .i 0] h (fun r h' => r = aV3 (v9 9 a 0) ∧ h' = h) := by
  skip
  refine d9 (rl := []) i6 Tryz.func97 rfl (rs := [.cell 6 134]) rfl Tryz.ntmps97 (by simp) ?_
  repeat' (first | ((repeat ((fail_if_success (refine hK _ ?_)); clear hK K)); refine hK _ ?_; clear hK K) | ((first | refine d8 fun K1 p7 => ?_ | refine d6 fun K1 p7 => ?_ | refine b5 fun A B hA hB => ?_); simp only [S1, simprocAttr, A5]; first | refine p7 _ ?_; clear p7 K1 | ((first | refine hA ?_ | refine hB ?_); clear hA hB A B) | (refine g8 (v := ?_) (fun hg p8 => ?_) ?_; rotate_left; (focus (try ((try simp only [BN] at hg); simp only [S1, simprocAttr, A5, hg] at p8 ⊢)); first | exact p8); refine p7 _ ?_; clear p7 K1) | (((first | (refine ⟨fun hg => hA ?_, fun hg => hB ?_⟩ <;> clear hA hB A B) | refine ⟨fun hg => ?_, fun hg => ?_⟩) <;> (try simp only [BN2] at hg) <;> (try simp only [hg, cndB])) <;> (try (refine p7 _ ?_; clear p7 K1)) <;> (try simp only [BN3] at hg))) | refine b6 fun K hK => ?_ | ((first | apply c8 | apply b8 | apply a9 | refine d5 ?_ | apply b7 | apply c9 | apply d4 | apply d7); try simp only [NB, simprocAttr]))
  all_goals simp only [S1, simprocAttr, ENB, A5]
  all_goals simp [v9]
theorem tg {a b : Int} (ha : Num a) (hb : Num b) (hz : ¬ b = 0) (h : Heap) : f9 Tryz.prog G 97 [.i 8, .i a, .i b] h (fun r h' => r = aV3 (v9 8 a b) ∧ h' = h) := by
  have hd := cZ (b := b) ha
  have hm := da (b := b) ha
  unfold Num at *
  have f2 : (b == 0) = false := by simpa using hz
  have w1 := IntWalk.i64_in (a.tdiv b) (by omega)
  refine d9 (rl := []) i6 Tryz.func97 rfl (rs := [.cell 6 134]) rfl Tryz.ntmps97 (by simp) ?_
  repeat' (first | ((repeat ((fail_if_success (refine hK _ ?_)); clear hK K)); refine hK _ ?_; clear hK K) | ((first | refine d8 fun K1 p7 => ?_ | refine d6 fun K1 p7 => ?_ | refine b5 fun A B hA hB => ?_); simp only [S1, simprocAttr, A5, w1, f2, hz]; first | refine p7 _ ?_; clear p7 K1 | ((first | refine hA ?_ | refine hB ?_); clear hA hB A B) | (refine g8 (v := ?_) (fun hg p8 => ?_) ?_; rotate_left; (focus (try ((try simp only [BN] at hg); simp only [S1, simprocAttr, A5, w1, f2, hz, hg] at p8 ⊢)); first | exact p8); refine p7 _ ?_; clear p7 K1) | (((first | (refine ⟨fun hg => hA ?_, fun hg => hB ?_⟩ <;> clear hA hB A B) | refine ⟨fun hg => ?_, fun hg => ?_⟩) <;> (try simp only [BN2] at hg) <;> (try simp only [hg, cndB])) <;> (try (refine p7 _ ?_; clear p7 K1)) <;> (try simp only [BN3] at hg))) | refine b6 fun K hK => ?_ | ((first | apply c8 | apply b8 | apply a9 | refine d5 ?_ | apply b7 | apply c9 | apply d4 | apply d7); try simp only [NB, simprocAttr]))
  all_goals simp only [S1, simprocAttr, ENB, A5]
  all_goals simp [v9, hz]
theorem th {a b : Int} (ha : Num a) (hb : Num b) (hz : ¬ b = 0) (h : Heap) : f9 Tryz.prog G 97 [.i 9, .i a, .i b] h (fun r h' => r = aV3 (v9 9 a b) ∧ h' = h) := by
  have hd := cZ (b := b) ha
  have hm := da (b := b) ha
  unfold Num at *
  have f2 : (b == 0) = false := by simpa using hz
  have w1 := IntWalk.i64_in (a.tdiv b) (by omega)
  have e : a.tdiv b * b = a - a.tmod b := by rw [Int.tmod_def, Int.mul_comm]; omega
  have w2 : IntKind.i64.wrap (a.tdiv b * b) = a - a.tmod b := by rw [e, IntWalk.i64_in _ (by omega)]
  have w3 : IntKind.i64.wrap (a - (a - a.tmod b)) = a.tmod b := by rw [IntWalk.i64_in _ (by omega)]; omega
  refine d9 (rl := []) i6 Tryz.func97 rfl (rs := [.cell 6 134]) rfl Tryz.ntmps97 (by simp) ?_
  repeat' (first | ((repeat ((fail_if_success (refine hK _ ?_)); clear hK K)); refine hK _ ?_; clear hK K) | ((first | refine d8 fun K1 p7 => ?_ | refine d6 fun K1 p7 => ?_ | refine b5 fun A B hA hB => ?_); simp only [S1, simprocAttr, A5, w1, w2, w3, f2, hz]; first | refine p7 _ ?_; clear p7 K1 | ((first | refine hA ?_ | refine hB ?_); clear hA hB A B) | (refine g8 (v := ?_) (fun hg p8 => ?_) ?_; rotate_left; (focus (try ((try simp only [BN] at hg); simp only [S1, simprocAttr, A5, w1, w2, w3, f2, hz, hg] at p8 ⊢)); first | exact p8); refine p7 _ ?_; clear p7 K1) | (((first | (refine ⟨fun hg => hA ?_, fun hg => hB ?_⟩ <;> clear hA hB A B) | refine ⟨fun hg => ?_, fun hg => ?_⟩) <;> (try simp only [BN2] at hg) <;> (try simp only [hg, cndB])) <;> (try (refine p7 _ ?_; clear p7 K1)) <;> (try simp only [BN3] at hg))) | refine b6 fun K hK => ?_ | ((first | apply c8 | apply b8 | apply a9 | refine d5 ?_ | apply b7 | apply c9 | apply d4 | apply d7); try simp only [NB, simprocAttr]))
  all_goals simp only [S1, simprocAttr, ENB, A5]
  all_goals simp [v9, hz]
theorem rR {a : Int} (h : Heap) : f9 Tryz.prog G 97 [.i 7, .i a, .i 0] h (fun r h' => r = aV3 (v9 7 a 0) ∧ h' = h) := by
  have w : IntKind.i64.wrap 0 = 0 := by rfl
  refine d9 (rl := []) i6 Tryz.func97 rfl (rs := [.cell 6 134]) rfl Tryz.ntmps97 (by simp) ?_
  repeat' (first | ((repeat ((fail_if_success (refine hK _ ?_)); clear hK K)); refine hK _ ?_; clear hK K) | ((first | refine d8 fun K1 p7 => ?_ | refine d6 fun K1 p7 => ?_ | refine b5 fun A B hA hB => ?_); simp only [S1, simprocAttr, A5, w, Int.mul_zero]; first | refine p7 _ ?_; clear p7 K1 | ((first | refine hA ?_ | refine hB ?_); clear hA hB A B) | (refine g8 (v := ?_) (fun hg p8 => ?_) ?_; rotate_left; (focus (try ((try simp only [BN] at hg); simp only [S1, simprocAttr, A5, w, Int.mul_zero, hg] at p8 ⊢)); first | exact p8); refine p7 _ ?_; clear p7 K1) | (((first | (refine ⟨fun hg => hA ?_, fun hg => hB ?_⟩ <;> clear hA hB A B) | refine ⟨fun hg => ?_, fun hg => ?_⟩) <;> (try simp only [BN2] at hg) <;> (try simp only [hg, cndB])) <;> (try (refine p7 _ ?_; clear p7 K1)) <;> (try simp only [BN3] at hg))) | refine b6 fun K hK => ?_ | ((first | apply c8 | apply b8 | apply a9 | refine d5 ?_ | apply b7 | apply c9 | apply d4 | apply d7); try simp only [NB, simprocAttr]))
  all_goals simp only [S1, simprocAttr, ENB, A5]
  all_goals simp [v9, O9]
theorem ti {a b : Int} (ha : Num a) (hb : Num b) (hz : ¬ b = 0) (h : Heap) : f9 Tryz.prog G 97 [.i 7, .i a, .i b] h (fun r h' => r = aV3 (v9 7 a b) ∧ h' = h) := by
  have hp := ic (a := a) hz
  unfold Num at *
  have f2 : (b == 0) = false := by simpa using hz
  have f2' : (b != 0) = true := by simpa using hz
  have f3 : ¬ ((b.natAbs : Int) = 0) := by omega
  have f4 := pf hz
  refine d9 (rl := []) i6 Tryz.func97 rfl (rs := [.cell 6 134]) rfl Tryz.ntmps97 (by simp) ?_
  repeat' (first | ((repeat ((fail_if_success (refine hK _ ?_)); clear hK K)); refine hK _ ?_; clear hK K) | ((first | refine d8 fun K1 p7 => ?_ | refine d6 fun K1 p7 => ?_ | refine b5 fun A B hA hB => ?_); simp only [S1, simprocAttr, A5, f2, f2', f3, f4, hz]; first | refine p7 _ ?_; clear p7 K1 | ((first | refine hA ?_ | refine hB ?_); clear hA hB A B) | ((first | apply b9 fv | apply c7 fv); exact (K9 (by omega) _); refine p7 _ ?_; clear p7 K1) | (refine g8 (v := ?_) (fun hg p8 => ?_) ?_; rotate_left; (focus (try ((try simp only [BN] at hg); simp only [S1, simprocAttr, A5, f2, f2', f3, f4, hz, hg] at p8 ⊢)); first | exact p8 | ((first | apply b9 fv | apply c7 fv); exact (K9 (by omega) _); exact p8)); refine p7 _ ?_; clear p7 K1) | (((first | (refine ⟨fun hg => hA ?_, fun hg => hB ?_⟩ <;> clear hA hB A B) | refine ⟨fun hg => ?_, fun hg => ?_⟩) <;> (try simp only [BN2] at hg) <;> (try simp only [hg, cndB])) <;> (try (refine p7 _ ?_; clear p7 K1)) <;> (try simp only [BN3] at hg))) | refine b6 fun K hK => ?_ | ((first | apply c8 | apply b8 | apply a9 | refine d5 ?_ | apply b7 | apply c9 | apply d4 | apply d7); try simp only [NB, simprocAttr]))
  all_goals simp only [S1, simprocAttr, ENB, A5]
  · have hq : 1099511627776 / b.natAbs < a.natAbs := by generalize 1099511627776 / b.natAbs = q at *; omega
    simp [v9, O9, hz, hq]
  · have hq : ¬ 1099511627776 / b.natAbs < a.natAbs := by generalize 1099511627776 / b.natAbs = q at *; omega
    have := hp hq
    rw [IntWalk.i64_in _ (by omega)]
    simp [v9, O9, hz, hq]
theorem tj {a b : Int} (ha : Num a) (hb : Num b) (h : Heap) : f9 Tryz.prog G 97 [.i 5, .i a, .i b] h (fun r h' => r = aV3 (v9 5 a b) ∧ h' = h) := by
  unfold Num at *
  have w1 := IntWalk.i64_in (a + b) (by omega)
  refine d9 (rl := []) i6 Tryz.func97 rfl (rs := [.cell 6 134]) rfl Tryz.ntmps97 (by simp) ?_
  repeat' (first | ((repeat ((fail_if_success (refine hK _ ?_)); clear hK K)); refine hK _ ?_; clear hK K) | ((first | refine d8 fun K1 p7 => ?_ | refine d6 fun K1 p7 => ?_ | refine b5 fun A B hA hB => ?_); simp only [S1, simprocAttr, A5, w1]; first | refine p7 _ ?_; clear p7 K1 | ((first | refine hA ?_ | refine hB ?_); clear hA hB A B) | ((first | apply b9 fv | apply c7 fv); exact (K9 (by omega) _); refine p7 _ ?_; clear p7 K1) | (refine g8 (v := ?_) (fun hg p8 => ?_) ?_; rotate_left; (focus (try ((try simp only [BN] at hg); simp only [S1, simprocAttr, A5, w1, hg] at p8 ⊢)); first | exact p8 | ((first | apply b9 fv | apply c7 fv); exact (K9 (by omega) _); exact p8)); refine p7 _ ?_; clear p7 K1) | (((first | (refine ⟨fun hg => hA ?_, fun hg => hB ?_⟩ <;> clear hA hB A B) | refine ⟨fun hg => ?_, fun hg => ?_⟩) <;> (try simp only [BN2] at hg) <;> (try simp only [hg, cndB])) <;> (try (refine p7 _ ?_; clear p7 K1)) <;> (try simp only [BN3] at hg))) | refine b6 fun K hK => ?_ | ((first | apply c8 | apply b8 | apply a9 | refine d5 ?_ | apply b7 | apply c9 | apply d4 | apply d7); try simp only [NB, simprocAttr]))
  all_goals simp only [S1, simprocAttr, ENB, A5]
  · have hq : 1099511627776 < (a + b).natAbs := by omega
    simp [v9, hq]
  · have hq : ¬ 1099511627776 < (a + b).natAbs := by omega
    simp [v9, hq]
theorem tl {a b : Int} (ha : Num a) (hb : Num b) (h : Heap) : f9 Tryz.prog G 97 [.i 6, .i a, .i b] h (fun r h' => r = aV3 (v9 6 a b) ∧ h' = h) := by
  unfold Num at *
  have w1 := IntWalk.i64_in (a - b) (by omega)
  have w2 := IntWalk.i64_in (a + b) (by omega)
  refine d9 (rl := []) i6 Tryz.func97 rfl (rs := [.cell 6 134]) rfl Tryz.ntmps97 (by simp) ?_
  repeat' (first | ((repeat ((fail_if_success (refine hK _ ?_)); clear hK K)); refine hK _ ?_; clear hK K) | ((first | refine d8 fun K1 p7 => ?_ | refine d6 fun K1 p7 => ?_ | refine b5 fun A B hA hB => ?_); simp only [S1, simprocAttr, A5, w1, w2]; first | refine p7 _ ?_; clear p7 K1 | ((first | refine hA ?_ | refine hB ?_); clear hA hB A B) | ((first | apply b9 fv | apply c7 fv); exact (K9 (by omega) _); refine p7 _ ?_; clear p7 K1) | (refine g8 (v := ?_) (fun hg p8 => ?_) ?_; rotate_left; (focus (try ((try simp only [BN] at hg); simp only [S1, simprocAttr, A5, w1, w2, hg] at p8 ⊢)); first | exact p8 | ((first | apply b9 fv | apply c7 fv); exact (K9 (by omega) _); exact p8)); refine p7 _ ?_; clear p7 K1) | (((first | (refine ⟨fun hg => hA ?_, fun hg => hB ?_⟩ <;> clear hA hB A B) | refine ⟨fun hg => ?_, fun hg => ?_⟩) <;> (try simp only [BN2] at hg) <;> (try simp only [hg, cndB])) <;> (try (refine p7 _ ?_; clear p7 K1)) <;> (try simp only [BN3] at hg))) | refine b6 fun K hK => ?_ | ((first | apply c8 | apply b8 | apply a9 | refine d5 ?_ | apply b7 | apply c9 | apply d4 | apply d7); try simp only [NB, simprocAttr]))
  all_goals simp only [S1, simprocAttr, ENB, A5]
  · have hq : 1099511627776 < (a - b).natAbs := by omega
    simp [v9, hq]
  · have hq : ¬ 1099511627776 < (a - b).natAbs := by omega
    simp [v9, hq]
theorem jz {op a b : Int} (h1 : 5 ≤ op) (h2 : op ≤ 12) (ha : Num a) (hb : Num b) (h : Heap) : f9 Tryz.prog G 97 [.i op, .i a, .i b] h (fun r h' => r = aV3 (v9 op a b) ∧ h' = h) := by
  rcases (by omega : op = 5 ∨ op = 6 ∨ op = 7 ∨ op = 8 ∨ op = 9 ∨ op = 10 ∨ op = 11 ∨ op = 12) with rfl | rfl | rfl | rfl | rfl | rfl | rfl | rfl
  · exact tj ha hb h
  · exact tl ha hb h
  · by_cases hz : b = 0
    · subst hz; exact rR h
    · exact ti ha hb hz h
  · by_cases hz : b = 0
    · subst hz; exact ue h
    · exact tg ha hb hz h
  · by_cases hz : b = 0
    · subst hz; exact uf h
    · exact th ha hb hz h
  · exact tc h
  · exact td h
  · exact te h
end
section
attribute [local irreducible] awp q9 m7
variable {G : Nat → Option (List PV)}
inductive Good : Tm → Bool → Prop where
  | num (n : Int) (h1 : 0 ≤ n) (h2 : n ≤ 1099511627776) : Good (.mk 1 n []) false
  | var (n : Int) (h : n = 0 ∨ n = 1 ∨ n = 2 ∨ n = 3) : Good (.mk 2 n []) false
  | neg (a : Tm) (h : Good a false) : Good (.mk 3 0 [a]) false
  | not (a : Tm) (h : Good a true) : Good (.mk 4 0 [a]) true
  | bin (o : Int) (a b : Tm) (h1 : 5 ≤ o) (h2 : o ≤ 9) (ha : Good a false) (hb : Good b false) : Good (.mk o 0 [a, b]) false
  | cmp (o : Int) (a b : Tm) (h1 : 10 ≤ o) (h2 : o ≤ 12) (ha : Good a false) (hb : Good b false) : Good (.mk o 0 [a, b]) true
  | log (o : Int) (a b : Tm) (h : o = 13 ∨ o = 14) (ha : Good a true) (hb : Good b true) : Good (.mk o 0 [a, b]) true
theorem tm (t : Tm) : t.form = true → t.typed = true → Good t (x8 t.op) := by
  refine Tm.ind (p := fun t => t.form = true → t.typed = true → Good t (x8 t.op)) (fun t ih hf ht => ?_) t
  rw [Tm.form_eq, Bool.and_eq_true, List.all_eq_true] at hf
  rw [Tm.typed_eq, List.all_eq_true] at ht
  obtain ⟨h1, h2⟩ := hf
  cases t with
  | mk o n ks =>
    simp only [Tm.op, Tm.n, Tm.kids] at *
    simp only [z3, Bool.and_eq_true, decide_eq_true_eq] at h1
    obtain ⟨⟨⟨⟨⟨⟨g1, g2⟩, g3⟩, g4⟩, g5⟩, g6⟩, g7⟩ := h1
    have hk : ∀ k ∈ ks, x8 k.op = E4 o ∧ Good k (E4 o) := fun k hm => by
      have := ht k hm
      simp only [G7, Bool.and_eq_true, beq_iff_eq] at this
      exact ⟨this.1, this.1 ▸ ih k hm (h2 k hm) this.2⟩
    unfold ba at g3
    match ks, hk, g3 with
    | [], hk, g3 =>
      have : o = 1 ∨ o = 2 := by
        simp only [List.length_nil] at g3
        split at g3
        · omega
        · split at g3 <;> omega
      rcases this with rfl | rfl
      · exact Good.num n g4 (g5 rfl)
      · exact Good.var n (by have := g6 rfl; omega)
    | [a], hk, g3 =>
      have : o = 3 ∨ o = 4 := by
        simp only [List.length_cons, List.length_nil] at g3
        split at g3
        · omega
        · split at g3 <;> omega
      have ha := (hk a (by simp)).2
      have hn := g7 (by omega)
      subst hn
      rcases this with rfl | rfl
      · exact Good.neg a ha
      · exact Good.not a ha
    | [a, b], hk, g3 =>
      have h5 : 5 ≤ o := by
        simp only [List.length_cons, List.length_nil] at g3
        split at g3
        · omega
        · split at g3 <;> omega
      have ha := (hk a (by simp)).2
      have hb := (hk b (by simp)).2
      have hn := g7 (by omega)
      subst hn
      rcases (by omega : o ≤ 9 ∨ (10 ≤ o ∧ o ≤ 12) ∨ (o = 13 ∨ o = 14)) with e | e | e
      · have w : E4 o = false := by unfold E4; simp; omega
        have u : x8 o = false := by unfold x8; simp; omega
        rw [w] at ha hb; rw [u]
        exact Good.bin o a b h5 e ha hb
      · have w : E4 o = false := by unfold E4; simp; omega
        have u : x8 o = true := by unfold x8; simp; omega
        rw [w] at ha hb; rw [u]
        exact Good.cmp o a b e.1 e.2 ha hb
      · have w : E4 o = true := by unfold E4; simp; omega
        have u : x8 o = true := by unfold x8; simp; omega
        rw [w] at ha hb; rw [u]
        exact Good.log o a b e ha hb
    | a :: b :: c :: r, hk, g3 =>
      exfalso
      simp only [List.length_cons] at g3
      split at g3
      · omega
      · split at g3 <;> omega
def tp (v : Int → Int) (o n : Int) : List (Int × Bool × Int) → Int × Bool × Int
  | [] => if o = 1 then (n, false, 0) else (v n, false, 0)
  | [a] => if a.2.2 ≠ 0 then (0, false, a.2.2) else if o = 3 then (-a.1, false, 0) else (0, !a.2.1, 0)
  | a :: b :: _ => if a.2.2 ≠ 0 then (0, false, a.2.2) else if o = 13 then (if a.2.1 then b else a) else if o = 14 then (if a.2.1 then a else b)
    else if b.2.2 ≠ 0 then (0, false, b.2.2) else v9 o a.1 b.1
def ev (v : Int → Int) : Tm → Int × Bool × Int
  | .mk o n ks => tp v o n (ks.map (ev v))
theorem dW (v : Int → Int) (o n : Int) : ev v (.mk o n []) = if o = 1 then (n, false, 0) else (v n, false, 0) := by simp [ev, tp]
theorem dX (v : Int → Int) (o n : Int) (a : Tm) : ev v (.mk o n [a]) = if (ev v a).2.2 ≠ 0 then (0, false, (ev v a).2.2) else if o = 3 then (-(ev v a).1, false, 0) else (0, !(ev v a).2.1, 0) := by simp [ev, tp]
theorem ag (v : Int → Int) (o n : Int) (a b : Tm) : ev v (.mk o n [a, b]) = if (ev v a).2.2 ≠ 0 then (0, false, (ev v a).2.2) else if o = 13 then (if (ev v a).2.1 then ev v b else ev v a) else if o = 14 then (if (ev v a).2.1 then ev v a else ev v b)
    else if (ev v b).2.2 ≠ 0 then (0, false, (ev v b).2.2) else v9 o (ev v a).1 (ev v b).1 := by simp [ev, tp]
theorem qn {a b : Int} : Num (O9 a b).1 ∧ ((O9 a b).2 ≠ 0 → (O9 a b).1 = 0) ∧ ((O9 a b).2 = 0 ∨ (O9 a b).2 = 40) := by
  unfold O9
  split
  · exact ⟨⟨by decide, by decide⟩, fun _ => rfl, .inr rfl⟩
  · rename_i h
    refine ⟨?_, fun h => absurd rfl h, .inl rfl⟩
    by_cases hb : b = 0
    · subst hb; simp; exact ⟨by decide, by decide⟩
    · exact ic hb fun e => h ⟨hb, e⟩
theorem ms {o a b : Int} (ha : Num a) : Num (v9 o a b).1 ∧ ((v9 o a b).2.2 ≠ 0 → (v9 o a b).1 = 0 ∧ (v9 o a b).2.1 = false) ∧ ((v9 o a b).2.2 = 0 ∨ (v9 o a b).2.2 = 40 ∨ (v9 o a b).2.2 = 41) := by
  have z : Num 0 := ⟨by decide, by decide⟩
  have hp := qn (a := a) (b := b)
  unfold v9
  repeat' split
  all_goals first
    | exact ⟨z, fun h => ⟨rfl, rfl⟩, .inr (.inl rfl)⟩
    | exact ⟨z, fun h => ⟨rfl, rfl⟩, .inr (.inr rfl)⟩
    | exact ⟨z, fun h => absurd rfl h, .inl rfl⟩
    | exact ⟨cZ ha, fun h => absurd rfl h, .inl rfl⟩
    | exact ⟨da ha, fun h => absurd rfl h, .inl rfl⟩
    | exact ⟨hp.1, fun h => ⟨hp.2.1 h, rfl⟩, by rcases hp.2.2 with e | e <;> simp [e]⟩
    | exact ⟨(by unfold Num; dsimp only; omega), fun h => absurd rfl h, .inl rfl⟩
theorem J6 {v : Int → Int} (hv : ∀ i, Num (v i)) {t : Tm} {k : Bool} (h : Good t k) : (k = false → Num (ev v t).1) ∧ ((ev v t).2.2 ≠ 0 → (ev v t).1 = 0 ∧ (ev v t).2.1 = false) ∧ ((ev v t).2.2 = 0 ∨ (ev v t).2.2 = 40 ∨ (ev v t).2.2 = 41) := by
  have z : Num 0 := ⟨by decide, by decide⟩
  induction h with
  | num n h1 h2 => rw [dW]; simp; unfold Num; omega
  | var n h => rw [dW, if_neg (by decide)]; exact ⟨fun _ => hv n, fun h => absurd rfl h, .inl rfl⟩
  | neg a h ih =>
    rw [dX]
    split
    · rename_i e; exact ⟨fun _ => z, fun _ => ⟨rfl, rfl⟩, ih.2.2⟩
    · have := ih.1 rfl
      rw [if_pos rfl]
      exact ⟨fun _ => (by unfold Num at *; simp only; omega), fun h => absurd rfl h, .inl rfl⟩
  | not a h ih =>
    rw [dX]
    split
    · exact ⟨fun _ => z, fun _ => ⟨rfl, rfl⟩, ih.2.2⟩
    · rw [if_neg (by decide)]; exact ⟨fun e => (by cases e), fun h => absurd rfl h, .inl rfl⟩
  | bin o a b h1 h2 ha hb iha ihb =>
    rw [ag]
    split
    · exact ⟨fun _ => z, fun _ => ⟨rfl, rfl⟩, iha.2.2⟩
    · rw [if_neg (by omega), if_neg (by omega)]
      split
      · exact ⟨fun _ => z, fun _ => ⟨rfl, rfl⟩, ihb.2.2⟩
      · have := ms (o := o) (b := (ev v b).1) (iha.1 rfl)
        exact ⟨fun _ => this.1, this.2⟩
  | cmp o a b h1 h2 ha hb iha ihb =>
    rw [ag]
    split
    · exact ⟨fun _ => z, fun _ => ⟨rfl, rfl⟩, iha.2.2⟩
    · rw [if_neg (by omega), if_neg (by omega)]
      split
      · exact ⟨fun _ => z, fun _ => ⟨rfl, rfl⟩, ihb.2.2⟩
      · have := ms (o := o) (b := (ev v b).1) (iha.1 rfl)
        exact ⟨fun e => (by cases e), this.2⟩
  | log o a b h ha hb iha ihb =>
    rw [ag]
    split
    · exact ⟨fun e => (by cases e), fun _ => ⟨rfl, rfl⟩, iha.2.2⟩
    · rcases h with rfl | rfl
      · rw [if_pos rfl]; split
        · exact ⟨fun e => (by cases e), ihb.2⟩
        · exact ⟨fun e => (by cases e), iha.2⟩
      · rw [if_neg (by decide), if_pos rfl]; split
        · exact ⟨fun e => (by cases e), iha.2⟩
        · exact ⟨fun e => (by cases e), ihb.2⟩
end
section
def N0 := And.intro T2 (And.intro T3 (And.intro T4 (And.intro T27 (And.intro T34 (And.intro T66 (And.intro T68 (And.intro nm ka)))))))
attribute [local irreducible] awp q9 m7
variable {G : Nat → Option (List PV)}
abbrev aV (v : Int → Int) : AV := .agg [.i (v 0), .i (v 1), .i (v 2), .i (v 3)]
abbrev aN (x : Int × Bool × Int) : AV := .tup [.i x.1, .i x.2.2]
abbrev aB (x : Int × Bool × Int) : AV := .tup [.b x.2.1, .i x.2.2]
theorem nW (v : Int → Int) (n : Int) (hn : n = 0 ∨ n = 1 ∨ n = 2 ∨ n = 3) (h : Heap) : f9 Tryz.prog G 85 [.agg [.i 2, .i n, .p (.sl [])], aV v] h (fun r h' => r = .tup [.i (v n), .i 0] ∧ h' = h) := by
  rcases hn with rfl | rfl | rfl | rfl
  all_goals
    refine d9 (rl := []) i6 Tryz.func85 rfl (rs := [.tmp 4, .tmp 5]) rfl Tryz.ntmps85 (by simp) ?_
    repeat' (first | ((repeat ((fail_if_success (refine hK _ ?_)); clear hK K)); refine hK _ ?_; clear hK K) | ((first | refine d8 fun K1 p7 => ?_ | refine d6 fun K1 p7 => ?_ | refine b5 fun A B hA hB => ?_); simp only [S1, simprocAttr, N0]; first | refine p7 _ ?_; clear p7 K1 | ((first | refine hA ?_ | refine hB ?_); clear hA hB A B) | (refine g8 (v := ?_) (fun hg p8 => ?_) ?_; rotate_left; (focus (try ((try simp only [BN] at hg); simp only [S1, simprocAttr, N0, hg] at p8 ⊢)); first | exact p8); refine p7 _ ?_; clear p7 K1) | (((first | (refine ⟨fun hg => hA ?_, fun hg => hB ?_⟩ <;> clear hA hB A B) | refine ⟨fun hg => ?_, fun hg => ?_⟩) <;> (try simp only [BN2] at hg) <;> (try simp only [hg, cndB])) <;> (try (refine p7 _ ?_; clear p7 K1)) <;> (try simp only [BN3] at hg))) | refine b6 fun K hK => ?_ | ((first | apply c8 | apply b8 | apply a9 | refine d5 ?_ | apply b7 | apply c9 | apply d4 | apply d7); try simp only [NB, simprocAttr]))
    all_goals simp only [S1, simprocAttr, ENB, N0]
theorem nX (v : Int → Int) (n : Int) (h : Heap) : f9 Tryz.prog G 85 [.agg [.i 1, .i n, .p (.sl [])], aV v] h (fun r h' => r = .tup [.i n, .i 0] ∧ h' = h) := by
  refine d9 (rl := []) i6 Tryz.func85 rfl (rs := [.tmp 4, .tmp 5]) rfl Tryz.ntmps85 (by simp) ?_
  repeat' (first | ((repeat ((fail_if_success (refine hK _ ?_)); clear hK K)); refine hK _ ?_; clear hK K) | ((first | refine d8 fun K1 p7 => ?_ | refine d6 fun K1 p7 => ?_ | refine b5 fun A B hA hB => ?_); simp only [S1, simprocAttr, N0]; first | refine p7 _ ?_; clear p7 K1 | ((first | refine hA ?_ | refine hB ?_); clear hA hB A B) | (refine g8 (v := ?_) (fun hg p8 => ?_) ?_; rotate_left; (focus (try ((try simp only [BN] at hg); simp only [S1, simprocAttr, N0, hg] at p8 ⊢)); first | exact p8); refine p7 _ ?_; clear p7 K1) | (((first | (refine ⟨fun hg => hA ?_, fun hg => hB ?_⟩ <;> clear hA hB A B) | refine ⟨fun hg => ?_, fun hg => ?_⟩) <;> (try simp only [BN2] at hg) <;> (try simp only [hg, cndB])) <;> (try (refine p7 _ ?_; clear p7 K1)) <;> (try simp only [BN3] at hg))) | refine b6 fun K hK => ?_ | ((first | apply c8 | apply b8 | apply a9 | refine d5 ?_ | apply b7 | apply c9 | apply d4 | apply d7); try simp only [NB, simprocAttr]))
  all_goals simp only [S1, simprocAttr, ENB, N0]
theorem nY (v : Int → Int) (a : Tm) {x : Int × Bool × Int} (hx : Num x.1) (ih : ∀ h : Heap, f9 Tryz.prog G 85 [aT a, aV v] h (fun r h' => r = aN x ∧ h' = h)) (h : Heap) :
    f9 Tryz.prog G 85 [.agg [.i 3, .i 0, .p (.sl [eT a])], aV v] h (fun r h' => r = .tup [.i (-x.1), .i x.2.2] ∧ h' = h) := by
  unfold Num at hx
  have hw := IntWalk.i64_in (-x.1) (by omega)
  have hz : (0 : Int) - x.1 = - x.1 := by omega
  refine d9 (rl := []) i6 Tryz.func85 rfl (rs := [.tmp 4, .tmp 5]) rfl Tryz.ntmps85 (by simp) ?_
  repeat' (first | ((repeat ((fail_if_success (refine hK _ ?_)); clear hK K)); refine hK _ ?_; clear hK K) | ((first | refine d8 fun K1 p7 => ?_ | refine d6 fun K1 p7 => ?_ | refine b5 fun A B hA hB => ?_); simp only [S1, simprocAttr, N0, n8, hw, hz]; first | refine p7 _ ?_; clear p7 K1 | ((first | refine hA ?_ | refine hB ?_); clear hA hB A B) | ((first | apply b9 E85 | apply c7 E85); exact (ih _); refine p7 _ ?_; clear p7 K1) | (refine g8 (v := ?_) (fun hg p8 => ?_) ?_; rotate_left; (focus (try ((try simp only [BN] at hg); simp only [S1, simprocAttr, N0, n8, hw, hz, hg] at p8 ⊢)); first | exact p8 | ((first | apply b9 E85 | apply c7 E85); exact (ih _); exact p8)); refine p7 _ ?_; clear p7 K1) | (((first | (refine ⟨fun hg => hA ?_, fun hg => hB ?_⟩ <;> clear hA hB A B) | refine ⟨fun hg => ?_, fun hg => ?_⟩) <;> (try simp only [BN2] at hg) <;> (try simp only [hg, cndB])) <;> (try (refine p7 _ ?_; clear p7 K1)) <;> (try simp only [BN3] at hg))) | refine b6 fun K hK => ?_ | ((first | apply c8 | apply b8 | apply a9 | refine d5 ?_ | apply b7 | apply c9 | apply d4 | apply d7); try simp only [NB, simprocAttr]))
  all_goals simp only [S1, simprocAttr, ENB, N0]
theorem nZ (v : Int → Int) (o : Int) (h1 : 5 ≤ o) (h2 : o ≤ 9) (a b : Tm) {x y : Int × Bool × Int} (hx : Num x.1) (hy : Num y.1)
    (iha : ∀ h : Heap, f9 Tryz.prog G 85 [aT a, aV v] h (fun r h' => r = aN x ∧ h' = h))
    (ihb : ∀ h : Heap, f9 Tryz.prog G 85 [aT b, aV v] h (fun r h' => r = aN y ∧ h' = h)) (hx0 : x.2.2 ≠ 0 → x.1 = 0) (h : Heap) :
    f9 Tryz.prog G 85 [.agg [.i o, .i 0, .p (.sl [eT a, eT b])], aV v] h (fun r h' => r = aN (if x.2.2 ≠ 0 then (0, false, x.2.2) else if y.2.2 ≠ 0 then (0, false, y.2.2) else v9 o x.1 y.1) ∧ h' = h) := by
  have f1 : (o == 1) = false := by simp; omega
  have f2 : (o == 2) = false := by simp; omega
  have f3 : (o == 3) = false := by simp; omega
  have hz : IntKind.i64.wrap (0 - 0) = 0 := rfl
  have hz0 : IntKind.i64.wrap 0 = 0 := rfl
  by_cases e1 : x.2.2 = 0
  · have f4 : (x.2.2 != 0) = false := by simp [e1]
    by_cases e2 : y.2.2 = 0
    · have f5 : (y.2.2 != 0) = false := by simp [e2]
      refine d9 (rl := []) i6 Tryz.func85 rfl (rs := [.tmp 4, .tmp 5]) rfl Tryz.ntmps85 (by simp) ?_
      repeat' (first | ((repeat ((fail_if_success (refine hK _ ?_)); clear hK K)); refine hK _ ?_; clear hK K) | ((first | refine d8 fun K1 p7 => ?_ | refine d6 fun K1 p7 => ?_ | refine b5 fun A B hA hB => ?_); simp only [S1, simprocAttr, N0, n8, f1, f2, f3, f4, f5]; first | refine p7 _ ?_; clear p7 K1 | ((first | refine hA ?_ | refine hB ?_); clear hA hB A B) | ((first | apply b9 E85 | apply c7 E85); exact (iha _); refine p7 _ ?_; clear p7 K1) | ((first | apply b9 E85 | apply c7 E85); exact (ihb _); refine p7 _ ?_; clear p7 K1) | ((first | apply b9 E95 | apply c7 E95); exact (dc h1 h2 hx hy _); refine p7 _ ?_; clear p7 K1) | (refine g8 (v := ?_) (fun hg p8 => ?_) ?_; rotate_left; (focus (try ((try simp only [BN] at hg); simp only [S1, simprocAttr, N0, n8, f1, f2, f3, f4, f5, hg] at p8 ⊢)); first | exact p8 | ((first | apply b9 E85 | apply c7 E85); exact (iha _); exact p8) | ((first | apply b9 E85 | apply c7 E85); exact (ihb _); exact p8) | ((first | apply b9 E95 | apply c7 E95); exact (dc h1 h2 hx hy _); exact p8)); refine p7 _ ?_; clear p7 K1) | (((first | (refine ⟨fun hg => hA ?_, fun hg => hB ?_⟩ <;> clear hA hB A B) | refine ⟨fun hg => ?_, fun hg => ?_⟩) <;> (try simp only [BN2] at hg) <;> (try simp only [hg, cndB])) <;> (try (refine p7 _ ?_; clear p7 K1)) <;> (try simp only [BN3] at hg))) | refine b6 fun K hK => ?_ | ((first | apply c8 | apply b8 | apply a9 | refine d5 ?_ | apply b7 | apply c9 | apply d4 | apply d7); try simp only [NB, simprocAttr]))
      all_goals simp only [S1, simprocAttr, ENB, N0]
      all_goals simp [e1, e2]
    · have f5 : (y.2.2 != 0) = true := by simp [e2]
      refine d9 (rl := []) i6 Tryz.func85 rfl (rs := [.tmp 4, .tmp 5]) rfl Tryz.ntmps85 (by simp) ?_
      repeat' (first | ((repeat ((fail_if_success (refine hK _ ?_)); clear hK K)); refine hK _ ?_; clear hK K) | ((first | refine d8 fun K1 p7 => ?_ | refine d6 fun K1 p7 => ?_ | refine b5 fun A B hA hB => ?_); simp only [S1, simprocAttr, N0, n8, f1, f2, f3, f4, f5]; first | refine p7 _ ?_; clear p7 K1 | ((first | refine hA ?_ | refine hB ?_); clear hA hB A B) | ((first | apply b9 E85 | apply c7 E85); exact (iha _); refine p7 _ ?_; clear p7 K1) | ((first | apply b9 E85 | apply c7 E85); exact (ihb _); refine p7 _ ?_; clear p7 K1) | (refine g8 (v := ?_) (fun hg p8 => ?_) ?_; rotate_left; (focus (try ((try simp only [BN] at hg); simp only [S1, simprocAttr, N0, n8, f1, f2, f3, f4, f5, hg] at p8 ⊢)); first | exact p8 | ((first | apply b9 E85 | apply c7 E85); exact (iha _); exact p8) | ((first | apply b9 E85 | apply c7 E85); exact (ihb _); exact p8)); refine p7 _ ?_; clear p7 K1) | (((first | (refine ⟨fun hg => hA ?_, fun hg => hB ?_⟩ <;> clear hA hB A B) | refine ⟨fun hg => ?_, fun hg => ?_⟩) <;> (try simp only [BN2] at hg) <;> (try simp only [hg, cndB])) <;> (try (refine p7 _ ?_; clear p7 K1)) <;> (try simp only [BN3] at hg))) | refine b6 fun K hK => ?_ | ((first | apply c8 | apply b8 | apply a9 | refine d5 ?_ | apply b7 | apply c9 | apply d4 | apply d7); try simp only [NB, simprocAttr]))
      all_goals simp only [S1, simprocAttr, ENB, N0]
      all_goals simp [e1, e2]
  · have f4 : (x.2.2 != 0) = true := by simp [e1]
    have f6 := hx0 e1
    refine d9 (rl := []) i6 Tryz.func85 rfl (rs := [.tmp 4, .tmp 5]) rfl Tryz.ntmps85 (by simp) ?_
    repeat' (first | ((repeat ((fail_if_success (refine hK _ ?_)); clear hK K)); refine hK _ ?_; clear hK K) | ((first | refine d8 fun K1 p7 => ?_ | refine d6 fun K1 p7 => ?_ | refine b5 fun A B hA hB => ?_); simp only [S1, simprocAttr, N0, n8, f1, f2, f3, f4, f6, hz, hz0]; first | refine p7 _ ?_; clear p7 K1 | ((first | refine hA ?_ | refine hB ?_); clear hA hB A B) | ((first | apply b9 E85 | apply c7 E85); exact (iha _); refine p7 _ ?_; clear p7 K1) | (refine g8 (v := ?_) (fun hg p8 => ?_) ?_; rotate_left; (focus (try ((try simp only [BN] at hg); simp only [S1, simprocAttr, N0, n8, f1, f2, f3, f4, f6, hz, hz0, hg] at p8 ⊢)); first | exact p8 | ((first | apply b9 E85 | apply c7 E85); exact (iha _); exact p8)); refine p7 _ ?_; clear p7 K1) | (((first | (refine ⟨fun hg => hA ?_, fun hg => hB ?_⟩ <;> clear hA hB A B) | refine ⟨fun hg => ?_, fun hg => ?_⟩) <;> (try simp only [BN2] at hg) <;> (try simp only [hg, cndB])) <;> (try (refine p7 _ ?_; clear p7 K1)) <;> (try simp only [BN3] at hg))) | refine b6 fun K hK => ?_ | ((first | apply c8 | apply b8 | apply a9 | refine d5 ?_ | apply b7 | apply c9 | apply d4 | apply d7); try simp only [NB, simprocAttr]))
    all_goals simp only [S1, simprocAttr, ENB, N0]
    all_goals simp [e1]
theorem ah {v : Int → Int} (hv : ∀ i, Num (v i)) {t : Tm} (ht : Good t false) : ∀ h : Heap, f9 Tryz.prog G 85 [aT t, aV v] h (fun r h' => r = aN (ev v t) ∧ h' = h) := by
  have key : ∀ {t k}, Good t k → k = false → ∀ h : Heap, f9 Tryz.prog G 85 [aT t, aV v] h (fun r h' => r = aN (ev v t) ∧ h' = h) := by
    intro t k hg
    induction hg with
    | num n h1 h2 => intro _ h; rw [dW]; exact nX v n h
    | var n hn => intro _ h; rw [dW, if_neg (by decide)]; exact nW v n hn h
    | neg a hg ih =>
      intro _ h
      have g := J6 hv hg
      refine f9.mono (nY v a (g.1 rfl) (ih rfl) h) ?_
      rintro r h' ⟨rfl, rfl⟩
      refine ⟨?_, rfl⟩
      rw [dX]
      split
      · rename_i e; rw [(g.2.1 e).1]; rfl
      · rename_i e; rw [if_pos rfl, Classical.not_not.mp e]
    | bin o a b h1 h2 ha hb iha ihb =>
      intro _ h
      have g := J6 hv ha
      refine f9.mono (nZ v o h1 h2 a b (g.1 rfl) ((J6 hv hb).1 rfl) (iha rfl) (ihb rfl) (fun e => (g.2.1 e).1) h) ?_
      rintro r h' ⟨rfl, rfl⟩
      refine ⟨?_, rfl⟩
      rw [ag, if_neg (show ¬ o = 13 by omega), if_neg (show ¬ o = 14 by omega)]
    | not => intro e; cases e
    | cmp => intro e; cases e
    | log => intro e; cases e
  exact key ht rfl
end
section
def u5 := And.intro T2 (And.intro T3 (And.intro T4 (And.intro T27 (And.intro T66 (And.intro T68 ka)))))
attribute [local irreducible] awp q9 m7 n7
variable {G : Nat → Option (List PV)}
theorem ug (v : Int → Int) (n : Int) (h : Heap) : f9 Tryz.prog G 89 [.agg [.i 1, .i n, .p (.sl [])], aV v] h (fun r h' => r = aV3 (n, false, 0) ∧ h' = h) := by
  refine d9 (rl := []) i6 Tryz.func89 rfl (rs := [.cell 4 134]) rfl Tryz.ntmps89 (by simp) ?_
  repeat' (first | ((first | refine c8 ?_ | refine b8 ?_ | refine v6 ?_); (try simp only [NB])) | ((repeat ((fail_if_success (refine hK _ ?_)); clear hK K)); refine hK _ ?_; clear hK K) | ((first | refine d8 fun K1 p7 => ?_ | refine d6 fun K1 p7 => ?_ | refine v7 rfl fun K1 p7 => ?_ | refine b5 fun A B hA hB => ?_); simp only [S1, simprocAttr, u5]; first | (refine p7 _ ?_; clear p7 K1) | ((first | refine hA ?_ | refine hB ?_); clear hA hB A B) | (((first | (refine ⟨fun hg => hA ?_, fun hg => hB ?_⟩ <;> clear hA hB A B) | refine ⟨fun hg => ?_, fun hg => ?_⟩) <;> (try simp only [BN2] at hg) <;> (try simp only [hg, cndB])) <;> (try (refine p7 _ ?_; clear p7 K1)) <;> (try simp only [BN3] at hg))) | (refine B4 (v := ?_) rfl rfl (by decide) (fun L K1 p7 => ?_) ?_; rotate_left; (focus (simp only [S1, simprocAttr, u5]; first | (exact p7 _ _ _)))) | (refine b6 fun K hK => ?_) | ((first | refine a9 ?_ | refine v5 (by kernel_rfl) ?_ | refine j4 (by kernel_rfl) ?_ | refine b7 ?_ | refine c9 ?_ | refine d4 ?_ | refine d7 ?_); try simp only [NB, simprocAttr]))
  all_goals simp only [S1, simprocAttr, ENB, u5]
theorem uh (v : Int → Int) (n : Int) (hn : n = 0 ∨ n = 1 ∨ n = 2 ∨ n = 3) (h : Heap) : f9 Tryz.prog G 89 [.agg [.i 2, .i n, .p (.sl [])], aV v] h (fun r h' => r = aV3 (v n, false, 0) ∧ h' = h) := by
  rcases hn with rfl | rfl | rfl | rfl
  all_goals
    refine d9 (rl := []) i6 Tryz.func89 rfl (rs := [.cell 4 134]) rfl Tryz.ntmps89 (by simp) ?_
    repeat' (first | ((first | refine c8 ?_ | refine b8 ?_ | refine v6 ?_); (try simp only [NB])) | ((repeat ((fail_if_success (refine hK _ ?_)); clear hK K)); refine hK _ ?_; clear hK K) | ((first | refine d8 fun K1 p7 => ?_ | refine d6 fun K1 p7 => ?_ | refine v7 rfl fun K1 p7 => ?_ | refine b5 fun A B hA hB => ?_); simp only [S1, simprocAttr, u5]; first | (refine p7 _ ?_; clear p7 K1) | ((first | refine hA ?_ | refine hB ?_); clear hA hB A B) | (((first | (refine ⟨fun hg => hA ?_, fun hg => hB ?_⟩ <;> clear hA hB A B) | refine ⟨fun hg => ?_, fun hg => ?_⟩) <;> (try simp only [BN2] at hg) <;> (try simp only [hg, cndB])) <;> (try (refine p7 _ ?_; clear p7 K1)) <;> (try simp only [BN3] at hg))) | (refine B4 (v := ?_) rfl rfl (by decide) (fun L K1 p7 => ?_) ?_; rotate_left; (focus (simp only [S1, simprocAttr, u5]; first | (exact p7 _ _ _)))) | (refine b6 fun K hK => ?_) | ((first | refine a9 ?_ | refine v5 (by kernel_rfl) ?_ | refine j4 (by kernel_rfl) ?_ | refine b7 ?_ | refine c9 ?_ | refine d4 ?_ | refine d7 ?_); try simp only [NB, simprocAttr]))
    all_goals simp only [S1, simprocAttr, ENB, u5]
theorem ui (v : Int → Int) (a : Tm) {x : Int × Bool × Int} (hx : Num x.1) (ih : ∀ h : Heap, f9 Tryz.prog G 89 [aT a, aV v] h (fun r h' => r = aV3 x ∧ h' = h)) (h : Heap) :
    f9 Tryz.prog G 89 [.agg [.i 3, .i 0, .p (.sl [eT a])], aV v] h (fun r h' => r = aV3 (if x.2.2 ≠ 0 then (0, false, x.2.2) else (-x.1, false, 0)) ∧ h' = h) := by
  unfold Num at hx
  have hw := IntWalk.i64_in (-x.1) (by omega)
  have hz : (0 : Int) - x.1 = - x.1 := by omega
  by_cases e1 : x.2.2 = 0
  · have f4 : (x.2.2 != 0) = false := by simp [e1]
    refine d9 (rl := []) i6 Tryz.func89 rfl (rs := [.cell 4 134]) rfl Tryz.ntmps89 (by simp) ?_
    repeat' (first | ((first | refine c8 ?_ | refine b8 ?_ | refine v6 ?_); (try simp only [NB])) | ((repeat ((fail_if_success (refine hK _ ?_)); clear hK K)); refine hK _ ?_; clear hK K) | ((first | refine d8 fun K1 p7 => ?_ | refine d6 fun K1 p7 => ?_ | refine v7 rfl fun K1 p7 => ?_ | refine b5 fun A B hA hB => ?_); simp only [S1, simprocAttr, u5, n8, hw, hz, f4]; first | (refine p7 _ ?_; clear p7 K1) | ((first | refine hA ?_ | refine hB ?_); clear hA hB A B) | ((first | apply b9 E89 | apply c7 E89); exact (ih _); (refine p7 _ ?_; clear p7 K1)) | (((first | (refine ⟨fun hg => hA ?_, fun hg => hB ?_⟩ <;> clear hA hB A B) | refine ⟨fun hg => ?_, fun hg => ?_⟩) <;> (try simp only [BN2] at hg) <;> (try simp only [hg, cndB])) <;> (try (refine p7 _ ?_; clear p7 K1)) <;> (try simp only [BN3] at hg))) | (refine B4 (v := ?_) rfl rfl (by decide) (fun L K1 p7 => ?_) ?_; rotate_left; (focus (simp only [S1, simprocAttr, u5, n8, hw, hz, f4]; first | (exact p7 _ _ _) | ((first | apply b9 E89 | apply c7 E89); exact (ih _); exact p7 _ _ _)))) | (refine b6 fun K hK => ?_) | ((first | refine a9 ?_ | refine v5 (by kernel_rfl) ?_ | refine j4 (by kernel_rfl) ?_ | refine b7 ?_ | refine c9 ?_ | refine d4 ?_ | refine d7 ?_); try simp only [NB, simprocAttr]))
    all_goals simp only [S1, simprocAttr, ENB, u5]
    all_goals simp [e1]
  · have f4 : (x.2.2 != 0) = true := by simp [e1]
    refine d9 (rl := []) i6 Tryz.func89 rfl (rs := [.cell 4 134]) rfl Tryz.ntmps89 (by simp) ?_
    repeat' (first | ((first | refine c8 ?_ | refine b8 ?_ | refine v6 ?_); (try simp only [NB])) | ((repeat ((fail_if_success (refine hK _ ?_)); clear hK K)); refine hK _ ?_; clear hK K) | ((first | refine d8 fun K1 p7 => ?_ | refine d6 fun K1 p7 => ?_ | refine v7 rfl fun K1 p7 => ?_ | refine b5 fun A B hA hB => ?_); simp only [S1, simprocAttr, u5, n8, hw, hz, f4]; first | (refine p7 _ ?_; clear p7 K1) | ((first | refine hA ?_ | refine hB ?_); clear hA hB A B) | ((first | apply b9 E89 | apply c7 E89); exact (ih _); (refine p7 _ ?_; clear p7 K1)) | (((first | (refine ⟨fun hg => hA ?_, fun hg => hB ?_⟩ <;> clear hA hB A B) | refine ⟨fun hg => ?_, fun hg => ?_⟩) <;> (try simp only [BN2] at hg) <;> (try simp only [hg, cndB])) <;> (try (refine p7 _ ?_; clear p7 K1)) <;> (try simp only [BN3] at hg))) | (refine B4 (v := ?_) rfl rfl (by decide) (fun L K1 p7 => ?_) ?_; rotate_left; (focus (simp only [S1, simprocAttr, u5, n8, hw, hz, f4]; first | (exact p7 _ _ _) | ((first | apply b9 E89 | apply c7 E89); exact (ih _); exact p7 _ _ _)))) | (refine b6 fun K hK => ?_) | ((first | refine a9 ?_ | refine v5 (by kernel_rfl) ?_ | refine j4 (by kernel_rfl) ?_ | refine b7 ?_ | refine c9 ?_ | refine d4 ?_ | refine d7 ?_); try simp only [NB, simprocAttr]))
    all_goals simp only [S1, simprocAttr, ENB, u5]
    all_goals simp [e1]
theorem uj (v : Int → Int) (a : Tm) {x : Int × Bool × Int} (ih : ∀ h : Heap, f9 Tryz.prog G 89 [aT a, aV v] h (fun r h' => r = aV3 x ∧ h' = h)) (h : Heap) :
    f9 Tryz.prog G 89 [.agg [.i 4, .i 0, .p (.sl [eT a])], aV v] h (fun r h' => r = aV3 (if x.2.2 ≠ 0 then (0, false, x.2.2) else (0, !x.2.1, 0)) ∧ h' = h) := by
  by_cases e1 : x.2.2 = 0
  · have f4 : (x.2.2 != 0) = false := by simp [e1]
    refine d9 (rl := []) i6 Tryz.func89 rfl (rs := [.cell 4 134]) rfl Tryz.ntmps89 (by simp) ?_
    repeat' (first | ((first | refine c8 ?_ | refine b8 ?_ | refine v6 ?_); (try simp only [NB])) | ((repeat ((fail_if_success (refine hK _ ?_)); clear hK K)); refine hK _ ?_; clear hK K) | ((first | refine d8 fun K1 p7 => ?_ | refine d6 fun K1 p7 => ?_ | refine v7 rfl fun K1 p7 => ?_ | refine b5 fun A B hA hB => ?_); simp only [S1, simprocAttr, u5, n8, f4]; first | (refine p7 _ ?_; clear p7 K1) | ((first | refine hA ?_ | refine hB ?_); clear hA hB A B) | ((first | apply b9 E89 | apply c7 E89); exact (ih _); (refine p7 _ ?_; clear p7 K1)) | (((first | (refine ⟨fun hg => hA ?_, fun hg => hB ?_⟩ <;> clear hA hB A B) | refine ⟨fun hg => ?_, fun hg => ?_⟩) <;> (try simp only [BN2] at hg) <;> (try simp only [hg, cndB])) <;> (try (refine p7 _ ?_; clear p7 K1)) <;> (try simp only [BN3] at hg))) | (refine B4 (v := ?_) rfl rfl (by decide) (fun L K1 p7 => ?_) ?_; rotate_left; (focus (simp only [S1, simprocAttr, u5, n8, f4]; first | (exact p7 _ _ _) | ((first | apply b9 E89 | apply c7 E89); exact (ih _); exact p7 _ _ _)))) | (refine b6 fun K hK => ?_) | ((first | refine a9 ?_ | refine v5 (by kernel_rfl) ?_ | refine j4 (by kernel_rfl) ?_ | refine b7 ?_ | refine c9 ?_ | refine d4 ?_ | refine d7 ?_); try simp only [NB, simprocAttr]))
    all_goals simp only [S1, simprocAttr, ENB, u5]
    all_goals simp [e1]
  · have f4 : (x.2.2 != 0) = true := by simp [e1]
    refine d9 (rl := []) i6 Tryz.func89 rfl (rs := [.cell 4 134]) rfl Tryz.ntmps89 (by simp) ?_
    repeat' (first | ((first | refine c8 ?_ | refine b8 ?_ | refine v6 ?_); (try simp only [NB])) | ((repeat ((fail_if_success (refine hK _ ?_)); clear hK K)); refine hK _ ?_; clear hK K) | ((first | refine d8 fun K1 p7 => ?_ | refine d6 fun K1 p7 => ?_ | refine v7 rfl fun K1 p7 => ?_ | refine b5 fun A B hA hB => ?_); simp only [S1, simprocAttr, u5, n8, f4]; first | (refine p7 _ ?_; clear p7 K1) | ((first | refine hA ?_ | refine hB ?_); clear hA hB A B) | ((first | apply b9 E89 | apply c7 E89); exact (ih _); (refine p7 _ ?_; clear p7 K1)) | (((first | (refine ⟨fun hg => hA ?_, fun hg => hB ?_⟩ <;> clear hA hB A B) | refine ⟨fun hg => ?_, fun hg => ?_⟩) <;> (try simp only [BN2] at hg) <;> (try simp only [hg, cndB])) <;> (try (refine p7 _ ?_; clear p7 K1)) <;> (try simp only [BN3] at hg))) | (refine B4 (v := ?_) rfl rfl (by decide) (fun L K1 p7 => ?_) ?_; rotate_left; (focus (simp only [S1, simprocAttr, u5, n8, f4]; first | (exact p7 _ _ _) | ((first | apply b9 E89 | apply c7 E89); exact (ih _); exact p7 _ _ _)))) | (refine b6 fun K hK => ?_) | ((first | refine a9 ?_ | refine v5 (by kernel_rfl) ?_ | refine j4 (by kernel_rfl) ?_ | refine b7 ?_ | refine c9 ?_ | refine d4 ?_ | refine d7 ?_); try simp only [NB, simprocAttr]))
    all_goals simp only [S1, simprocAttr, ENB, u5]
    all_goals simp [e1]
theorem uk (v : Int → Int) (o : Int) (ho : o = 13 ∨ o = 14) (a b : Tm) {x y : Int × Bool × Int}
    (iha : ∀ h : Heap, f9 Tryz.prog G 89 [aT a, aV v] h (fun r h' => r = aV3 x ∧ h' = h))
    (ihb : ∀ h : Heap, f9 Tryz.prog G 89 [aT b, aV v] h (fun r h' => r = aV3 y ∧ h' = h)) (h : Heap) :
    f9 Tryz.prog G 89 [.agg [.i o, .i 0, .p (.sl [eT a, eT b])], aV v] h (fun r h' => r = aV3 (if x.2.2 ≠ 0 then (0, false, x.2.2) else if o = 13 then (if x.2.1 then y else x) else (if x.2.1 then x else y)) ∧ h' = h) := by
  by_cases e1 : x.2.2 = 0
  · have f4 : (x.2.2 != 0) = false := by simp [e1]
    obtain ⟨x1, x2, x3⟩ := x
    dsimp only at *
    subst e1
    rcases ho with rfl | rfl
    all_goals
      cases x2
      all_goals
        refine d9 (rl := []) i6 Tryz.func89 rfl (rs := [.cell 4 134]) rfl Tryz.ntmps89 (by simp) ?_
        repeat' (first | ((first | refine c8 ?_ | refine b8 ?_ | refine v6 ?_); (try simp only [NB])) | ((repeat ((fail_if_success (refine hK _ ?_)); clear hK K)); refine hK _ ?_; clear hK K) | ((first | refine d8 fun K1 p7 => ?_ | refine d6 fun K1 p7 => ?_ | refine v7 rfl fun K1 p7 => ?_ | refine b5 fun A B hA hB => ?_); simp only [S1, simprocAttr, u5, n8]; first | (refine p7 _ ?_; clear p7 K1) | ((first | refine hA ?_ | refine hB ?_); clear hA hB A B) | ((first | apply b9 E89 | apply c7 E89); exact (iha _); (refine p7 _ ?_; clear p7 K1)) | ((first | apply b9 E89 | apply c7 E89); exact (ihb _); (refine p7 _ ?_; clear p7 K1)) | (((first | (refine ⟨fun hg => hA ?_, fun hg => hB ?_⟩ <;> clear hA hB A B) | refine ⟨fun hg => ?_, fun hg => ?_⟩) <;> (try simp only [BN2] at hg) <;> (try simp only [hg, cndB])) <;> (try (refine p7 _ ?_; clear p7 K1)) <;> (try simp only [BN3] at hg))) | (refine B4 (v := ?_) rfl rfl (by decide) (fun L K1 p7 => ?_) ?_; rotate_left; (focus (simp only [S1, simprocAttr, u5, n8]; first | (exact p7 _ _ _) | ((first | apply b9 E89 | apply c7 E89); exact (iha _); exact p7 _ _ _) | ((first | apply b9 E89 | apply c7 E89); exact (ihb _); exact p7 _ _ _)))) | (refine b6 fun K hK => ?_) | ((first | refine a9 ?_ | refine v5 (by kernel_rfl) ?_ | refine j4 (by kernel_rfl) ?_ | refine b7 ?_ | refine c9 ?_ | refine d4 ?_ | refine d7 ?_); try simp only [NB, simprocAttr]))
        all_goals simp only [S1, simprocAttr, ENB, u5]
        all_goals simp
  · have f4 : (x.2.2 != 0) = true := by simp [e1]
    rcases ho with rfl | rfl
    all_goals
      refine d9 (rl := []) i6 Tryz.func89 rfl (rs := [.cell 4 134]) rfl Tryz.ntmps89 (by simp) ?_
      repeat' (first | ((first | refine c8 ?_ | refine b8 ?_ | refine v6 ?_); (try simp only [NB])) | ((repeat ((fail_if_success (refine hK _ ?_)); clear hK K)); refine hK _ ?_; clear hK K) | ((first | refine d8 fun K1 p7 => ?_ | refine d6 fun K1 p7 => ?_ | refine v7 rfl fun K1 p7 => ?_ | refine b5 fun A B hA hB => ?_); simp only [S1, simprocAttr, u5, n8, f4]; first | (refine p7 _ ?_; clear p7 K1) | ((first | refine hA ?_ | refine hB ?_); clear hA hB A B) | ((first | apply b9 E89 | apply c7 E89); exact (iha _); (refine p7 _ ?_; clear p7 K1)) | (((first | (refine ⟨fun hg => hA ?_, fun hg => hB ?_⟩ <;> clear hA hB A B) | refine ⟨fun hg => ?_, fun hg => ?_⟩) <;> (try simp only [BN2] at hg) <;> (try simp only [hg, cndB])) <;> (try (refine p7 _ ?_; clear p7 K1)) <;> (try simp only [BN3] at hg))) | (refine B4 (v := ?_) rfl rfl (by decide) (fun L K1 p7 => ?_) ?_; rotate_left; (focus (simp only [S1, simprocAttr, u5, n8, f4]; first | (exact p7 _ _ _) | ((first | apply b9 E89 | apply c7 E89); exact (iha _); exact p7 _ _ _)))) | (refine b6 fun K hK => ?_) | ((first | refine a9 ?_ | refine v5 (by kernel_rfl) ?_ | refine j4 (by kernel_rfl) ?_ | refine b7 ?_ | refine c9 ?_ | refine d4 ?_ | refine d7 ?_); try simp only [NB, simprocAttr]))
      all_goals simp only [S1, simprocAttr, ENB, u5]
      all_goals simp [e1]
theorem rS (v : Int → Int) (o : Int) (h1 : 5 ≤ o) (h2 : o ≤ 12) (a b : Tm) {x y : Int × Bool × Int} (hx : Num x.1) (hy : Num y.1)
    (iha : ∀ h : Heap, f9 Tryz.prog G 89 [aT a, aV v] h (fun r h' => r = aV3 x ∧ h' = h))
    (ihb : ∀ h : Heap, f9 Tryz.prog G 89 [aT b, aV v] h (fun r h' => r = aV3 y ∧ h' = h)) (h : Heap) :
    f9 Tryz.prog G 89 [.agg [.i o, .i 0, .p (.sl [eT a, eT b])], aV v] h (fun r h' => r = aV3 (if x.2.2 ≠ 0 then (0, false, x.2.2) else if y.2.2 ≠ 0 then (0, false, y.2.2) else v9 o x.1 y.1) ∧ h' = h) := by
  have f1 : (o == 1) = false := by simp; omega
  have f2 : (o == 2) = false := by simp; omega
  have f3 : (o == 3) = false := by simp; omega
  have f6 : (o == 4) = false := by simp; omega
  have f7 : (o == 13) = false := by simp; omega
  have f8 : (o == 14) = false := by simp; omega
  by_cases e1 : x.2.2 = 0
  · have f4 : (x.2.2 != 0) = false := by simp [e1]
    by_cases e2 : y.2.2 = 0
    · have f5 : (y.2.2 != 0) = false := by simp [e2]
      refine d9 (rl := []) i6 Tryz.func89 rfl (rs := [.cell 4 134]) rfl Tryz.ntmps89 (by simp) ?_
      repeat' (first | ((first | refine c8 ?_ | refine b8 ?_ | refine v6 ?_); (try simp only [NB])) | ((repeat ((fail_if_success (refine hK _ ?_)); clear hK K)); refine hK _ ?_; clear hK K) | ((first | refine d8 fun K1 p7 => ?_ | refine d6 fun K1 p7 => ?_ | refine v7 rfl fun K1 p7 => ?_ | refine b5 fun A B hA hB => ?_); simp only [S1, simprocAttr, u5, n8, f1, f2, f3, f4, f5, f6, f7, f8]; first | (refine p7 _ ?_; clear p7 K1) | ((first | refine hA ?_ | refine hB ?_); clear hA hB A B) | ((first | apply b9 E89 | apply c7 E89); exact (iha _); (refine p7 _ ?_; clear p7 K1)) | ((first | apply b9 E89 | apply c7 E89); exact (ihb _); (refine p7 _ ?_; clear p7 K1)) | ((first | apply b9 E97 | apply c7 E97); exact (jz h1 h2 hx hy _); (refine p7 _ ?_; clear p7 K1)) | (((first | (refine ⟨fun hg => hA ?_, fun hg => hB ?_⟩ <;> clear hA hB A B) | refine ⟨fun hg => ?_, fun hg => ?_⟩) <;> (try simp only [BN2] at hg) <;> (try simp only [hg, cndB])) <;> (try (refine p7 _ ?_; clear p7 K1)) <;> (try simp only [BN3] at hg))) | (refine B4 (v := ?_) rfl rfl (by decide) (fun L K1 p7 => ?_) ?_; rotate_left; (focus (simp only [S1, simprocAttr, u5, n8, f1, f2, f3, f4, f5, f6, f7, f8]; first | (exact p7 _ _ _) | ((first | apply b9 E89 | apply c7 E89); exact (iha _); exact p7 _ _ _) | ((first | apply b9 E89 | apply c7 E89); exact (ihb _); exact p7 _ _ _) | ((first | apply b9 E97 | apply c7 E97); exact (jz h1 h2 hx hy _); exact p7 _ _ _)))) | (refine b6 fun K hK => ?_) | ((first | refine a9 ?_ | refine v5 (by kernel_rfl) ?_ | refine j4 (by kernel_rfl) ?_ | refine b7 ?_ | refine c9 ?_ | refine d4 ?_ | refine d7 ?_); try simp only [NB, simprocAttr]))
      all_goals simp only [S1, simprocAttr, ENB, u5]
      all_goals simp [e1, e2]
    · have f5 : (y.2.2 != 0) = true := by simp [e2]
      refine d9 (rl := []) i6 Tryz.func89 rfl (rs := [.cell 4 134]) rfl Tryz.ntmps89 (by simp) ?_
      repeat' (first | ((first | refine c8 ?_ | refine b8 ?_ | refine v6 ?_); (try simp only [NB])) | ((repeat ((fail_if_success (refine hK _ ?_)); clear hK K)); refine hK _ ?_; clear hK K) | ((first | refine d8 fun K1 p7 => ?_ | refine d6 fun K1 p7 => ?_ | refine v7 rfl fun K1 p7 => ?_ | refine b5 fun A B hA hB => ?_); simp only [S1, simprocAttr, u5, n8, f1, f2, f3, f4, f5, f6, f7, f8]; first | (refine p7 _ ?_; clear p7 K1) | ((first | refine hA ?_ | refine hB ?_); clear hA hB A B) | ((first | apply b9 E89 | apply c7 E89); exact (iha _); (refine p7 _ ?_; clear p7 K1)) | ((first | apply b9 E89 | apply c7 E89); exact (ihb _); (refine p7 _ ?_; clear p7 K1)) | (((first | (refine ⟨fun hg => hA ?_, fun hg => hB ?_⟩ <;> clear hA hB A B) | refine ⟨fun hg => ?_, fun hg => ?_⟩) <;> (try simp only [BN2] at hg) <;> (try simp only [hg, cndB])) <;> (try (refine p7 _ ?_; clear p7 K1)) <;> (try simp only [BN3] at hg))) | (refine B4 (v := ?_) rfl rfl (by decide) (fun L K1 p7 => ?_) ?_; rotate_left; (focus (simp only [S1, simprocAttr, u5, n8, f1, f2, f3, f4, f5, f6, f7, f8]; first | (exact p7 _ _ _) | ((first | apply b9 E89 | apply c7 E89); exact (iha _); exact p7 _ _ _) | ((first | apply b9 E89 | apply c7 E89); exact (ihb _); exact p7 _ _ _)))) | (refine b6 fun K hK => ?_) | ((first | refine a9 ?_ | refine v5 (by kernel_rfl) ?_ | refine j4 (by kernel_rfl) ?_ | refine b7 ?_ | refine c9 ?_ | refine d4 ?_ | refine d7 ?_); try simp only [NB, simprocAttr]))
      all_goals simp only [S1, simprocAttr, ENB, u5]
      all_goals simp [e1, e2]
  · have f4 : (x.2.2 != 0) = true := by simp [e1]
    refine d9 (rl := []) i6 Tryz.func89 rfl (rs := [.cell 4 134]) rfl Tryz.ntmps89 (by simp) ?_
    repeat' (first | ((first | refine c8 ?_ | refine b8 ?_ | refine v6 ?_); (try simp only [NB])) | ((repeat ((fail_if_success (refine hK _ ?_)); clear hK K)); refine hK _ ?_; clear hK K) | ((first | refine d8 fun K1 p7 => ?_ | refine d6 fun K1 p7 => ?_ | refine v7 rfl fun K1 p7 => ?_ | refine b5 fun A B hA hB => ?_); simp only [S1, simprocAttr, u5, n8, f1, f2, f3, f4, f6, f7, f8]; first | (refine p7 _ ?_; clear p7 K1) | ((first | refine hA ?_ | refine hB ?_); clear hA hB A B) | ((first | apply b9 E89 | apply c7 E89); exact (iha _); (refine p7 _ ?_; clear p7 K1)) | (((first | (refine ⟨fun hg => hA ?_, fun hg => hB ?_⟩ <;> clear hA hB A B) | refine ⟨fun hg => ?_, fun hg => ?_⟩) <;> (try simp only [BN2] at hg) <;> (try simp only [hg, cndB])) <;> (try (refine p7 _ ?_; clear p7 K1)) <;> (try simp only [BN3] at hg))) | (refine B4 (v := ?_) rfl rfl (by decide) (fun L K1 p7 => ?_) ?_; rotate_left; (focus (simp only [S1, simprocAttr, u5, n8, f1, f2, f3, f4, f6, f7, f8]; first | (exact p7 _ _ _) | ((first | apply b9 E89 | apply c7 E89); exact (iha _); exact p7 _ _ _)))) | (refine b6 fun K hK => ?_) | ((first | refine a9 ?_ | refine v5 (by kernel_rfl) ?_ | refine j4 (by kernel_rfl) ?_ | refine b7 ?_ | refine c9 ?_ | refine d4 ?_ | refine d7 ?_); try simp only [NB, simprocAttr]))
    all_goals simp only [S1, simprocAttr, ENB, u5]
    all_goals simp [e1]
theorem dg {v : Int → Int} (hv : ∀ i, Num (v i)) {t : Tm} {k : Bool} (ht : Good t k) : ∀ h : Heap, f9 Tryz.prog G 89 [aT t, aV v] h (fun r h' => r = aV3 (ev v t) ∧ h' = h) := by
  induction ht with
  | num n h1 h2 => intro h; rw [dW]; exact ug v n h
  | var n hn => intro h; rw [dW, if_neg (by decide)]; exact uh v n hn h
  | neg a hg ih =>
    intro h
    refine f9.mono (ui v a ((J6 hv hg).1 rfl) ih h) ?_
    rintro r h' ⟨rfl, rfl⟩
    exact ⟨by rw [dX, if_pos (rfl : (3 : Int) = 3)], rfl⟩
  | not a hg ih =>
    intro h
    refine f9.mono (uj v a ih h) ?_
    rintro r h' ⟨rfl, rfl⟩
    exact ⟨by rw [dX, if_neg (by decide : ¬ (4 : Int) = 3)], rfl⟩
  | bin o a b h1 h2 ha hb iha ihb =>
    intro h
    refine f9.mono (rS v o h1 (by omega) a b ((J6 hv ha).1 rfl) ((J6 hv hb).1 rfl) iha ihb h) ?_
    rintro r h' ⟨rfl, rfl⟩
    exact ⟨by rw [ag, if_neg (show ¬ o = 13 by omega), if_neg (show ¬ o = 14 by omega)], rfl⟩
  | cmp o a b h1 h2 ha hb iha ihb =>
    intro h
    refine f9.mono (rS v o (by omega) h2 a b ((J6 hv ha).1 rfl) ((J6 hv hb).1 rfl) iha ihb h) ?_
    rintro r h' ⟨rfl, rfl⟩
    exact ⟨by rw [ag, if_neg (show ¬ o = 13 by omega), if_neg (show ¬ o = 14 by omega)], rfl⟩
  | log o a b ho ha hb iha ihb =>
    intro h
    refine f9.mono (uk v o ho a b iha ihb h) ?_
    rintro r h' ⟨rfl, rfl⟩
    refine ⟨?_, rfl⟩
    rw [ag]
    rcases ho with rfl | rfl
    · rfl
    · rfl
end
section
def U4 := And.intro T2 (And.intro T3 (And.intro T4 (And.intro T27 (And.intro T34 (And.intro T66 (And.intro T68 (And.intro nm ka)))))))
attribute [local irreducible] awp q9 m7
variable {G : Nat → Option (List PV)}
theorem qo (v : Int → Int) (a : Tm) {x : Int × Bool × Int} (ih : ∀ h : Heap, f9 Tryz.prog G 96 [aT a, aV v] h (fun r h' => r = aB x ∧ h' = h)) (h : Heap) :
    f9 Tryz.prog G 96 [.agg [.i 4, .i 0, .p (.sl [eT a])], aV v] h (fun r h' => r = .tup [.b (!x.2.1 && x.2.2 == 0), .i x.2.2] ∧ h' = h) := by
  refine d9 (rl := []) i6 Tryz.func96 rfl (rs := [.tmp 4, .tmp 5]) rfl Tryz.ntmps96 (by simp) ?_
  repeat' (first | ((repeat ((fail_if_success (refine hK _ ?_)); clear hK K)); refine hK _ ?_; clear hK K) | ((first | refine d8 fun K1 p7 => ?_ | refine d6 fun K1 p7 => ?_ | refine b5 fun A B hA hB => ?_); simp only [S1, simprocAttr, U4, n8]; first | refine p7 _ ?_; clear p7 K1 | ((first | refine hA ?_ | refine hB ?_); clear hA hB A B) | ((first | apply b9 E96 | apply c7 E96); exact (ih _); refine p7 _ ?_; clear p7 K1) | (refine g8 (v := ?_) (fun hg p8 => ?_) ?_; rotate_left; (focus (try ((try simp only [BN] at hg); simp only [S1, simprocAttr, U4, n8, hg] at p8 ⊢)); first | exact p8 | ((first | apply b9 E96 | apply c7 E96); exact (ih _); exact p8)); refine p7 _ ?_; clear p7 K1) | (((first | (refine ⟨fun hg => hA ?_, fun hg => hB ?_⟩ <;> clear hA hB A B) | refine ⟨fun hg => ?_, fun hg => ?_⟩) <;> (try simp only [BN2] at hg) <;> (try simp only [hg, cndB])) <;> (try (refine p7 _ ?_; clear p7 K1)) <;> (try simp only [BN3] at hg))) | refine b6 fun K hK => ?_ | ((first | apply c8 | apply b8 | apply a9 | refine d5 ?_ | apply b7 | apply c9 | apply d4 | apply d7); try simp only [NB, simprocAttr]))
  all_goals simp only [S1, simprocAttr, ENB, U4]
  all_goals trace_state
theorem qq (v : Int → Int) (o : Int) (ho : o = 13 ∨ o = 14) (a b : Tm) {x y : Int × Bool × Int}
    (iha : ∀ h : Heap, f9 Tryz.prog G 96 [aT a, aV v] h (fun r h' => r = aB x ∧ h' = h))
    (ihb : ∀ h : Heap, f9 Tryz.prog G 96 [aT b, aV v] h (fun r h' => r = aB y ∧ h' = h)) (h : Heap) :
    f9 Tryz.prog G 96 [.agg [.i o, .i 0, .p (.sl [eT a, eT b])], aV v] h (fun r h' => r = aB (if x.2.2 ≠ 0 then x else if x.2.1 = (o == 14) then x else y) ∧ h' = h) := by
  rcases ho with rfl | rfl
  all_goals
    cases hx : x.2.1 with
    | true =>
      by_cases e1 : x.2.2 = 0
      · refine d9 (rl := []) i6 Tryz.func96 rfl (rs := [.tmp 4, .tmp 5]) rfl Tryz.ntmps96 (by simp) ?_
        repeat' (first | ((repeat ((fail_if_success (refine hK _ ?_)); clear hK K)); refine hK _ ?_; clear hK K) | ((first | refine d8 fun K1 p7 => ?_ | refine d6 fun K1 p7 => ?_ | refine b5 fun A B hA hB => ?_); simp only [S1, simprocAttr, U4, n8, e1, hx]; first | refine p7 _ ?_; clear p7 K1 | ((first | refine hA ?_ | refine hB ?_); clear hA hB A B) | ((first | apply b9 E96 | apply c7 E96); exact (iha _); refine p7 _ ?_; clear p7 K1) | ((first | apply b9 E96 | apply c7 E96); exact (ihb _); refine p7 _ ?_; clear p7 K1) | (refine g8 (v := ?_) (fun hg p8 => ?_) ?_; rotate_left; (focus (try ((try simp only [BN] at hg); simp only [S1, simprocAttr, U4, n8, e1, hx, hg] at p8 ⊢)); first | exact p8 | ((first | apply b9 E96 | apply c7 E96); exact (iha _); exact p8) | ((first | apply b9 E96 | apply c7 E96); exact (ihb _); exact p8)); refine p7 _ ?_; clear p7 K1) | (((first | (refine ⟨fun hg => hA ?_, fun hg => hB ?_⟩ <;> clear hA hB A B) | refine ⟨fun hg => ?_, fun hg => ?_⟩) <;> (try simp only [BN2] at hg) <;> (try simp only [hg, cndB])) <;> (try (refine p7 _ ?_; clear p7 K1)) <;> (try simp only [BN3] at hg))) | refine b6 fun K hK => ?_ | ((first | apply c8 | apply b8 | apply a9 | refine d5 ?_ | apply b7 | apply c9 | apply d4 | apply d7); try simp only [NB, simprocAttr]))
        all_goals simp only [S1, simprocAttr, ENB, U4]
        all_goals simp [e1, hx]
      · have f4 : (x.2.2 != 0) = true := by simp [e1]
        refine d9 (rl := []) i6 Tryz.func96 rfl (rs := [.tmp 4, .tmp 5]) rfl Tryz.ntmps96 (by simp) ?_
        repeat' (first | ((repeat ((fail_if_success (refine hK _ ?_)); clear hK K)); refine hK _ ?_; clear hK K) | ((first | refine d8 fun K1 p7 => ?_ | refine d6 fun K1 p7 => ?_ | refine b5 fun A B hA hB => ?_); simp only [S1, simprocAttr, U4, n8, f4, hx]; first | refine p7 _ ?_; clear p7 K1 | ((first | refine hA ?_ | refine hB ?_); clear hA hB A B) | ((first | apply b9 E96 | apply c7 E96); exact (iha _); refine p7 _ ?_; clear p7 K1) | ((first | apply b9 E96 | apply c7 E96); exact (ihb _); refine p7 _ ?_; clear p7 K1) | (refine g8 (v := ?_) (fun hg p8 => ?_) ?_; rotate_left; (focus (try ((try simp only [BN] at hg); simp only [S1, simprocAttr, U4, n8, f4, hx, hg] at p8 ⊢)); first | exact p8 | ((first | apply b9 E96 | apply c7 E96); exact (iha _); exact p8) | ((first | apply b9 E96 | apply c7 E96); exact (ihb _); exact p8)); refine p7 _ ?_; clear p7 K1) | (((first | (refine ⟨fun hg => hA ?_, fun hg => hB ?_⟩ <;> clear hA hB A B) | refine ⟨fun hg => ?_, fun hg => ?_⟩) <;> (try simp only [BN2] at hg) <;> (try simp only [hg, cndB])) <;> (try (refine p7 _ ?_; clear p7 K1)) <;> (try simp only [BN3] at hg))) | refine b6 fun K hK => ?_ | ((first | apply c8 | apply b8 | apply a9 | refine d5 ?_ | apply b7 | apply c9 | apply d4 | apply d7); try simp only [NB, simprocAttr]))
        all_goals simp only [S1, simprocAttr, ENB, U4]
        all_goals simp [e1, hx]
    | false =>
      by_cases e1 : x.2.2 = 0
      · refine d9 (rl := []) i6 Tryz.func96 rfl (rs := [.tmp 4, .tmp 5]) rfl Tryz.ntmps96 (by simp) ?_
        repeat' (first | ((repeat ((fail_if_success (refine hK _ ?_)); clear hK K)); refine hK _ ?_; clear hK K) | ((first | refine d8 fun K1 p7 => ?_ | refine d6 fun K1 p7 => ?_ | refine b5 fun A B hA hB => ?_); simp only [S1, simprocAttr, U4, n8, e1, hx]; first | refine p7 _ ?_; clear p7 K1 | ((first | refine hA ?_ | refine hB ?_); clear hA hB A B) | ((first | apply b9 E96 | apply c7 E96); exact (iha _); refine p7 _ ?_; clear p7 K1) | ((first | apply b9 E96 | apply c7 E96); exact (ihb _); refine p7 _ ?_; clear p7 K1) | (refine g8 (v := ?_) (fun hg p8 => ?_) ?_; rotate_left; (focus (try ((try simp only [BN] at hg); simp only [S1, simprocAttr, U4, n8, e1, hx, hg] at p8 ⊢)); first | exact p8 | ((first | apply b9 E96 | apply c7 E96); exact (iha _); exact p8) | ((first | apply b9 E96 | apply c7 E96); exact (ihb _); exact p8)); refine p7 _ ?_; clear p7 K1) | (((first | (refine ⟨fun hg => hA ?_, fun hg => hB ?_⟩ <;> clear hA hB A B) | refine ⟨fun hg => ?_, fun hg => ?_⟩) <;> (try simp only [BN2] at hg) <;> (try simp only [hg, cndB])) <;> (try (refine p7 _ ?_; clear p7 K1)) <;> (try simp only [BN3] at hg))) | refine b6 fun K hK => ?_ | ((first | apply c8 | apply b8 | apply a9 | refine d5 ?_ | apply b7 | apply c9 | apply d4 | apply d7); try simp only [NB, simprocAttr]))
        all_goals simp only [S1, simprocAttr, ENB, U4]
        all_goals simp [e1, hx]
      · have f4 : (x.2.2 != 0) = true := by simp [e1]
        refine d9 (rl := []) i6 Tryz.func96 rfl (rs := [.tmp 4, .tmp 5]) rfl Tryz.ntmps96 (by simp) ?_
        repeat' (first | ((repeat ((fail_if_success (refine hK _ ?_)); clear hK K)); refine hK _ ?_; clear hK K) | ((first | refine d8 fun K1 p7 => ?_ | refine d6 fun K1 p7 => ?_ | refine b5 fun A B hA hB => ?_); simp only [S1, simprocAttr, U4, n8, f4, hx]; first | refine p7 _ ?_; clear p7 K1 | ((first | refine hA ?_ | refine hB ?_); clear hA hB A B) | ((first | apply b9 E96 | apply c7 E96); exact (iha _); refine p7 _ ?_; clear p7 K1) | ((first | apply b9 E96 | apply c7 E96); exact (ihb _); refine p7 _ ?_; clear p7 K1) | (refine g8 (v := ?_) (fun hg p8 => ?_) ?_; rotate_left; (focus (try ((try simp only [BN] at hg); simp only [S1, simprocAttr, U4, n8, f4, hx, hg] at p8 ⊢)); first | exact p8 | ((first | apply b9 E96 | apply c7 E96); exact (iha _); exact p8) | ((first | apply b9 E96 | apply c7 E96); exact (ihb _); exact p8)); refine p7 _ ?_; clear p7 K1) | (((first | (refine ⟨fun hg => hA ?_, fun hg => hB ?_⟩ <;> clear hA hB A B) | refine ⟨fun hg => ?_, fun hg => ?_⟩) <;> (try simp only [BN2] at hg) <;> (try simp only [hg, cndB])) <;> (try (refine p7 _ ?_; clear p7 K1)) <;> (try simp only [BN3] at hg))) | refine b6 fun K hK => ?_ | ((first | apply c8 | apply b8 | apply a9 | refine d5 ?_ | apply b7 | apply c9 | apply d4 | apply d7); try simp only [NB, simprocAttr]))
        all_goals simp only [S1, simprocAttr, ENB, U4]
        all_goals simp [e1, hx]
end
section
def dh := And.intro T2 (And.intro T3 (And.intro T4 (And.intro T27 (And.intro T34 (And.intro T66 (And.intro T68 (And.intro nm ka)))))))
attribute [local irreducible] awp q9 m7
variable {G : Nat → Option (List PV)}
theorem qr (v : Int → Int) (o : Int) (ho : o = 10 ∨ o = 11 ∨ o = 12) (a b : Tm) {x y : Int × Bool × Int}
    (iha : ∀ h : Heap, f9 Tryz.prog G 85 [aT a, aV v] h (fun r h' => r = aN x ∧ h' = h))
    (ihb : ∀ h : Heap, f9 Tryz.prog G 85 [aT b, aV v] h (fun r h' => r = aN y ∧ h' = h)) (h : Heap) :
    f9 Tryz.prog G 96 [.agg [.i o, .i 0, .p (.sl [eT a, eT b])], aV v] h (fun r h' => r = aB (if x.2.2 ≠ 0 then (0, false, x.2.2) else if y.2.2 ≠ 0 then (0, false, y.2.2) else v9 o x.1 y.1) ∧ h' = h) := by
  by_cases e1 : x.2.2 = 0
  · by_cases e2 : y.2.2 = 0
    · rcases ho with rfl | rfl | rfl
      all_goals
        refine d9 (rl := []) i6 Tryz.func96 rfl (rs := [.tmp 4, .tmp 5]) rfl Tryz.ntmps96 (by simp) ?_
        repeat' (first | ((repeat ((fail_if_success (refine hK _ ?_)); clear hK K)); refine hK _ ?_; clear hK K) | ((first | refine d8 fun K1 p7 => ?_ | refine d6 fun K1 p7 => ?_ | refine b5 fun A B hA hB => ?_); simp only [S1, simprocAttr, dh, n8, e1, e2]; first | refine p7 _ ?_; clear p7 K1 | ((first | refine hA ?_ | refine hB ?_); clear hA hB A B) | ((first | apply b9 E85 | apply c7 E85); exact (iha _); refine p7 _ ?_; clear p7 K1) | ((first | apply b9 E85 | apply c7 E85); exact (ihb _); refine p7 _ ?_; clear p7 K1) | (refine g8 (v := ?_) (fun hg p8 => ?_) ?_; rotate_left; (focus (try ((try simp only [BN] at hg); simp only [S1, simprocAttr, dh, n8, e1, e2, hg] at p8 ⊢)); first | exact p8 | ((first | apply b9 E85 | apply c7 E85); exact (iha _); exact p8) | ((first | apply b9 E85 | apply c7 E85); exact (ihb _); exact p8)); refine p7 _ ?_; clear p7 K1) | (((first | (refine ⟨fun hg => hA ?_, fun hg => hB ?_⟩ <;> clear hA hB A B) | refine ⟨fun hg => ?_, fun hg => ?_⟩) <;> (try simp only [BN2] at hg) <;> (try simp only [hg, cndB])) <;> (try (refine p7 _ ?_; clear p7 K1)) <;> (try simp only [BN3] at hg))) | refine b6 fun K hK => ?_ | ((first | apply c8 | apply b8 | apply a9 | refine d5 ?_ | apply b7 | apply c9 | apply d4 | apply d7); try simp only [NB, simprocAttr]))
        all_goals simp only [S1, simprocAttr, ENB, dh]
        all_goals simp [e1, e2, v9]
        all_goals (rw [Bool.eq_iff_iff]; simp; omega)
    · have f5 : (y.2.2 != 0) = true := by simp [e2]
      rcases ho with rfl | rfl | rfl
      all_goals
        refine d9 (rl := []) i6 Tryz.func96 rfl (rs := [.tmp 4, .tmp 5]) rfl Tryz.ntmps96 (by simp) ?_
        repeat' (first | ((repeat ((fail_if_success (refine hK _ ?_)); clear hK K)); refine hK _ ?_; clear hK K) | ((first | refine d8 fun K1 p7 => ?_ | refine d6 fun K1 p7 => ?_ | refine b5 fun A B hA hB => ?_); simp only [S1, simprocAttr, dh, n8, e1, f5]; first | refine p7 _ ?_; clear p7 K1 | ((first | refine hA ?_ | refine hB ?_); clear hA hB A B) | ((first | apply b9 E85 | apply c7 E85); exact (iha _); refine p7 _ ?_; clear p7 K1) | ((first | apply b9 E85 | apply c7 E85); exact (ihb _); refine p7 _ ?_; clear p7 K1) | (refine g8 (v := ?_) (fun hg p8 => ?_) ?_; rotate_left; (focus (try ((try simp only [BN] at hg); simp only [S1, simprocAttr, dh, n8, e1, f5, hg] at p8 ⊢)); first | exact p8 | ((first | apply b9 E85 | apply c7 E85); exact (iha _); exact p8) | ((first | apply b9 E85 | apply c7 E85); exact (ihb _); exact p8)); refine p7 _ ?_; clear p7 K1) | (((first | (refine ⟨fun hg => hA ?_, fun hg => hB ?_⟩ <;> clear hA hB A B) | refine ⟨fun hg => ?_, fun hg => ?_⟩) <;> (try simp only [BN2] at hg) <;> (try simp only [hg, cndB])) <;> (try (refine p7 _ ?_; clear p7 K1)) <;> (try simp only [BN3] at hg))) | refine b6 fun K hK => ?_ | ((first | apply c8 | apply b8 | apply a9 | refine d5 ?_ | apply b7 | apply c9 | apply d4 | apply d7); try simp only [NB, simprocAttr]))
        all_goals simp only [S1, simprocAttr, ENB, dh]
        all_goals simp [e1, e2]
  · have f4 : (x.2.2 != 0) = true := by simp [e1]
    rcases ho with rfl | rfl | rfl
    all_goals
      refine d9 (rl := []) i6 Tryz.func96 rfl (rs := [.tmp 4, .tmp 5]) rfl Tryz.ntmps96 (by simp) ?_
      repeat' (first | ((repeat ((fail_if_success (refine hK _ ?_)); clear hK K)); refine hK _ ?_; clear hK K) | ((first | refine d8 fun K1 p7 => ?_ | refine d6 fun K1 p7 => ?_ | refine b5 fun A B hA hB => ?_); simp only [S1, simprocAttr, dh, n8, f4]; first | refine p7 _ ?_; clear p7 K1 | ((first | refine hA ?_ | refine hB ?_); clear hA hB A B) | ((first | apply b9 E85 | apply c7 E85); exact (iha _); refine p7 _ ?_; clear p7 K1) | (refine g8 (v := ?_) (fun hg p8 => ?_) ?_; rotate_left; (focus (try ((try simp only [BN] at hg); simp only [S1, simprocAttr, dh, n8, f4, hg] at p8 ⊢)); first | exact p8 | ((first | apply b9 E85 | apply c7 E85); exact (iha _); exact p8)); refine p7 _ ?_; clear p7 K1) | (((first | (refine ⟨fun hg => hA ?_, fun hg => hB ?_⟩ <;> clear hA hB A B) | refine ⟨fun hg => ?_, fun hg => ?_⟩) <;> (try simp only [BN2] at hg) <;> (try simp only [hg, cndB])) <;> (try (refine p7 _ ?_; clear p7 K1)) <;> (try simp only [BN3] at hg))) | refine b6 fun K hK => ?_ | ((first | apply c8 | apply b8 | apply a9 | refine d5 ?_ | apply b7 | apply c9 | apply d4 | apply d7); try simp only [NB, simprocAttr]))
      all_goals simp only [S1, simprocAttr, ENB, dh]
      all_goals simp [e1]
theorem fc {v : Int → Int} (hv : ∀ i, Num (v i)) {t : Tm} (ht : Good t true) : ∀ h : Heap, f9 Tryz.prog G 96 [aT t, aV v] h (fun r h' => r = aB (ev v t) ∧ h' = h) := by
  have key : ∀ {t k}, Good t k → k = true → ∀ h : Heap, f9 Tryz.prog G 96 [aT t, aV v] h (fun r h' => r = aB (ev v t) ∧ h' = h) := by
    intro t k hg
    induction hg with
    | num n h1 h2 => intro e; cases e
    | var n hn => intro e; cases e
    | neg a hg ih => intro e; cases e
    | bin o a b h1 h2 ha hb iha ihb => intro e; cases e
    | not a hg ih =>
      intro _ h
      have g := J6 hv hg
      refine f9.mono (qo v a (ih rfl) h) ?_
      rintro r h' ⟨rfl, rfl⟩
      refine ⟨?_, rfl⟩
      rw [dX]
      split
      · rename_i e; simp [e]
      · rename_i e; rw [if_neg (by decide), Classical.not_not.mp e]; simp
    | cmp o a b h1 h2 ha hb iha ihb =>
      intro _ h
      refine f9.mono (qr v o (by omega) a b (ah hv ha) (ah hv hb) h) ?_
      rintro r h' ⟨rfl, rfl⟩
      refine ⟨?_, rfl⟩
      rw [ag, if_neg (show ¬ o = 13 by omega), if_neg (show ¬ o = 14 by omega)]
    | log o a b ho ha hb iha ihb =>
      intro _ h
      have g := J6 hv ha
      refine f9.mono (qq v o ho a b (iha rfl) (ihb rfl) h) ?_
      rintro r h' ⟨rfl, rfl⟩
      refine ⟨?_, rfl⟩
      rw [ag]
      have g1 := g.2.1
      rcases hx : ev v a with ⟨x1, x2, x3⟩
      rw [hx] at g1
      simp only at g1 ⊢
      by_cases e : x3 = 0
      · subst e
        rcases ho with rfl | rfl <;> cases x2 <;> simp
      · rw [if_pos e, if_pos e, (g1 e).2]
  exact key ht rfl
end
section
def fe := And.intro T2 (And.intro T3 (And.intro T4 (And.intro T27 T34)))
attribute [local irreducible] awp q9 m7
variable {G : Nat → Option (List PV)}
def inV (v : Int → Int) : Bool := inM (v 0) && inM (v 1) && inM (v 2) && inM (v 3)
theorem cN0 : ((0 : Nat) : Int) = 0 := rfl
theorem cN1 : ((1 : Nat) : Int) = 1 := rfl
theorem cN2 : ((2 : Nat) : Int) = 2 := rfl
theorem cN3 : ((3 : Nat) : Int) = 3 := rfl
theorem cN4 : ((4 : Nat) : Int) = 4 := rfl
theorem wl1 : IntKind.i64.wrap 1 = 1 := rfl
theorem wl2 : IntKind.i64.wrap 2 = 2 := rfl
theorem wl3 : IntKind.i64.wrap 3 = 3 := rfl
theorem wl4 : IntKind.i64.wrap 4 = 4 := rfl
theorem rT {v : Int → Int} (h : ∀ j : Nat, j < 4 → inM (v j) = true) : inV v = true := by
  have h0 := h 0 (by omega)
  have h1 := h 1 (by omega)
  have h2 := h 2 (by omega)
  have h3 := h 3 (by omega)
  unfold inV
  simp only [cN0, cN1, cN2, cN3] at h0 h1 h2 h3
  simp [h0, h1, h2, h3]
theorem ff (v : Int → Int) (h : Heap) : f9 Tryz.prog G 24 [.agg [.i (v 0), .i (v 1), .i (v 2), .i (v 3)]] h (fun r h' => r = .b (inV v) ∧ h' = h) := by
  refine d9 (rl := []) i6 Tryz.func24 rfl (rs := [.tmp 2]) rfl Tryz.ntmps24 (by simp) ?_
  repeat' (first | ((repeat ((fail_if_success (refine hK _ ?_)); clear hK K)); refine hK _ ?_; clear hK K) | ((first | refine d8 fun K1 p7 => ?_ | refine d6 fun K1 p7 => ?_ | refine b5 fun A B hA hB => ?_); simp only [S1, simprocAttr, fe]; first | refine p7 _ ?_; clear p7 K1 | ((first | refine hA ?_ | refine hB ?_); clear hA hB A B) | (((first | (refine ⟨fun hg => hA ?_, fun hg => hB ?_⟩ <;> clear hA hB A B) | refine ⟨fun hg => ?_, fun hg => ?_⟩) <;> (try simp only [BN2] at hg) <;> (try simp only [hg, cndB])) <;> (try (refine p7 _ ?_; clear p7 K1)) <;> (try simp only [BN3] at hg))) | refine b6 fun K hK => ?_ | ((first | apply c8 | apply b8 | apply a9 | refine d5 ?_ | apply b7 | apply c9 | apply d4 | apply d7); try simp only [NB, simprocAttr]))
  refine s5 4 13 (fun i => [(6, .i i), (5, .agg [.i (v 0), .i (v 1), .i (v 2), .i (v 3)])]) (fun i => []) (fun i => ∀ j : Nat, j < i → inM (v j) = true) ?_ (fun j hj => absurd hj (Nat.not_lt_zero _)) fun i hi hp K hK => ?_
  · (refine ⟨rfl, (by first | exact ⟨_, rfl⟩ | exact ⟨[], by simp⟩), ?_, ?_⟩ <;> simp only [S1, simprocAttr, KNB] <;> (try and_intros) <;> (try assumption) <;> (try trivial) <;> (try omega))
  have hw : IntKind.i64.wrap ((i : Int) + 1) = ((i + 1 : Nat) : Int) := by rw [IntWalk.i64_in _ (by omega)]; omega
  rcases (by omega : i = 0 ∨ i = 1 ∨ i = 2 ∨ i = 3 ∨ i = 4) with rfl | rfl | rfl | rfl | rfl
  all_goals
    repeat' (first | ((repeat ((fail_if_success (refine hK _ ?_)); clear hK K)); refine hK _ ?_; clear hK K) | ((first | refine d8 fun K1 p7 => ?_ | refine d6 fun K1 p7 => ?_ | refine b5 fun A B hA hB => ?_); simp only [S1, simprocAttr, fe, cN0, cN1, cN2, cN3, cN4, Int.reduceAdd, wl1, wl2, wl3, wl4]; first | refine p7 _ ?_; clear p7 K1 | ((first | refine hA ?_ | refine hB ?_); clear hA hB A B) | ((first | apply b9 E38 | apply c7 E38); exact (cl _ _); refine p7 _ ?_; clear p7 K1) | (((first | (refine ⟨fun hg => hA ?_, fun hg => hB ?_⟩ <;> clear hA hB A B) | refine ⟨fun hg => ?_, fun hg => ?_⟩) <;> (try simp only [BN2] at hg) <;> (try simp only [hg, cndB])) <;> (try (refine p7 _ ?_; clear p7 K1)) <;> (try simp only [BN3] at hg))) | refine b6 fun K hK => ?_ | ((first | apply c8 | apply b8 | apply a9 | refine d5 ?_ | apply b7 | apply c9 | apply d4 | apply d7); try simp only [NB, simprocAttr]))
    all_goals first
      | (refine ⟨by omega, fun j hj => ?_, ?_⟩
         · rcases Nat.lt_succ_iff_lt_or_eq.mp hj with e | rfl
           · exact hp j e
           · exact hg
         · (refine ⟨rfl, (by first | exact ⟨_, rfl⟩ | exact ⟨[], by simp⟩), ?_, ?_⟩ <;> simp only [S1, simprocAttr, KNB] <;> (try and_intros) <;> (try assumption) <;> (try trivial) <;> (try omega)))
      | (simp only [S1, simprocAttr, ENB, fe]
         first
           | (rw [rT hp]; done)
           | (simp [inV, hg]; done))
theorem H3 (v : Int → Int) (h : Heap) : f9 Tryz.prog G 25 [.agg [.i (v 0), .i (v 1), .i (v 2), .i (v 3)]] h (fun r h' => r = .b (inV v) ∧ h' = h) := by
  refine d9 (rl := []) i6 Tryz.func25 rfl (rs := [.tmp 2]) rfl Tryz.ntmps25 (by simp) ?_
  repeat' (first | ((repeat ((fail_if_success (refine hK _ ?_)); clear hK K)); refine hK _ ?_; clear hK K) | ((first | refine d8 fun K1 p7 => ?_ | refine d6 fun K1 p7 => ?_ | refine b5 fun A B hA hB => ?_); simp only [S1, simprocAttr, fe]; first | refine p7 _ ?_; clear p7 K1 | ((first | refine hA ?_ | refine hB ?_); clear hA hB A B) | (refine g8 (v := ?_) (fun hg p8 => ?_) ?_; rotate_left; (focus (try ((try simp only [BN] at hg); simp only [S1, simprocAttr, fe, hg] at p8 ⊢)); first | exact p8); refine p7 _ ?_; clear p7 K1) | (((first | (refine ⟨fun hg => hA ?_, fun hg => hB ?_⟩ <;> clear hA hB A B) | refine ⟨fun hg => ?_, fun hg => ?_⟩) <;> (try simp only [BN2] at hg) <;> (try simp only [hg, cndB])) <;> (try (refine p7 _ ?_; clear p7 K1)) <;> (try simp only [BN3] at hg))) | refine b6 fun K hK => ?_ | ((first | apply c8 | apply b8 | apply a9 | refine d5 ?_ | apply b7 | apply c9 | apply d4 | apply d7); try simp only [NB, simprocAttr]))
  refine s5 4 18 (fun i => [(3, .i i), (1, .ptr h.length 0 0)]) (fun i => [some ⟨0, [.i (v 0), .i (v 1), .i (v 2), .i (v 3)]⟩]) (fun i => ∀ j : Nat, j < i → inM (v j) = true) ?_ (fun j hj => absurd hj (Nat.not_lt_zero _)) fun i hi hp K hK => ?_
  · (refine ⟨rfl, (by first | exact ⟨_, rfl⟩ | exact ⟨[], by simp⟩), ?_, ?_⟩ <;> simp only [S1, simprocAttr, KNB] <;> (try and_intros) <;> (try assumption) <;> (try trivial) <;> (try omega))
  rcases (by omega : i = 0 ∨ i = 1 ∨ i = 2 ∨ i = 3 ∨ i = 4) with rfl | rfl | rfl | rfl | rfl
  all_goals
    repeat' (first | ((repeat ((fail_if_success (refine hK _ ?_)); clear hK K)); refine hK _ ?_; clear hK K) | ((first | refine d8 fun K1 p7 => ?_ | refine d6 fun K1 p7 => ?_ | refine b5 fun A B hA hB => ?_); simp only [S1, simprocAttr, fe, cN0, cN1, cN2, cN3, cN4, Int.reduceAdd, wl1, wl2, wl3, wl4]; first | refine p7 _ ?_; clear p7 K1 | ((first | refine hA ?_ | refine hB ?_); clear hA hB A B) | (refine g8 (v := ?_) (fun hg p8 => ?_) ?_; rotate_left; (focus (try ((try simp only [BN] at hg); simp only [S1, simprocAttr, fe, cN0, cN1, cN2, cN3, cN4, Int.reduceAdd, wl1, wl2, wl3, wl4, hg] at p8 ⊢)); first | exact p8); refine p7 _ ?_; clear p7 K1) | (((first | (refine ⟨fun hg => hA ?_, fun hg => hB ?_⟩ <;> clear hA hB A B) | refine ⟨fun hg => ?_, fun hg => ?_⟩) <;> (try simp only [BN2] at hg) <;> (try simp only [hg, cndB])) <;> (try (refine p7 _ ?_; clear p7 K1)) <;> (try simp only [BN3] at hg))) | refine b6 fun K hK => ?_ | ((first | apply c8 | apply b8 | apply a9 | refine d5 ?_ | apply b7 | apply c9 | apply d4 | apply d7); try simp only [NB, simprocAttr]))
    all_goals first
      | (refine ⟨by omega, fun j hj => ?_, ?_⟩
         · rcases Nat.lt_succ_iff_lt_or_eq.mp hj with e | rfl
           · exact hp j e
           · simp [inM] at hg ⊢; omega
         · (refine ⟨rfl, (by first | exact ⟨_, rfl⟩ | exact ⟨[], by simp⟩), ?_, ?_⟩ <;> simp only [S1, simprocAttr, KNB] <;> (try and_intros) <;> (try assumption) <;> (try trivial) <;> (try omega)))
      | (simp only [S1, simprocAttr, ENB, fe]
         first
           | (rw [rT hp]; done)
           | (simp [inV, inM] at hg ⊢; omega))
end
section
def aD := And.intro T2 (And.intro T3 (And.intro T4 (And.intro T27 (And.intro T34 (And.intro T66 (And.intro T68 (And.intro nm ka)))))))
attribute [local irreducible] awp q9 m7
def U7 (t : Tm) (v : Int → Int) (k : Int) : Int := if (C7 t).2 ≠ 0 then (C7 t).2 else if (C7 t).1 ≠ k then 30 else if inV v then 0 else 1
theorem L0 {n : Nat} {t : Tm} (ht : Tm.Ok n t) (v : Int → Int) (k : Int) (h : Heap) : f9 Tryz.prog gW 84 [aT t, aV v, .i k] h (fun r h' => r = .i (U7 t v k) ∧ h' = h) := by
  refine d9 (rl := []) i6 Tryz.func84 rfl (rs := [.tmp 6]) rfl Tryz.ntmps84 (by simp) ?_
  repeat' (first | ((repeat ((fail_if_success (refine hK _ ?_)); clear hK K)); refine hK _ ?_; clear hK K) | ((first | refine d8 fun K1 p7 => ?_ | refine d6 fun K1 p7 => ?_ | refine b5 fun A B hA hB => ?_); simp only [S1, simprocAttr, aD]; first | refine p7 _ ?_; clear p7 K1 | ((first | refine hA ?_ | refine hB ?_); clear hA hB A B) | ((first | apply b9 E94 | apply c7 E94); exact (bb ht _); refine p7 _ ?_; clear p7 K1) | ((first | apply b9 E24 | apply c7 E24); exact (ff v _); refine p7 _ ?_; clear p7 K1) | (((first | (refine ⟨fun hg => hA ?_, fun hg => hB ?_⟩ <;> clear hA hB A B) | refine ⟨fun hg => ?_, fun hg => ?_⟩) <;> (try simp only [BN2] at hg) <;> (try simp only [hg, cndB])) <;> (try (refine p7 _ ?_; clear p7 K1)) <;> (try simp only [BN3] at hg))) | refine b6 fun K hK => ?_ | ((first | apply c8 | apply b8 | apply a9 | refine d5 ?_ | apply b7 | apply c9 | apply d4 | apply d7); try simp only [NB, simprocAttr]))
  all_goals simp only [S1, simprocAttr, ENB, aD]
  all_goals simp_all [U7]
theorem di {t : Tm} {v : Int → Int} {k : Int} (h : U7 t v k = 0) : Good t (x8 t.op) ∧ inV v = true ∧ iA t.op = k := by
  unfold U7 at h
  by_cases h1 : (C7 t).2 = 0
  · rw [if_neg (by simpa using h1)] at h
    by_cases h2 : (C7 t).1 = k
    · rw [if_neg (by simpa using h2)] at h
      have hv : inV v = true := by
        cases hh : inV v with
        | true => rfl
        | false => rw [hh] at h; simp at h
      unfold C7 at h1 h2
      by_cases hw : S8 t = 0
      · rw [if_neg (by simpa using hw)] at h1 h2
        cases hty : t.typed with
        | true =>
          rw [hty] at h1 h2
          have hf : t.form = true := by
            unfold S8 at hw
            split at hw
            · cases hw
            · split at hw
              · assumption
              · cases hw
          exact ⟨tm t hf hty, hv, by simpa using h2⟩
        | false => rw [hty] at h1; simp at h1
      · rw [if_pos hw] at h1; exact absurd h1 hw
    · rw [if_pos h2] at h; cases h
  · rw [if_pos h1] at h; exact absurd h h1
def N8 (t : Tm) (v : Int → Int) : Int × Int := if U7 t v 1 ≠ 0 then (0, U7 t v 1) else ((ev v t).1, (ev v t).2.2)
def P0 (t : Tm) (v : Int → Int) : Bool × Int := if U7 t v 2 ≠ 0 then (false, U7 t v 2) else ((ev v t).2.1, (ev v t).2.2)
theorem kG {n : Nat} {t : Tm} (ht : Tm.Ok n t) (v : Int → Int) (hv : inV v = true → ∀ i, Num (v i)) (h : Heap) : f9 Tryz.prog gW 64 [aT t, aV v] h (fun r h' => r = .tup [.i (N8 t v).1, .i (N8 t v).2] ∧ h' = h) := by
  by_cases e : U7 t v 1 = 0
  · obtain ⟨g1, g2, g3⟩ := di e
    have g0 : x8 t.op = false := by
      cases hh : x8 t.op with
      | false => rfl
      | true => unfold iA at g3; rw [hh] at g3; simp at g3
    rw [g0] at g1
    have hg := J6 (hv g2) g1
    have e1 : (U7 t v 1 != 0) = false := by simp [e]
    refine d9 (rl := []) i6 Tryz.func64 rfl (rs := [.tmp 4, .tmp 5]) rfl Tryz.ntmps64 (by simp) ?_
    repeat' (first | ((repeat ((fail_if_success (refine hK _ ?_)); clear hK K)); refine hK _ ?_; clear hK K) | ((first | refine d8 fun K1 p7 => ?_ | refine d6 fun K1 p7 => ?_ | refine b5 fun A B hA hB => ?_); simp only [S1, simprocAttr, aD, e1]; first | refine p7 _ ?_; clear p7 K1 | ((first | refine hA ?_ | refine hB ?_); clear hA hB A B) | ((first | apply b9 E84 | apply c7 E84); exact (L0 ht v 1 _); refine p7 _ ?_; clear p7 K1) | ((first | apply b9 E85 | apply c7 E85); exact (ah (hv g2) g1 _); refine p7 _ ?_; clear p7 K1) | (((first | (refine ⟨fun hg => hA ?_, fun hg => hB ?_⟩ <;> clear hA hB A B) | refine ⟨fun hg => ?_, fun hg => ?_⟩) <;> (try simp only [BN2] at hg) <;> (try simp only [hg, cndB])) <;> (try (refine p7 _ ?_; clear p7 K1)) <;> (try simp only [BN3] at hg))) | refine b6 fun K hK => ?_ | ((first | apply c8 | apply b8 | apply a9 | refine d5 ?_ | apply b7 | apply c9 | apply d4 | apply d7); try simp only [NB, simprocAttr]))
    all_goals simp only [S1, simprocAttr, ENB, aD]
    all_goals simp_all [N8]
  · have e1 : (U7 t v 1 != 0) = true := by simp [e]
    refine d9 (rl := []) i6 Tryz.func64 rfl (rs := [.tmp 4, .tmp 5]) rfl Tryz.ntmps64 (by simp) ?_
    repeat' (first | ((repeat ((fail_if_success (refine hK _ ?_)); clear hK K)); refine hK _ ?_; clear hK K) | ((first | refine d8 fun K1 p7 => ?_ | refine d6 fun K1 p7 => ?_ | refine b5 fun A B hA hB => ?_); simp only [S1, simprocAttr, aD, e1]; first | refine p7 _ ?_; clear p7 K1 | ((first | refine hA ?_ | refine hB ?_); clear hA hB A B) | ((first | apply b9 E84 | apply c7 E84); exact (L0 ht v 1 _); refine p7 _ ?_; clear p7 K1) | (((first | (refine ⟨fun hg => hA ?_, fun hg => hB ?_⟩ <;> clear hA hB A B) | refine ⟨fun hg => ?_, fun hg => ?_⟩) <;> (try simp only [BN2] at hg) <;> (try simp only [hg, cndB])) <;> (try (refine p7 _ ?_; clear p7 K1)) <;> (try simp only [BN3] at hg))) | refine b6 fun K hK => ?_ | ((first | apply c8 | apply b8 | apply a9 | refine d5 ?_ | apply b7 | apply c9 | apply d4 | apply d7); try simp only [NB, simprocAttr]))
    all_goals simp only [S1, simprocAttr, ENB, aD]
    all_goals simp_all [N8]
theorem mt {n : Nat} {t : Tm} (ht : Tm.Ok n t) (v : Int → Int) (hv : inV v = true → ∀ i, Num (v i)) (h : Heap) : f9 Tryz.prog gW 86 [aT t, aV v] h (fun r h' => r = .tup [.b (P0 t v).1, .i (P0 t v).2] ∧ h' = h) := by
  by_cases e : U7 t v 2 = 0
  · obtain ⟨g1, g2, g3⟩ := di e
    have g0 : x8 t.op = true := by
      cases hh : x8 t.op with
      | true => rfl
      | false => unfold iA at g3; rw [hh] at g3; simp at g3
    rw [g0] at g1
    have hg := J6 (hv g2) g1
    have e1 : (U7 t v 2 != 0) = false := by simp [e]
    refine d9 (rl := []) i6 Tryz.func86 rfl (rs := [.tmp 4, .tmp 5]) rfl Tryz.ntmps86 (by simp) ?_
    repeat' (first | ((repeat ((fail_if_success (refine hK _ ?_)); clear hK K)); refine hK _ ?_; clear hK K) | ((first | refine d8 fun K1 p7 => ?_ | refine d6 fun K1 p7 => ?_ | refine b5 fun A B hA hB => ?_); simp only [S1, simprocAttr, aD, e1]; first | refine p7 _ ?_; clear p7 K1 | ((first | refine hA ?_ | refine hB ?_); clear hA hB A B) | ((first | apply b9 E84 | apply c7 E84); exact (L0 ht v 2 _); refine p7 _ ?_; clear p7 K1) | ((first | apply b9 E96 | apply c7 E96); exact (fc (hv g2) g1 _); refine p7 _ ?_; clear p7 K1) | (refine g8 (v := ?_) (fun hg p8 => ?_) ?_; rotate_left; (focus (try ((try simp only [BN] at hg); simp only [S1, simprocAttr, aD, e1, hg] at p8 ⊢)); first | exact p8 | ((first | apply b9 E84 | apply c7 E84); exact (L0 ht v 2 _); exact p8) | ((first | apply b9 E96 | apply c7 E96); exact (fc (hv g2) g1 _); exact p8)); refine p7 _ ?_; clear p7 K1) | (((first | (refine ⟨fun hg => hA ?_, fun hg => hB ?_⟩ <;> clear hA hB A B) | refine ⟨fun hg => ?_, fun hg => ?_⟩) <;> (try simp only [BN2] at hg) <;> (try simp only [hg, cndB])) <;> (try (refine p7 _ ?_; clear p7 K1)) <;> (try simp only [BN3] at hg))) | refine b6 fun K hK => ?_ | ((first | apply c8 | apply b8 | apply a9 | refine d5 ?_ | apply b7 | apply c9 | apply d4 | apply d7); try simp only [NB, simprocAttr]))
    all_goals simp only [S1, simprocAttr, ENB, aD]
    all_goals (by_cases hf : (ev v t).2.2 = 0 <;> simp_all [P0])
  · have e1 : (U7 t v 2 != 0) = true := by simp [e]
    refine d9 (rl := []) i6 Tryz.func86 rfl (rs := [.tmp 4, .tmp 5]) rfl Tryz.ntmps86 (by simp) ?_
    repeat' (first | ((repeat ((fail_if_success (refine hK _ ?_)); clear hK K)); refine hK _ ?_; clear hK K) | ((first | refine d8 fun K1 p7 => ?_ | refine d6 fun K1 p7 => ?_ | refine b5 fun A B hA hB => ?_); simp only [S1, simprocAttr, aD, e1]; first | refine p7 _ ?_; clear p7 K1 | ((first | refine hA ?_ | refine hB ?_); clear hA hB A B) | ((first | apply b9 E84 | apply c7 E84); exact (L0 ht v 2 _); refine p7 _ ?_; clear p7 K1) | (refine g8 (v := ?_) (fun hg p8 => ?_) ?_; rotate_left; (focus (try ((try simp only [BN] at hg); simp only [S1, simprocAttr, aD, e1, hg] at p8 ⊢)); first | exact p8 | ((first | apply b9 E84 | apply c7 E84); exact (L0 ht v 2 _); exact p8)); refine p7 _ ?_; clear p7 K1) | (((first | (refine ⟨fun hg => hA ?_, fun hg => hB ?_⟩ <;> clear hA hB A B) | refine ⟨fun hg => ?_, fun hg => ?_⟩) <;> (try simp only [BN2] at hg) <;> (try simp only [hg, cndB])) <;> (try (refine p7 _ ?_; clear p7 K1)) <;> (try simp only [BN3] at hg))) | refine b6 fun K hK => ?_ | ((first | apply c8 | apply b8 | apply a9 | refine d5 ?_ | apply b7 | apply c9 | apply d4 | apply d7); try simp only [NB, simprocAttr]))
    all_goals simp only [S1, simprocAttr, ENB, aD]
    all_goals simp_all [P0]
end
section
def C9 := And.intro T2 (And.intro T3 (And.intro T4 (And.intro T27 (And.intro T68 ka))))
attribute [local irreducible] awp q9 m7 n7 r5 q8
theorem L1 {n : Nat} {t : Tm} (ht : Tm.Ok n t) (hn : n ≤ 200) (v : Int → Int) (k : Int) (h : Heap) : f9 Tryz.prog gW 88 [aT t, aV v, .i k] h (fun r h' => r = .i (U7 t v k) ∧ h' = h) := by
  by_cases e1 : (C7 t).2 = 0
  · have f1 : ((C7 t).2 != 0) = false := by simp [e1]
    by_cases e2 : (C7 t).1 = k
    · have f2 : ((C7 t).1 != k) = false := by simp [e2]
      refine d9 (rl := []) i6 Tryz.func88 rfl (rs := [.tmp 6]) rfl Tryz.ntmps88 (by simp) ?_
      repeat' (first | ((first | refine c8 ?_ | refine b8 ?_ | refine v6 ?_); (try simp only [NB])) | ((repeat ((fail_if_success (refine hK _ ?_)); clear hK K)); refine hK _ ?_; clear hK K) | ((first | refine d8 fun K1 p7 => ?_ | refine d6 fun K1 p7 => ?_ | refine v7 rfl fun K1 p7 => ?_ | refine b5 fun A B hA hB => ?_); simp only [S1, simprocAttr, C9, f1, f2]; first | (refine p7 _ ?_; clear p7 K1) | ((first | refine hA ?_ | refine hB ?_); clear hA hB A B) | ((first | apply b9 E76 | apply c7 E76); exact (C1 ht hn _); (refine p7 _ ?_; clear p7 K1)) | ((first | apply b9 E25 | apply c7 E25); exact (H3 v _); (refine p7 _ ?_; clear p7 K1)) | (((first | (refine ⟨fun hg => hA ?_, fun hg => hB ?_⟩ <;> clear hA hB A B) | refine ⟨fun hg => ?_, fun hg => ?_⟩) <;> (try simp only [BN2] at hg) <;> (try simp only [hg, cndB])) <;> (try (refine p7 _ ?_; clear p7 K1)) <;> (try simp only [BN3] at hg))) | (refine B4 (v := ?_) rfl rfl (by decide) (fun L K1 p7 => ?_) ?_; rotate_left; (focus (simp only [S1, simprocAttr, C9, f1, f2]; first | (exact p7 _ _ _) | ((first | apply b9 E76 | apply c7 E76); exact (C1 ht hn _); exact p7 _ _ _) | ((first | apply b9 E25 | apply c7 E25); exact (H3 v _); exact p7 _ _ _)))) | (refine b6 fun K hK => ?_) | ((first | refine a9 ?_ | refine v5 (by kernel_rfl) ?_ | refine j4 (by kernel_rfl) ?_ | refine b7 ?_ | refine c9 ?_ | refine d4 ?_ | refine d7 ?_); try simp only [NB, simprocAttr]))
      all_goals simp only [S1, simprocAttr, ENB, C9]
      all_goals simp_all [U7]
    · have f2 : ((C7 t).1 != k) = true := by simp [e2]
      refine d9 (rl := []) i6 Tryz.func88 rfl (rs := [.tmp 6]) rfl Tryz.ntmps88 (by simp) ?_
      repeat' (first | ((first | refine c8 ?_ | refine b8 ?_ | refine v6 ?_); (try simp only [NB])) | ((repeat ((fail_if_success (refine hK _ ?_)); clear hK K)); refine hK _ ?_; clear hK K) | ((first | refine d8 fun K1 p7 => ?_ | refine d6 fun K1 p7 => ?_ | refine v7 rfl fun K1 p7 => ?_ | refine b5 fun A B hA hB => ?_); simp only [S1, simprocAttr, C9, f1, f2]; first | (refine p7 _ ?_; clear p7 K1) | ((first | refine hA ?_ | refine hB ?_); clear hA hB A B) | ((first | apply b9 E76 | apply c7 E76); exact (C1 ht hn _); (refine p7 _ ?_; clear p7 K1)) | ((first | apply b9 E25 | apply c7 E25); exact (H3 v _); (refine p7 _ ?_; clear p7 K1)) | (((first | (refine ⟨fun hg => hA ?_, fun hg => hB ?_⟩ <;> clear hA hB A B) | refine ⟨fun hg => ?_, fun hg => ?_⟩) <;> (try simp only [BN2] at hg) <;> (try simp only [hg, cndB])) <;> (try (refine p7 _ ?_; clear p7 K1)) <;> (try simp only [BN3] at hg))) | (refine B4 (v := ?_) rfl rfl (by decide) (fun L K1 p7 => ?_) ?_; rotate_left; (focus (simp only [S1, simprocAttr, C9, f1, f2]; first | (exact p7 _ _ _) | ((first | apply b9 E76 | apply c7 E76); exact (C1 ht hn _); exact p7 _ _ _) | ((first | apply b9 E25 | apply c7 E25); exact (H3 v _); exact p7 _ _ _)))) | (refine b6 fun K hK => ?_) | ((first | refine a9 ?_ | refine v5 (by kernel_rfl) ?_ | refine j4 (by kernel_rfl) ?_ | refine b7 ?_ | refine c9 ?_ | refine d4 ?_ | refine d7 ?_); try simp only [NB, simprocAttr]))
      all_goals simp only [S1, simprocAttr, ENB, C9]
      all_goals simp_all [U7]
  · have f1 : ((C7 t).2 != 0) = true := by simp [e1]
    refine d9 (rl := []) i6 Tryz.func88 rfl (rs := [.tmp 6]) rfl Tryz.ntmps88 (by simp) ?_
    repeat' (first | ((first | refine c8 ?_ | refine b8 ?_ | refine v6 ?_); (try simp only [NB])) | ((repeat ((fail_if_success (refine hK _ ?_)); clear hK K)); refine hK _ ?_; clear hK K) | ((first | refine d8 fun K1 p7 => ?_ | refine d6 fun K1 p7 => ?_ | refine v7 rfl fun K1 p7 => ?_ | refine b5 fun A B hA hB => ?_); simp only [S1, simprocAttr, C9, f1]; first | (refine p7 _ ?_; clear p7 K1) | ((first | refine hA ?_ | refine hB ?_); clear hA hB A B) | ((first | apply b9 E76 | apply c7 E76); exact (C1 ht hn _); (refine p7 _ ?_; clear p7 K1)) | ((first | apply b9 E25 | apply c7 E25); exact (H3 v _); (refine p7 _ ?_; clear p7 K1)) | (((first | (refine ⟨fun hg => hA ?_, fun hg => hB ?_⟩ <;> clear hA hB A B) | refine ⟨fun hg => ?_, fun hg => ?_⟩) <;> (try simp only [BN2] at hg) <;> (try simp only [hg, cndB])) <;> (try (refine p7 _ ?_; clear p7 K1)) <;> (try simp only [BN3] at hg))) | (refine B4 (v := ?_) rfl rfl (by decide) (fun L K1 p7 => ?_) ?_; rotate_left; (focus (simp only [S1, simprocAttr, C9, f1]; first | (exact p7 _ _ _) | ((first | apply b9 E76 | apply c7 E76); exact (C1 ht hn _); exact p7 _ _ _) | ((first | apply b9 E25 | apply c7 E25); exact (H3 v _); exact p7 _ _ _)))) | (refine b6 fun K hK => ?_) | ((first | refine a9 ?_ | refine v5 (by kernel_rfl) ?_ | refine j4 (by kernel_rfl) ?_ | refine b7 ?_ | refine c9 ?_ | refine d4 ?_ | refine d7 ?_); try simp only [NB, simprocAttr]))
    all_goals simp only [S1, simprocAttr, ENB, C9]
    all_goals simp_all [U7]
theorem iK {n : Nat} {t : Tm} (ht : Tm.Ok n t) (hn : n ≤ 200) (v : Int → Int) (hv : inV v = true → ∀ i, Num (v i)) (h : Heap) : f9 Tryz.prog gW 73 [aT t, aV v] h (fun r h' => r = .tup [.i (N8 t v).1, .i (N8 t v).2] ∧ h' = h) := by
  by_cases e : U7 t v 1 = 0
  · obtain ⟨g1, g2, g3⟩ := di e
    have hA := fun h => L1 ht hn v 1 h
    rw [e] at hA
    refine d9 (rl := []) i6 Tryz.func73 rfl (rs := [.tmp 4, .tmp 5]) rfl Tryz.ntmps73 (by simp) ?_
    repeat' (first | ((first | refine c8 ?_ | refine b8 ?_ | refine v6 ?_); (try simp only [NB])) | ((repeat ((fail_if_success (refine hK _ ?_)); clear hK K)); refine hK _ ?_; clear hK K) | ((first | refine d8 fun K1 p7 => ?_ | refine d6 fun K1 p7 => ?_ | refine v7 rfl fun K1 p7 => ?_ | refine b5 fun A B hA hB => ?_); simp only [S1, simprocAttr, C9]; first | (refine p7 _ ?_; clear p7 K1) | ((first | refine hA ?_ | refine hB ?_); clear hA hB A B) | ((first | apply b9 E88 | apply c7 E88); exact (hA _); (refine p7 _ ?_; clear p7 K1)) | ((first | apply b9 E89 | apply c7 E89); exact (dg (hv g2) g1 _); (refine p7 _ ?_; clear p7 K1)) | (((first | (refine ⟨fun hg => hA ?_, fun hg => hB ?_⟩ <;> clear hA hB A B) | refine ⟨fun hg => ?_, fun hg => ?_⟩) <;> (try simp only [BN2] at hg) <;> (try simp only [hg, cndB])) <;> (try (refine p7 _ ?_; clear p7 K1)) <;> (try simp only [BN3] at hg))) | (refine B4 (v := ?_) rfl rfl (by decide) (fun L K1 p7 => ?_) ?_; rotate_left; (focus (simp only [S1, simprocAttr, C9]; first | (exact p7 _ _ _) | ((first | apply b9 E88 | apply c7 E88); exact (hA _); exact p7 _ _ _) | ((first | apply b9 E89 | apply c7 E89); exact (dg (hv g2) g1 _); exact p7 _ _ _)))) | (refine b6 fun K hK => ?_) | ((first | refine a9 ?_ | refine v5 (by kernel_rfl) ?_ | refine j4 (by kernel_rfl) ?_ | refine b7 ?_ | refine c9 ?_ | refine d4 ?_ | refine d7 ?_); try simp only [NB, simprocAttr]))
    all_goals simp only [S1, simprocAttr, ENB, C9]
    all_goals simp [N8, e]
  · have f1 : (U7 t v 1 != 0) = true := by simp [e]
    refine d9 (rl := []) i6 Tryz.func73 rfl (rs := [.tmp 4, .tmp 5]) rfl Tryz.ntmps73 (by simp) ?_
    repeat' (first | ((first | refine c8 ?_ | refine b8 ?_ | refine v6 ?_); (try simp only [NB])) | ((repeat ((fail_if_success (refine hK _ ?_)); clear hK K)); refine hK _ ?_; clear hK K) | ((first | refine d8 fun K1 p7 => ?_ | refine d6 fun K1 p7 => ?_ | refine v7 rfl fun K1 p7 => ?_ | refine b5 fun A B hA hB => ?_); simp only [S1, simprocAttr, C9, f1]; first | (refine p7 _ ?_; clear p7 K1) | ((first | refine hA ?_ | refine hB ?_); clear hA hB A B) | ((first | apply b9 E88 | apply c7 E88); exact (L1 ht hn v 1 _); (refine p7 _ ?_; clear p7 K1)) | (((first | (refine ⟨fun hg => hA ?_, fun hg => hB ?_⟩ <;> clear hA hB A B) | refine ⟨fun hg => ?_, fun hg => ?_⟩) <;> (try simp only [BN2] at hg) <;> (try simp only [hg, cndB])) <;> (try (refine p7 _ ?_; clear p7 K1)) <;> (try simp only [BN3] at hg))) | (refine B4 (v := ?_) rfl rfl (by decide) (fun L K1 p7 => ?_) ?_; rotate_left; (focus (simp only [S1, simprocAttr, C9, f1]; first | (exact p7 _ _ _) | ((first | apply b9 E88 | apply c7 E88); exact (L1 ht hn v 1 _); exact p7 _ _ _)))) | (refine b6 fun K hK => ?_) | ((first | refine a9 ?_ | refine v5 (by kernel_rfl) ?_ | refine j4 (by kernel_rfl) ?_ | refine b7 ?_ | refine c9 ?_ | refine d4 ?_ | refine d7 ?_); try simp only [NB, simprocAttr]))
    all_goals simp only [S1, simprocAttr, ENB, C9]
    all_goals simp [N8, e]
theorem kH {n : Nat} {t : Tm} (ht : Tm.Ok n t) (hn : n ≤ 200) (v : Int → Int) (hv : inV v = true → ∀ i, Num (v i)) (h : Heap) : f9 Tryz.prog gW 90 [aT t, aV v] h (fun r h' => r = .tup [.b (P0 t v).1, .i (P0 t v).2] ∧ h' = h) := by
  by_cases e : U7 t v 2 = 0
  · obtain ⟨g1, g2, g3⟩ := di e
    have hA := fun h => L1 ht hn v 2 h
    rw [e] at hA
    refine d9 (rl := []) i6 Tryz.func90 rfl (rs := [.tmp 4, .tmp 5]) rfl Tryz.ntmps90 (by simp) ?_
    repeat' (first | ((first | refine c8 ?_ | refine b8 ?_ | refine v6 ?_); (try simp only [NB])) | ((repeat ((fail_if_success (refine hK _ ?_)); clear hK K)); refine hK _ ?_; clear hK K) | ((first | refine d8 fun K1 p7 => ?_ | refine d6 fun K1 p7 => ?_ | refine v7 rfl fun K1 p7 => ?_ | refine b5 fun A B hA hB => ?_); simp only [S1, simprocAttr, C9]; first | (refine p7 _ ?_; clear p7 K1) | ((first | refine hA ?_ | refine hB ?_); clear hA hB A B) | ((first | apply b9 E88 | apply c7 E88); exact (hA _); (refine p7 _ ?_; clear p7 K1)) | ((first | apply b9 E89 | apply c7 E89); exact (dg (hv g2) g1 _); (refine p7 _ ?_; clear p7 K1)) | (((first | (refine ⟨fun hg => hA ?_, fun hg => hB ?_⟩ <;> clear hA hB A B) | refine ⟨fun hg => ?_, fun hg => ?_⟩) <;> (try simp only [BN2] at hg) <;> (try simp only [hg, cndB])) <;> (try (refine p7 _ ?_; clear p7 K1)) <;> (try simp only [BN3] at hg))) | (refine B4 (v := ?_) rfl rfl (by decide) (fun L K1 p7 => ?_) ?_; rotate_left; (focus (simp only [S1, simprocAttr, C9]; first | (exact p7 _ _ _) | ((first | apply b9 E88 | apply c7 E88); exact (hA _); exact p7 _ _ _) | ((first | apply b9 E89 | apply c7 E89); exact (dg (hv g2) g1 _); exact p7 _ _ _)))) | (refine b6 fun K hK => ?_) | ((first | refine a9 ?_ | refine v5 (by kernel_rfl) ?_ | refine j4 (by kernel_rfl) ?_ | refine b7 ?_ | refine c9 ?_ | refine d4 ?_ | refine d7 ?_); try simp only [NB, simprocAttr]))
    all_goals simp only [S1, simprocAttr, ENB, C9]
    all_goals simp [P0, e]
  · have f1 : (U7 t v 2 != 0) = true := by simp [e]
    refine d9 (rl := []) i6 Tryz.func90 rfl (rs := [.tmp 4, .tmp 5]) rfl Tryz.ntmps90 (by simp) ?_
    repeat' (first | ((first | refine c8 ?_ | refine b8 ?_ | refine v6 ?_); (try simp only [NB])) | ((repeat ((fail_if_success (refine hK _ ?_)); clear hK K)); refine hK _ ?_; clear hK K) | ((first | refine d8 fun K1 p7 => ?_ | refine d6 fun K1 p7 => ?_ | refine v7 rfl fun K1 p7 => ?_ | refine b5 fun A B hA hB => ?_); simp only [S1, simprocAttr, C9, f1]; first | (refine p7 _ ?_; clear p7 K1) | ((first | refine hA ?_ | refine hB ?_); clear hA hB A B) | ((first | apply b9 E88 | apply c7 E88); exact (L1 ht hn v 2 _); (refine p7 _ ?_; clear p7 K1)) | (((first | (refine ⟨fun hg => hA ?_, fun hg => hB ?_⟩ <;> clear hA hB A B) | refine ⟨fun hg => ?_, fun hg => ?_⟩) <;> (try simp only [BN2] at hg) <;> (try simp only [hg, cndB])) <;> (try (refine p7 _ ?_; clear p7 K1)) <;> (try simp only [BN3] at hg))) | (refine B4 (v := ?_) rfl rfl (by decide) (fun L K1 p7 => ?_) ?_; rotate_left; (focus (simp only [S1, simprocAttr, C9, f1]; first | (exact p7 _ _ _) | ((first | apply b9 E88 | apply c7 E88); exact (L1 ht hn v 2 _); exact p7 _ _ _)))) | (refine b6 fun K hK => ?_) | ((first | refine a9 ?_ | refine v5 (by kernel_rfl) ?_ | refine j4 (by kernel_rfl) ?_ | refine b7 ?_ | refine c9 ?_ | refine d4 ?_ | refine d7 ?_); try simp only [NB, simprocAttr]))
    all_goals simp only [S1, simprocAttr, ENB, C9]
    all_goals simp [P0, e]
end
section
def Y0 := And.intro T2 (And.intro T3 (And.intro T4 (And.intro T23 (And.intro T25 (And.intro T27 (And.intro T53 (And.intro T66 (And.intro T68 (And.intro T73 ux)))))))))
attribute [local irreducible] awp q9 m7 n7 r5 q8
def chF (fl : List Fl) (v : Int → Int) : List Int → Option (Int × Int)
  | [] => none
  | f :: r => match fl[f.toNat]? with
    | none => chF fl v r
    | some x => if x.els = true then chF fl v r else if (P0 x.cond v).2 ≠ 0 then some (0, (P0 x.cond v).2) else if (P0 x.cond v).1 = true then some (f, 0) else chF fl v r
def chE (fl : List Fl) : List Int → Int
  | [] => 0
  | f :: r => if z7 fl f = true then f else chE fl r
def s6 (fl : List Fl) (v : Int → Int) (outs : List Int) : Int × Int := (chF fl v outs).getD (chE fl outs, 0)
theorem mu {fl : List Fl} {v : Int → Int} {outs : List Int} {i : Nat} {f : Int} (h : outs[i]? = some f) : chF fl v (outs.drop i) = match fl[f.toNat]? with
    | none => chF fl v (outs.drop (i + 1))
    | some x => if x.els = true then chF fl v (outs.drop (i + 1)) else if (P0 x.cond v).2 ≠ 0 then some (0, (P0 x.cond v).2) else if (P0 x.cond v).1 = true then some (f, 0) else chF fl v (outs.drop (i + 1)) := by
  obtain ⟨hi, e⟩ := List.getElem?_eq_some_iff.mp h
  rw [List.drop_eq_getElem_cons hi, e]; rfl
theorem rU {fl : List Fl} {outs : List Int} {i : Nat} {f : Int} (h : outs[i]? = some f) : chE fl (outs.drop i) = if z7 fl f = true then f else chE fl (outs.drop (i + 1)) := by
  obtain ⟨hi, e⟩ := List.getElem?_eq_some_iff.mp h
  rw [List.drop_eq_getElem_cons hi, e]; rfl
theorem kI (ns : List Nd) (fl : List Fl) (ok : NetOk ns fl) (outs : List Int) (hlen : outs.length ≤ 100) (ho : ∀ x ∈ outs, ∃ i : Nat, x = (i : Int) ∧ i < fl.length) (v : Int → Int) (hv : inV v = true → ∀ i, Num (v i)) (h : Heap) :
    f9 Tryz.prog gW 75 [N5 ns fl, aI outs, aV v] h (fun r h' => r = .agg [.i (s6 fl v outs).1, .i (s6 fl v outs).2] ∧ h' = h) := by
  obtain ⟨m2, hm2, ht2⟩ := ok.tf
  refine d9 (rl := []) i6 Tryz.func75 rfl (rs := [.cell 6 126]) rfl Tryz.ntmps75 (by simp) ?_
  repeat' (first | ((repeat ((fail_if_success (refine hK _ ?_)); clear hK K)); refine hK _ ?_; clear hK K) | ((first | refine d8 fun K1 p7 => ?_ | refine d6 fun K1 p7 => ?_ | refine b5 fun A B hA hB => ?_); simp only [S1, simprocAttr, Y0, List.length_map]; first | refine p7 _ ?_; clear p7 K1 | ((first | refine hA ?_ | refine hB ?_); clear hA hB A B) | (((first | (refine ⟨fun hg => hA ?_, fun hg => hB ?_⟩ <;> clear hA hB A B) | refine ⟨fun hg => ?_, fun hg => ?_⟩) <;> (try simp only [BN2] at hg) <;> (try simp only [hg, cndB])) <;> (try (refine p7 _ ?_; clear p7 K1)) <;> (try simp only [BN3] at hg))) | refine b6 fun K hK => ?_ | ((first | apply c8 | apply b8 | apply a9 | refine d5 ?_ | apply b7 | apply c9 | apply d4 | apply d7); try simp only [NB, simprocAttr]))
  refine s5 outs.length 60 (fun i => [(15, .i i), (14, .i outs.length), (13, aI outs), (6, .ptr (h.length + 2) 0 0), (5, .ptr (h.length + 1) 0 0), (3, .ptr h.length 0 0), (1, aI outs)])
    (fun i => [some ⟨0, D1 ns fl⟩, some ⟨0, [.i (v 0), .i (v 1), .i (v 2), .i (v 3)]⟩, some ⟨0, [.i 0, .i 0]⟩]) (fun i => chF fl v outs = chF fl v (outs.drop i)) ?_ rfl fun i hi hp K hK => ?_
  · (refine ⟨rfl, (by first | exact ⟨_, rfl⟩ | exact ⟨[], by simp⟩), ?_, ?_⟩ <;> simp only [S1, simprocAttr, KNB] <;> (try and_intros) <;> (try assumption) <;> (try trivial) <;> (try omega))
  rcases Nat.lt_or_ge i outs.length with hlt | hge
  · obtain ⟨f, hf⟩ : ∃ f, outs[i]? = some f := ⟨_, List.getElem?_eq_getElem hlt⟩
    obtain ⟨j, rfl, hj⟩ := ho f (List.mem_of_getElem? hf)
    obtain ⟨x, hx⟩ : ∃ x, fl[j]? = some x := ⟨_, List.getElem?_eq_getElem hj⟩
    have hx' := I8 hx
    have j0 : (0 : Int) ≤ (j : Int) := by omega
    have ht := fun h => kH (ht2 x (List.mem_of_getElem? hx)) hm2 v hv h
    rw [mu hf, Int.toNat_natCast, hx] at hp
    simp only at hp
    cases he : x.els with
    | true =>
      rw [he, if_pos rfl] at hp
      repeat' (first | ((repeat ((fail_if_success (refine hK _ ?_)); clear hK K)); refine hK _ ?_; clear hK K) | ((first | refine d8 fun K1 p7 => ?_ | refine d6 fun K1 p7 => ?_ | refine b5 fun A B hA hB => ?_); simp only [S1, simprocAttr, Y0, C2 hf, I3 hlt, D9 (by omega) hlt, j0, hx', eF, he, List.length_map]; first | refine p7 _ ?_; clear p7 K1 | ((first | refine hA ?_ | refine hB ?_); clear hA hB A B) | (((first | (refine ⟨fun hg => hA ?_, fun hg => hB ?_⟩ <;> clear hA hB A B) | refine ⟨fun hg => ?_, fun hg => ?_⟩) <;> (try simp only [BN2] at hg) <;> (try simp only [hg, cndB])) <;> (try (refine p7 _ ?_; clear p7 K1)) <;> (try simp only [BN3] at hg))) | refine b6 fun K hK => ?_ | ((first | apply c8 | apply b8 | apply a9 | refine d5 ?_ | apply b7 | apply c9 | apply d4 | apply d7); try simp only [NB, simprocAttr]))
      all_goals exact ⟨hlt, hp, by (refine ⟨rfl, (by first | exact ⟨_, rfl⟩ | exact ⟨[], by simp⟩), ?_, ?_⟩ <;> simp only [S1, simprocAttr, KNB] <;> (try and_intros) <;> (try assumption) <;> (try trivial) <;> (try omega))⟩
    | false =>
      rw [he, if_neg (by decide)] at hp
      by_cases h0 : (P0 x.cond v).2 = 0
      · have h0' : ((P0 x.cond v).2 != 0) = false := by simp [h0]
        rw [if_neg (by simpa using h0)] at hp
        cases hb : (P0 x.cond v).1 with
        | true =>
          rw [hb, if_pos rfl] at hp
          have ec : s6 fl v outs = ((j : Int), 0) := by unfold s6; rw [hp]; rfl
          rw [ec]
          repeat' (first | ((repeat ((fail_if_success (refine hK _ ?_)); clear hK K)); refine hK _ ?_; clear hK K) | ((first | refine d8 fun K1 p7 => ?_ | refine d6 fun K1 p7 => ?_ | refine b5 fun A B hA hB => ?_); simp only [S1, simprocAttr, Y0, C2 hf, I3 hlt, D9 (by omega) hlt, j0, hx', eF, he, h0', hb, List.length_map]; first | refine p7 _ ?_; clear p7 K1 | ((first | refine hA ?_ | refine hB ?_); clear hA hB A B) | ((first | apply b9 E90 | apply c7 E90); exact (ht _); refine p7 _ ?_; clear p7 K1) | (((first | (refine ⟨fun hg => hA ?_, fun hg => hB ?_⟩ <;> clear hA hB A B) | refine ⟨fun hg => ?_, fun hg => ?_⟩) <;> (try simp only [BN2] at hg) <;> (try simp only [hg, cndB])) <;> (try (refine p7 _ ?_; clear p7 K1)) <;> (try simp only [BN3] at hg))) | refine b6 fun K hK => ?_ | ((first | apply c8 | apply b8 | apply a9 | refine d5 ?_ | apply b7 | apply c9 | apply d4 | apply d7); try simp only [NB, simprocAttr]))
          all_goals simp only [S1, simprocAttr, ENB, Y0]
        | false =>
          rw [hb, if_neg (by decide)] at hp
          repeat' (first | ((repeat ((fail_if_success (refine hK _ ?_)); clear hK K)); refine hK _ ?_; clear hK K) | ((first | refine d8 fun K1 p7 => ?_ | refine d6 fun K1 p7 => ?_ | refine b5 fun A B hA hB => ?_); simp only [S1, simprocAttr, Y0, C2 hf, I3 hlt, D9 (by omega) hlt, j0, hx', eF, he, h0', hb, List.length_map]; first | refine p7 _ ?_; clear p7 K1 | ((first | refine hA ?_ | refine hB ?_); clear hA hB A B) | ((first | apply b9 E90 | apply c7 E90); exact (ht _); refine p7 _ ?_; clear p7 K1) | (((first | (refine ⟨fun hg => hA ?_, fun hg => hB ?_⟩ <;> clear hA hB A B) | refine ⟨fun hg => ?_, fun hg => ?_⟩) <;> (try simp only [BN2] at hg) <;> (try simp only [hg, cndB])) <;> (try (refine p7 _ ?_; clear p7 K1)) <;> (try simp only [BN3] at hg))) | refine b6 fun K hK => ?_ | ((first | apply c8 | apply b8 | apply a9 | refine d5 ?_ | apply b7 | apply c9 | apply d4 | apply d7); try simp only [NB, simprocAttr]))
          all_goals exact ⟨hlt, hp, by (refine ⟨rfl, (by first | exact ⟨_, rfl⟩ | exact ⟨[], by simp⟩), ?_, ?_⟩ <;> simp only [S1, simprocAttr, KNB] <;> (try and_intros) <;> (try assumption) <;> (try trivial) <;> (try omega))⟩
      · have h0' : ((P0 x.cond v).2 != 0) = true := by simp [h0]
        rw [if_pos h0] at hp
        have ec : s6 fl v outs = (0, (P0 x.cond v).2) := by unfold s6; rw [hp]; rfl
        rw [ec]
        repeat' (first | ((repeat ((fail_if_success (refine hK _ ?_)); clear hK K)); refine hK _ ?_; clear hK K) | ((first | refine d8 fun K1 p7 => ?_ | refine d6 fun K1 p7 => ?_ | refine b5 fun A B hA hB => ?_); simp only [S1, simprocAttr, Y0, C2 hf, I3 hlt, D9 (by omega) hlt, j0, hx', eF, he, h0', List.length_map]; first | refine p7 _ ?_; clear p7 K1 | ((first | refine hA ?_ | refine hB ?_); clear hA hB A B) | ((first | apply b9 E90 | apply c7 E90); exact (ht _); refine p7 _ ?_; clear p7 K1) | (((first | (refine ⟨fun hg => hA ?_, fun hg => hB ?_⟩ <;> clear hA hB A B) | refine ⟨fun hg => ?_, fun hg => ?_⟩) <;> (try simp only [BN2] at hg) <;> (try simp only [hg, cndB])) <;> (try (refine p7 _ ?_; clear p7 K1)) <;> (try simp only [BN3] at hg))) | refine b6 fun K hK => ?_ | ((first | apply c8 | apply b8 | apply a9 | refine d5 ?_ | apply b7 | apply c9 | apply d4 | apply d7); try simp only [NB, simprocAttr]))
        all_goals simp only [S1, simprocAttr, ENB, Y0]
  obtain rfl : i = outs.length := by omega
  rw [List.drop_length] at hp
  have ec : s6 fl v outs = (chE fl outs, 0) := by unfold s6; rw [hp]; rfl
  repeat' (first | ((repeat ((fail_if_success (refine hK _ ?_)); clear hK K)); refine hK _ ?_; clear hK K) | ((first | refine d8 fun K1 p7 => ?_ | refine d6 fun K1 p7 => ?_ | refine b5 fun A B hA hB => ?_); simp only [S1, simprocAttr, Y0, D6, List.length_map]; first | refine p7 _ ?_; clear p7 K1 | ((first | refine hA ?_ | refine hB ?_); clear hA hB A B) | (((first | (refine ⟨fun hg => hA ?_, fun hg => hB ?_⟩ <;> clear hA hB A B) | refine ⟨fun hg => ?_, fun hg => ?_⟩) <;> (try simp only [BN2] at hg) <;> (try simp only [hg, cndB])) <;> (try (refine p7 _ ?_; clear p7 K1)) <;> (try simp only [BN3] at hg))) | refine b6 fun K hK => ?_ | ((first | apply c8 | apply b8 | apply a9 | refine d5 ?_ | apply b7 | apply c9 | apply d4 | apply d7); try simp only [NB, simprocAttr]))
  refine s5 outs.length 60 (fun i => [(46, .i i), (45, .i outs.length), (44, aI outs), (6, .ptr (h.length + 2) 0 0), (3, .ptr h.length 0 0)])
    (fun i => [some ⟨0, D1 ns fl⟩, some ⟨0, [.i (v 0), .i (v 1), .i (v 2), .i (v 3)]⟩, some ⟨0, [.i 0, .i 0]⟩]) (fun i => chE fl outs = chE fl (outs.drop i)) ?_ rfl fun i hi hp K hK => ?_
  · (refine ⟨rfl, (by first | exact ⟨_, rfl⟩ | exact ⟨[], by simp⟩), ?_, ?_⟩ <;> simp only [S1, simprocAttr, KNB] <;> (try and_intros) <;> (try assumption) <;> (try trivial) <;> (try omega))
  rcases Nat.lt_or_ge i outs.length with hlt | hge
  · obtain ⟨f, hf⟩ : ∃ f, outs[i]? = some f := ⟨_, List.getElem?_eq_getElem hlt⟩
    obtain ⟨j, rfl, hj⟩ := ho f (List.mem_of_getElem? hf)
    obtain ⟨x, hx⟩ : ∃ x, fl[j]? = some x := ⟨_, List.getElem?_eq_getElem hj⟩
    have hx' := I8 hx
    have j0 : (0 : Int) ≤ (j : Int) := by omega
    have hee : z7 fl (j : Int) = x.els := by unfold z7; rw [Int.toNat_natCast, hx]
    rw [rU hf, hee] at hp
    cases he : x.els with
    | true =>
      rw [he, if_pos rfl] at hp
      repeat' (first | ((repeat ((fail_if_success (refine hK _ ?_)); clear hK K)); refine hK _ ?_; clear hK K) | ((first | refine d8 fun K1 p7 => ?_ | refine d6 fun K1 p7 => ?_ | refine b5 fun A B hA hB => ?_); simp only [S1, simprocAttr, Y0, C2 hf, I3 hlt, D9 (by omega) hlt, j0, hx', eF, he, List.length_map]; first | refine p7 _ ?_; clear p7 K1 | ((first | refine hA ?_ | refine hB ?_); clear hA hB A B) | (((first | (refine ⟨fun hg => hA ?_, fun hg => hB ?_⟩ <;> clear hA hB A B) | refine ⟨fun hg => ?_, fun hg => ?_⟩) <;> (try simp only [BN2] at hg) <;> (try simp only [hg, cndB])) <;> (try (refine p7 _ ?_; clear p7 K1)) <;> (try simp only [BN3] at hg))) | refine b6 fun K hK => ?_ | ((first | apply c8 | apply b8 | apply a9 | refine d5 ?_ | apply b7 | apply c9 | apply d4 | apply d7); try simp only [NB, simprocAttr]))
      all_goals simp only [S1, simprocAttr, ENB, Y0]
      all_goals rw [ec, hp]
    | false =>
      rw [he, if_neg (by decide)] at hp
      repeat' (first | ((repeat ((fail_if_success (refine hK _ ?_)); clear hK K)); refine hK _ ?_; clear hK K) | ((first | refine d8 fun K1 p7 => ?_ | refine d6 fun K1 p7 => ?_ | refine b5 fun A B hA hB => ?_); simp only [S1, simprocAttr, Y0, C2 hf, I3 hlt, D9 (by omega) hlt, j0, hx', eF, he, List.length_map]; first | refine p7 _ ?_; clear p7 K1 | ((first | refine hA ?_ | refine hB ?_); clear hA hB A B) | (((first | (refine ⟨fun hg => hA ?_, fun hg => hB ?_⟩ <;> clear hA hB A B) | refine ⟨fun hg => ?_, fun hg => ?_⟩) <;> (try simp only [BN2] at hg) <;> (try simp only [hg, cndB])) <;> (try (refine p7 _ ?_; clear p7 K1)) <;> (try simp only [BN3] at hg))) | refine b6 fun K hK => ?_ | ((first | apply c8 | apply b8 | apply a9 | refine d5 ?_ | apply b7 | apply c9 | apply d4 | apply d7); try simp only [NB, simprocAttr]))
      all_goals exact ⟨hlt, hp, by (refine ⟨rfl, (by first | exact ⟨_, rfl⟩ | exact ⟨[], by simp⟩), ?_, ?_⟩ <;> simp only [S1, simprocAttr, KNB] <;> (try and_intros) <;> (try assumption) <;> (try trivial) <;> (try omega))⟩
  obtain rfl : i = outs.length := by omega
  rw [List.drop_length] at hp
  repeat' (first | ((repeat ((fail_if_success (refine hK _ ?_)); clear hK K)); refine hK _ ?_; clear hK K) | ((first | refine d8 fun K1 p7 => ?_ | refine d6 fun K1 p7 => ?_ | refine b5 fun A B hA hB => ?_); simp only [S1, simprocAttr, Y0, D6]; first | refine p7 _ ?_; clear p7 K1 | ((first | refine hA ?_ | refine hB ?_); clear hA hB A B) | (((first | (refine ⟨fun hg => hA ?_, fun hg => hB ?_⟩ <;> clear hA hB A B) | refine ⟨fun hg => ?_, fun hg => ?_⟩) <;> (try simp only [BN2] at hg) <;> (try simp only [hg, cndB])) <;> (try (refine p7 _ ?_; clear p7 K1)) <;> (try simp only [BN3] at hg))) | refine b6 fun K hK => ?_ | ((first | apply c8 | apply b8 | apply a9 | refine d5 ?_ | apply b7 | apply c9 | apply d4 | apply d7); try simp only [NB, simprocAttr]))
  all_goals simp only [S1, simprocAttr, ENB, Y0]
  all_goals rw [ec, hp]
  all_goals rfl
end
section
def bU := And.intro T2 (And.intro T3 (And.intro T4 (And.intro T25 (And.intro T26 (And.intro T27 (And.intro T32 (And.intro T40 (And.intro T46 (And.intro T53 (And.intro T61 (And.intro T84 (And.intro T86 ux))))))))))))
attribute [local irreducible] awp q9 m7 n7 r5 q8
theorem qs {S T : List Int} {f : Int} (h : Q2 S f = some T) : T.length = S.length := by
  unfold Q2 at h
  split at h
  · cases h
  · cases h; simp
theorem qu {S T : List Int} {f : Int} (h : U3 S f = some T) : T.length = S.length := by
  unfold U3 at h
  split at h
  · cases h
  · cases h; simp
theorem ig {step : List Int → Int → Option (List Int)} (hs : ∀ S T f, step S f = some T → T.length = S.length) : ∀ {l S T : List Int}, P6 step l S = some T → T.length = S.length
  | [], S, T, h => by cases h; rfl
  | f :: r, S, T, h => by
    unfold P6 at h
    rw [List.foldlM_cons] at h
    obtain ⟨U, h1, h2⟩ := Option.bind_eq_some_iff.mp h
    rw [ig hs (l := r) (S := U) h2, hs _ _ _ h1]
theorem x7 {S : List Int} {x : Sp} {fr to : List Int} (hS : S.length = 49) (hx : x.to.length = 49) : ∀ y ∈ p9 S x fr to, y.to.length = 49 := by
  intro y hy
  unfold p9 at hy
  split at hy
  · cases hy
  · rename_i T hT
    split at hy
    · cases hy
    · rename_i U hU
      rw [List.mem_singleton.mp hy]
      simp only
      rw [ig (fun _ _ _ => qu) hU, ig (fun _ _ _ => qs) hT]
      simp [z8, hS, hx]
theorem GmOk.app {h : Heap} {b lb : Nat} {S : List Int} {l l2 : List Sp} (ok : GmOk h b lb S l) (h2 : ∀ y ∈ l2, y.to.length = 49) (hf : l.length + l2.length ≤ 1000000) : GmOk h b lb S (l ++ l2) :=
  ⟨ok.hb, ok.hl, ok.ne, ok.held, fun x hx => (List.mem_append.mp hx).elim (ok.len x) (h2 x), by rw [List.length_append]; exact hf⟩
def vS (S : List Int) : Int → Int := fun i => if i = 0 then S.getD 40 0 else if i = 1 then S.getD 41 0 else if i = 2 then S.getD 42 0 else S.getD 43 0
theorem uF (S : List Int) : vS S 0 = S.getD 40 0 := rfl
theorem uG (S : List Int) : vS S 1 = S.getD 41 0 := rfl
theorem uH (S : List Int) : vS S 2 = S.getD 42 0 := rfl
theorem uI (S : List Int) : vS S 3 = S.getD 43 0 := rfl
theorem kJ {S : List Int} (h : inV (vS S) = true) : ∀ i, Num (vS S i) := by
  unfold inV at h
  rw [uF, uG, uH, uI] at h
  simp only [inM, Bool.and_eq_true, decide_eq_true_eq] at h
  intro i
  unfold vS Num
  split
  · exact ⟨by omega, by omega⟩
  · split
    · exact ⟨by omega, by omega⟩
    · split <;> exact ⟨by omega, by omega⟩
theorem mv {S : List Int} (hS : S.length = 49) : ((S.drop 40).take 4).map AV.i = [.p (.int .i64 (vS S 0)), .p (.int .i64 (vS S 1)), .p (.int .i64 (vS S 2)), .p (.int .i64 (vS S 3))] := by
  rw [uF, uG, uH, uI]
  have e : ∀ k, k < 49 → S[k]? = some (S.getD k 0) := fun k hk => by rw [List.getD_eq_getElem?_getD, List.getElem?_eq_getElem (by omega)]; rfl
  apply List.ext_getElem?
  intro i
  rw [List.getElem?_map, List.getElem?_take]
  match i with
  | 0 => rw [if_pos (by omega), List.getElem?_drop, e 40 (by omega)]; rfl
  | 1 => rw [if_pos (by omega), List.getElem?_drop, e 41 (by omega)]; rfl
  | 2 => rw [if_pos (by omega), List.getElem?_drop, e 42 (by omega)]; rfl
  | 3 => rw [if_pos (by omega), List.getElem?_drop, e 43 (by omega)]; rfl
  | k + 4 => rw [if_neg (by omega)]; rfl
theorem D4 {ns : List Nd} {fl : List Fl} {S : List Int} {lb n : Nat} (hS : S.length = 49) : ((gmC ns fl S lb n).drop 42).take 4 = [.p (.int .i64 (vS S 0)), .p (.int .i64 (vS S 1)), .p (.int .i64 (vS S 2)), .p (.int .i64 (vS S 3))] := by
  have := gM (ns := ns) (fl := fl) (lb := lb) (n := n) (S := S) 40 4 (by omega)
  rw [show 2 + 40 = 42 by rfl] at this
  rw [this, mv hS]
def P1 (fl : List Fl) (S : List Int) (i : Int) (ins outs : List Int) : List Sp :=
  if outs.length = 1 then ins.flatMap fun f => p9 S ⟨i, f, 0, 0, 0, S⟩ [f] outs
  else if tk S (ins.headD 0) = 0 then []
  else if (s6 fl (vS S) outs).2 ≠ 0 then [u4 S i (s6 fl (vS S) outs).2]
  else p9 S ⟨i, (s6 fl (vS S) outs).1, 0, 0, 0, S⟩ ins [(s6 fl (vS S) outs).1]
theorem kK {fl : List Fl} {v : Int → Int} : ∀ {outs : List Int} {q : Int × Int}, chF fl v outs = some q → q.2 = 0 → q.1 ∈ outs
  | [], q, h, _ => by cases h
  | f :: r, q, h, h0 => by
    unfold chF at h
    split at h
    · exact List.mem_cons_of_mem _ (kK h h0)
    · split at h
      · exact List.mem_cons_of_mem _ (kK h h0)
      · split at h
        · cases h; contradiction
        · split at h
          · cases h; simp
          · exact List.mem_cons_of_mem _ (kK h h0)
theorem oa {fl : List Fl} : ∀ {outs : List Int}, (∃ f ∈ outs, z7 fl f = true) → chE fl outs ∈ outs
  | [], h => by obtain ⟨f, hf, _⟩ := h; cases hf
  | f :: r, h => by
    unfold chE
    split
    · simp
    · rename_i hn
      obtain ⟨g, hg, he⟩ := h
      rcases List.mem_cons.mp hg with rfl | hg
      · exact absurd he hn
      · exact List.mem_cons_of_mem _ (oa ⟨g, hg, he⟩)
theorem ob {fl : List Fl} {v : Int → Int} {outs : List Int} (he : ∃ f ∈ outs, z7 fl f = true) (h0 : (s6 fl v outs).2 = 0) : (s6 fl v outs).1 ∈ outs := by
  unfold s6 at *
  cases hq : chF fl v outs with
  | none => rw [hq] at h0; exact oa he
  | some q => rw [hq] at h0; exact kK hq h0
theorem qv {h : Heap} {b lb : Nat} {ns : List Nd} {fl : List Fl} (nk : NetOk ns fl) {S : List Int} {l : List Sp} (ok : GmOk h b lb S l) (few : l.length ≤ 900000) (hf : fl.length ≤ 40) (i : Int) (ins outs : List Int) (hi : InF ins) (ho : InF outs) (hof : ∀ x ∈ outs, ∃ i : Nat, x = (i : Int) ∧ i < fl.length)
    (hne0 : ins ≠ []) (hels : outs.length ≠ 1 → ∃ f ∈ outs, z7 fl f = true) :
    f9 Tryz.prog gW 45 [.ptr b 0 0, .i i, aI ins, aI outs] (m3 h b lb ns fl S l) (fun r h' => r = .undef ∧ h' = m3 h b lb ns fl S (l ++ P1 fl S i ins outs)) := by
  have hb := ok.hb
  have hl := ok.hl
  have hne := ok.ne
  have hS := ok.held.1
  have gl := v4 (ns := ns) (fl := fl) (lb := lb) (n := l.length) hS
  have t49 := v8 (ns := ns) (fl := fl) (lb := lb) (n := l.length) hS
  have htl := F6 hS
  have hin0 : (0 : Int) ≤ 0 := Int.le_refl 0
  by_cases h1 : outs.length = 1
  · have h1' : ((outs.length : Int) == 1) = true := by simp [h1]
    let acc := fun j => (ins.take j).flatMap fun f => p9 S ⟨i, f, 0, 0, 0, S⟩ [f] outs
    have hal : ∀ j, (acc j).length ≤ j := by
      intro j
      induction j with
      | zero => simp [acc]
      | succ j ih =>
        rcases Nat.lt_or_ge j ins.length with hj | hj
        · have e : ins.take (j + 1) = ins.take j ++ [ins[j]] := by rw [List.take_add_one, List.getElem?_eq_getElem hj]; rfl
          simp only [acc] at ih ⊢
          rw [e, List.flatMap_append, List.length_append]
          have := A2 S ⟨i, ins[j], 0, 0, 0, S⟩ [ins[j]] outs
          simp only [List.flatMap_cons, List.flatMap_nil, List.append_nil]
          omega
        · have e : ins.take (j + 1) = ins.take j := by rw [List.take_of_length_le (by omega), List.take_of_length_le hj]
          simp only [acc] at ih ⊢
          rw [e]; omega
    have hto : ∀ j, ∀ y ∈ acc j, y.to.length = 49 := by
      intro j y hy
      obtain ⟨f, _, hy⟩ := List.mem_flatMap.mp hy
      exact x7 hS hS y hy
    have eg : P1 fl S i ins outs = acc ins.length := by unfold P1; rw [if_pos h1]; simp only [acc, List.take_length]
    rw [eg]
    have hil := hi.1
    refine j8 (rl := []) i6 Tryz.func45 rfl (rs := []) rfl Tryz.ntmps45 (by simp) ?_
    repeat' (first | ((repeat ((fail_if_success (refine hK _ ?_)); clear hK K)); refine hK _ ?_; clear hK K) | ((first | refine d8 fun K1 p7 => ?_ | refine d6 fun K1 p7 => ?_ | refine b5 fun A B hA hB => ?_); simp only [S1, simprocAttr, bU, h1', PGB, n6 hb hne, k9 hl, l6 hb hne, j9 hl, gmB, spB, gl]; first | refine p7 _ ?_; clear p7 K1 | ((first | refine hA ?_ | refine hB ?_); clear hA hB A B) | (((first | (refine ⟨fun hg => hA ?_, fun hg => hB ?_⟩ <;> clear hA hB A B) | refine ⟨fun hg => ?_, fun hg => ?_⟩) <;> (try simp only [BN2] at hg) <;> (try simp only [hg, cndB])) <;> (try (refine p7 _ ?_; clear p7 K1)) <;> (try simp only [BN3] at hg))) | refine b6 fun K hK => ?_ | ((first | apply c8 | apply b8 | apply a9 | refine d5 ?_ | apply b7 | apply c9 | apply d4 | apply d7); try simp only [NB, simprocAttr]))
    refine S6 ins.length 76 (fun j => m3 h b lb ns fl S (l ++ acc j)) (fun j => [(16, .i j), (15, .i ins.length), (14, aI ins), (3, aI outs), (1, .i i), (0, .ptr b 0 0)]) (fun j => []) (fun j => True) (fun j => ⟨by rw [j7, j7], aa hl⟩) ?_ trivial fun j hj hp K hK => ?_
    · have e0 : acc 0 = [] := by simp [acc]
      simp only [e0, List.append_nil]
      refine ⟨rfl, ⟨[], by simp only [List.append_nil]⟩, ?_, trivial⟩
      simp only [S1, simprocAttr, KNB, j7] <;> (try and_intros) <;> (try assumption) <;> (try trivial) <;> (try omega)
    have okj : GmOk h b lb S (l ++ acc j) := ok.app (hto j) (by have := hal j; omega)
    have glj := v4 (ns := ns) (fl := fl) (lb := lb) (n := (l ++ acc j).length) hS
    have t49j := v8 (ns := ns) (fl := fl) (lb := lb) (n := (l ++ acc j).length) hS
    rcases Nat.lt_or_ge j ins.length with hlt | hge
    · obtain ⟨f, hfj⟩ : ∃ f, ins[j]? = some f := ⟨_, List.getElem?_eq_getElem hlt⟩
      have hf1 : InF [f] := ⟨by simp, fun g hg => by rw [List.mem_singleton.mp hg]; exact hi.2 f (List.mem_of_getElem? hfj)⟩
      have ea : acc (j + 1) = acc j ++ p9 S ⟨i, f, 0, 0, 0, S⟩ [f] outs := by
        simp only [acc]
        rw [List.take_add_one, hfj, List.flatMap_append]; simp
      have ea' : l ++ acc (j + 1) = (l ++ acc j) ++ p9 S ⟨i, f, 0, 0, 0, S⟩ [f] outs := by rw [ea, List.append_assoc]
      generalize hlj : l ++ acc j = lj at ea' okj glj t49j ⊢
      repeat' (first | ((repeat ((fail_if_success (refine hK _ ?_)); clear hK K)); refine hK _ ?_; clear hK K) | ((first | refine d8 fun K1 p7 => ?_ | refine d6 fun K1 p7 => ?_ | refine b5 fun A B hA hB => ?_); simp only [S1, simprocAttr, bU, C2 hfj, I3 hlt, D9 (by omega) hlt, t49j, glj, htl, hS, PGB, n6 hb hne, k9 hl, l6 hb hne, j9 hl, gmB, spB, gl]; first | refine p7 _ ?_; clear p7 K1 | ((first | refine hA ?_ | refine hB ?_); clear hA hB A B) | ((first | apply b9 E28 | apply c7 E28); exact (dQ okj ⟨i, f, 0, 0, 0, S⟩ hS [f] outs hf1 ho); refine p7 _ ?_; clear p7 K1) | (((first | (refine ⟨fun hg => hA ?_, fun hg => hB ?_⟩ <;> clear hA hB A B) | refine ⟨fun hg => ?_, fun hg => ?_⟩) <;> (try simp only [BN2] at hg) <;> (try simp only [hg, cndB])) <;> (try (refine p7 _ ?_; clear p7 K1)) <;> (try simp only [BN3] at hg))) | refine b6 fun K hK => ?_ | ((first | apply c8 | apply b8 | apply a9 | refine d5 ?_ | apply b7 | apply c9 | apply d4 | apply d7); try simp only [NB, simprocAttr]))
      all_goals refine ⟨hlt, trivial, ?_⟩
      all_goals simp only [ea']
      all_goals refine ⟨rfl, ⟨[], by simp only [List.append_nil]⟩, ?_, trivial⟩
      all_goals simp only [S1, simprocAttr, KNB, j7] <;> (try and_intros) <;> (try assumption) <;> (try trivial) <;> (try omega)
    · obtain rfl : j = ins.length := by omega
      repeat' (first | ((repeat ((fail_if_success (refine hK _ ?_)); clear hK K)); refine hK _ ?_; clear hK K) | ((first | refine d8 fun K1 p7 => ?_ | refine d6 fun K1 p7 => ?_ | refine b5 fun A B hA hB => ?_); simp only [S1, simprocAttr, bU, D6]; first | refine p7 _ ?_; clear p7 K1 | ((first | refine hA ?_ | refine hB ?_); clear hA hB A B) | (((first | (refine ⟨fun hg => hA ?_, fun hg => hB ?_⟩ <;> clear hA hB A B) | refine ⟨fun hg => ?_, fun hg => ?_⟩) <;> (try simp only [BN2] at hg) <;> (try simp only [hg, cndB])) <;> (try (refine p7 _ ?_; clear p7 K1)) <;> (try simp only [BN3] at hg))) | refine b6 fun K hK => ?_ | ((first | apply c8 | apply b8 | apply a9 | refine d5 ?_ | apply b7 | apply c9 | apply d4 | apply d7); try simp only [NB, simprocAttr]))
      all_goals simp only [S1, simprocAttr, ENB, y8, y1, j7, m8, l8] <;> first | exact i5 hl | exact ⟨i5 hl, rfl⟩ | exact ⟨i5 hl, rfl, rfl⟩
  · have h1' : ((outs.length : Int) == 1) = false := by simp; omega
    obtain ⟨i0, hi0, hh⟩ : ∃ i0, ins[0]? = some i0 ∧ ins.headD 0 = i0 := by
      cases ins with
      | nil => exact absurd rfl hne0
      | cons a r => exact ⟨a, rfl, rfl⟩
    obtain ⟨f0, f40⟩ := hi.2 i0 (List.mem_of_getElem? hi0)
    obtain ⟨k, rfl⟩ := Int.eq_ofNat_of_zero_le f0
    have k40 : k < 40 := by omega
    obtain ⟨hv, v0, v3⟩ := ok.held.at k40
    have gk := U2 (ns := ns) (fl := fl) (lb := lb) (n := l.length) hv
    have gv := D4 (ns := ns) (fl := fl) (lb := lb) (n := l.length) hS
    by_cases hz : tk S (k : Int) = 0
    · have hz' : (tk S (k : Int) == 0) = true := by simp [hz]
      have eg : P1 fl S i ins outs = [] := by unfold P1; rw [if_neg h1, hh, if_pos hz]
      rw [eg, List.append_nil]
      refine j8 (rl := []) i6 Tryz.func45 rfl (rs := []) rfl Tryz.ntmps45 (by simp) ?_
      repeat' (first | ((repeat ((fail_if_success (refine hK _ ?_)); clear hK K)); refine hK _ ?_; clear hK K) | ((first | refine d8 fun K1 p7 => ?_ | refine d6 fun K1 p7 => ?_ | refine b5 fun A B hA hB => ?_); simp only [S1, simprocAttr, bU, h1', f0, f40, gk, hz', C2 hi0, hin0, PGB, n6 hb hne, k9 hl, l6 hb hne, j9 hl, gmB, spB, gl]; first | refine p7 _ ?_; clear p7 K1 | ((first | refine hA ?_ | refine hB ?_); clear hA hB A B) | (((first | (refine ⟨fun hg => hA ?_, fun hg => hB ?_⟩ <;> clear hA hB A B) | refine ⟨fun hg => ?_, fun hg => ?_⟩) <;> (try simp only [BN2] at hg) <;> (try simp only [hg, cndB])) <;> (try (refine p7 _ ?_; clear p7 K1)) <;> (try simp only [BN3] at hg))) | refine b6 fun K hK => ?_ | ((first | apply c8 | apply b8 | apply a9 | refine d5 ?_ | apply b7 | apply c9 | apply d4 | apply d7); try simp only [NB, simprocAttr]))
      all_goals simp only [S1, simprocAttr, ENB, y8, y1, j7, m8, l8] <;> first | exact i5 hl | exact ⟨i5 hl, rfl⟩ | exact ⟨i5 hl, rfl, rfl⟩
    · have hz' : (tk S (k : Int) == 0) = false := by simp [hz]
      have ch := fun h => kI ns fl nk outs ho.1 hof (vS S) kJ h
      by_cases h2 : (s6 fl (vS S) outs).2 = 0
      · have h2' : ((s6 fl (vS S) outs).2 != 0) = false := by simp [h2]
        have hin := ho.2 _ (ob (hels h1) h2)
        have eg : P1 fl S i ins outs = p9 S ⟨i, (s6 fl (vS S) outs).1, 0, 0, 0, S⟩ ins [(s6 fl (vS S) outs).1] := by
          unfold P1; rw [if_neg h1, hh, if_neg hz, if_neg (by simpa using h2)]
        rw [eg]
        have hf1 : InF [(s6 fl (vS S) outs).1] := ⟨by simp, fun g hg => by rw [List.mem_singleton.mp hg]; exact hin⟩
        generalize (s6 fl (vS S) outs).1 = cf at *
        refine j8 (rl := []) i6 Tryz.func45 rfl (rs := []) rfl Tryz.ntmps45 (by simp) ?_
        repeat' (first | ((first | refine c8 ?_ | refine b8 ?_ | refine o5 ?_ | refine m9 ?_); (try simp only [NB])) | ((repeat ((fail_if_success (refine hK _ ?_)); clear hK K)); refine hK _ ?_; clear hK K) | ((first | refine d8 fun K1 p7 => ?_ | refine d6 fun K1 p7 => ?_ | refine o6 rfl rfl rfl fun K1 p7 => ?_ | refine b5 fun A B hA hB => ?_); simp only [S1, simprocAttr, bU, h1', h2', f0, f40, gk, gv, t49, htl, hS, hz', k8, C2 hi0, hin0, PGB, n6 hb hne, k9 hl, l6 hb hne, j9 hl, gmB, spB, gl]; first | (refine p7 _ ?_; clear p7 K1) | ((first | refine hA ?_ | refine hB ?_); clear hA hB A B) | ((first | apply b9 E75 | apply c7 E75); exact (ch _); (refine p7 _ ?_; clear p7 K1)) | ((first | apply b9 E28 | apply c7 E28); exact (W5 ok ⟨i, cf, 0, 0, 0, S⟩ hS ins [cf] hi hf1 _); (refine p7 _ ?_; clear p7 K1)) | (((first | (refine ⟨fun hg => hA ?_, fun hg => hB ?_⟩ <;> clear hA hB A B) | refine ⟨fun hg => ?_, fun hg => ?_⟩) <;> (try simp only [BN2] at hg) <;> (try simp only [hg, cndB])) <;> (try (refine p7 _ ?_; clear p7 K1)) <;> (try simp only [BN3] at hg))) | ((first | refine t9 (v := ?_) rfl rfl rfl rfl (by decide) (fun R1 K1 p7 => ?_) ?_ | refine t8 (v := ?_) rfl rfl rfl (by decide) (fun K1 p7 => ?_) ?_ | refine r8 (v := ?_) rfl rfl rfl (by decide) (fun K1 p7 => ?_) ?_); rotate_left; (focus (simp only [S1, simprocAttr, bU, h1', h2', f0, f40, gk, gv, t49, htl, hS, hz', k8, C2 hi0, hin0, PGB, n6 hb hne, k9 hl, l6 hb hne, j9 hl, gmB, spB, gl]; first | (exact p7 _ _ _) | ((first | apply b9 E75 | apply c7 E75); exact (ch _); exact p7 _ _ _) | ((first | apply b9 E28 | apply c7 E28); exact (W5 ok ⟨i, cf, 0, 0, 0, S⟩ hS ins [cf] hi hf1 _); exact p7 _ _ _)))) | (refine n5 rfl rfl rfl ?_) | ((first | refine i3 (z := ?_) 0 rfl rfl rfl rfl (by decide) rfl ?_ ?_ | refine i3 (z := ?_) 1 rfl rfl rfl rfl (by decide) rfl ?_ ?_ | refine i3 (z := ?_) 2 rfl rfl rfl rfl (by decide) rfl ?_ ?_); rotate_left; (focus (simp only [S1, simprocAttr, bU, h1', h2', f0, f40, gk, gv, t49, htl, hS, hz', k8, C2 hi0, hin0, PGB, n6 hb hne, k9 hl, l6 hb hne, j9 hl, gmB, spB, gl, u9]; rfl))) | (refine b6 fun K hK => ?_) | (refine p6 [0, 1, 2, 3, 4, 5, 6, 7, 8, 9, 10, 11, 12] 1 (fs := []) rfl (by kernel_rfl) (by kernel_rfl) ?_) | (refine p6 [0, 1, 2, 3, 4, 5, 6, 7, 8, 9, 10, 11, 12, 13] 0 (fs := []) rfl (by kernel_rfl) (by kernel_rfl) ?_) | ((first | refine a9 ?_ | refine j4 (by kernel_rfl) ?_ | refine b7 ?_ | refine c9 ?_ | refine d4 ?_ | refine d7 ?_); try simp only [NB, simprocAttr]))
        all_goals simp only [S1, simprocAttr, ENB, y8, y1, j7, m8, l8] <;> first | exact i5 hl | exact ⟨i5 hl, rfl⟩ | exact ⟨i5 hl, rfl, rfl⟩
      · have h2' : ((s6 fl (vS S) outs).2 != 0) = true := by simp [h2]
        have eg : P1 fl S i ins outs = [u4 S i (s6 fl (vS S) outs).2] := by
          unfold P1; rw [if_neg h1, hh, if_neg hz, if_pos h2]
        rw [eg]
        refine j8 (rl := []) i6 Tryz.func45 rfl (rs := []) rfl Tryz.ntmps45 (by simp) ?_
        repeat' (first | ((first | refine c8 ?_ | refine b8 ?_ | refine o5 ?_ | refine m9 ?_); (try simp only [NB])) | ((repeat ((fail_if_success (refine hK _ ?_)); clear hK K)); refine hK _ ?_; clear hK K) | ((first | refine d8 fun K1 p7 => ?_ | refine d6 fun K1 p7 => ?_ | refine o6 rfl rfl rfl fun K1 p7 => ?_ | refine b5 fun A B hA hB => ?_); simp only [S1, simprocAttr, bU, h1', h2', f0, f40, gk, gv, t49, htl, hS, hz', k8, C2 hi0, hin0, PGB, n6 hb hne, k9 hl, l6 hb hne, j9 hl, gmB, spB, gl]; first | (refine p7 _ ?_; clear p7 K1) | ((first | refine hA ?_ | refine hB ?_); clear hA hB A B) | ((first | apply b9 E75 | apply c7 E75); exact (ch _); (refine p7 _ ?_; clear p7 K1)) | ((first | apply b9 E74 | apply c7 E74); exact (gQ ok i (s6 fl (vS S) outs).2 _); (refine p7 _ ?_; clear p7 K1)) | (((first | (refine ⟨fun hg => hA ?_, fun hg => hB ?_⟩ <;> clear hA hB A B) | refine ⟨fun hg => ?_, fun hg => ?_⟩) <;> (try simp only [BN2] at hg) <;> (try simp only [hg, cndB])) <;> (try (refine p7 _ ?_; clear p7 K1)) <;> (try simp only [BN3] at hg))) | ((first | refine t9 (v := ?_) rfl rfl rfl rfl (by decide) (fun R1 K1 p7 => ?_) ?_ | refine t8 (v := ?_) rfl rfl rfl (by decide) (fun K1 p7 => ?_) ?_ | refine r8 (v := ?_) rfl rfl rfl (by decide) (fun K1 p7 => ?_) ?_); rotate_left; (focus (simp only [S1, simprocAttr, bU, h1', h2', f0, f40, gk, gv, t49, htl, hS, hz', k8, C2 hi0, hin0, PGB, n6 hb hne, k9 hl, l6 hb hne, j9 hl, gmB, spB, gl]; first | (exact p7 _ _ _) | ((first | apply b9 E75 | apply c7 E75); exact (ch _); exact p7 _ _ _) | ((first | apply b9 E74 | apply c7 E74); exact (gQ ok i (s6 fl (vS S) outs).2 _); exact p7 _ _ _)))) | (refine n5 rfl rfl rfl ?_) | ((first | refine i3 (z := ?_) 0 rfl rfl rfl rfl (by decide) rfl ?_ ?_ | refine i3 (z := ?_) 1 rfl rfl rfl rfl (by decide) rfl ?_ ?_ | refine i3 (z := ?_) 2 rfl rfl rfl rfl (by decide) rfl ?_ ?_); rotate_left; (focus (simp only [S1, simprocAttr, bU, h1', h2', f0, f40, gk, gv, t49, htl, hS, hz', k8, C2 hi0, hin0, PGB, n6 hb hne, k9 hl, l6 hb hne, j9 hl, gmB, spB, gl, u9]; rfl))) | (refine b6 fun K hK => ?_) | (refine p6 [0, 1, 2, 3, 4, 5, 6, 7, 8, 9, 10, 11, 12] 1 (fs := []) rfl (by kernel_rfl) (by kernel_rfl) ?_) | ((first | refine a9 ?_ | refine j4 (by kernel_rfl) ?_ | refine b7 ?_ | refine c9 ?_ | refine d4 ?_ | refine d7 ?_); try simp only [NB, simprocAttr]))
        all_goals simp only [S1, simprocAttr, ENB, y8, y1, j7, m8, l8] <;> first | exact i5 hl | exact ⟨i5 hl, rfl⟩ | exact ⟨i5 hl, rfl, rfl⟩
end
end Go.Proofs.YtjpphhcimpclpaaGreatDoor.AM
